/- Walks of the reference: rules, the lengths of a grammar's rules. -/
import Derived.Test.YtefcdkgfabaffaaG4
namespace Go.Proofs.Ytefcdkgfabaffaa
open Go.ChangeShapes Go.WideShapes Go.RowKit
set_option linter.unusedVariables false
set_option linter.unusedSimpArgs false
set_option maxHeartbeats 2000000
set_option maxRecDepth 100000
/-- a rule is right at a place -/
def ruB (k : Nat) (r : Ru) : Bool := if r.1.size = 0 then decide (0 ≤ r.2.1 ∧ r.2.1 < k ∧ 0 ≤ r.2.2 ∧ r.2.2 < k) else decide (r.1.size = 1 ∧ validB r.1 = true ∧ r.2.1 = 0 ∧ r.2.2 = 0)
theorem s_l02Rule (b o k : Nat) (x1 : ByteArray) (x2 x3 : Int) (w : World) (hk : k ≤ 1048576) (hs : x1.size ≤ 1048576) (h0 : w.cell? ⟨b, o, none⟩ = some (.string x1)) (h1 : w.cell? ⟨b, o + 1, none⟩ = some (.int .i64 x2)) (h2 : w.cell? ⟨b, o + 2, none⟩ = some (.int .i64 x3)) :
    Calls Try.prog 155 #[.pointer (some ⟨b, o, none⟩), .int .i64 k] w fun e w' => e = .returned (.bool (ruB k (x1, x2, x3))) ∧ w = w' := by
  by_cases hz : x1.size = 0
  · have e := size_zero hz
    subst e
    have HR : Hid (ruB k (⟨#[]⟩, x2, x3) = decide (0 ≤ x2 ∧ x2 < k ∧ 0 ≤ x3 ∧ x3 < k)) := by show _ = _; unfold ruB; exact if_pos rfl
    by_cases hr2 : 0 ≤ x2 ∧ x2 < k
    · have HW2 := Lib.hid (fun w => s_l00In_r x2 0 ((k : Int) - 1) true (by simp; omega) w)
      by_cases hr3 : 0 ≤ x3 ∧ x3 < k
      · have HW3 := Lib.hid (fun w => s_l00In_r x3 0 ((k : Int) - 1) true (by simp; omega) w)
        have HF : Hid (ruB k (⟨#[]⟩, x2, x3) = true) := by show _ = _; rw [HR.out, decide_eq_true_eq]; exact ⟨hr2.1, hr2.2, hr3.1, hr3.2⟩
        clear hr2 hr3
        go_enter Try.func155, Try.ntmps155
        go_wp2_with fail
        refine (HW2.out _).mono ?_
        rintro e w3 ⟨rfl, rfl⟩
        go_wp2_with fail
        refine (HW3.out _).mono ?_
        rintro e w3 ⟨rfl, rfl⟩
        go_wp2
        go_ret
        exact ⟨ret_bool HF.out.symm, rfl⟩
      · have HW3 := Lib.hid (fun w => s_l00In_r x3 0 ((k : Int) - 1) false (by simp; omega) w)
        have HF : Hid (ruB k (⟨#[]⟩, x2, x3) = false) := by show _ = _; rw [HR.out, decide_eq_false_iff_not]; omega
        clear hr2 hr3
        go_enter Try.func155, Try.ntmps155
        go_wp2_with fail
        refine (HW2.out _).mono ?_
        rintro e w3 ⟨rfl, rfl⟩
        go_wp2_with fail
        refine (HW3.out _).mono ?_
        rintro e w3 ⟨rfl, rfl⟩
        go_wp2
        go_ret
        exact ⟨ret_bool HF.out.symm, rfl⟩
    · have HW2 := Lib.hid (fun w => s_l00In_r x2 0 ((k : Int) - 1) false (by simp; omega) w)
      have HF : Hid (ruB k (⟨#[]⟩, x2, x3) = false) := by show _ = _; rw [HR.out, decide_eq_false_iff_not]; omega
      clear hr2
      go_enter Try.func155, Try.ntmps155
      go_wp2_with fail
      refine (HW2.out _).mono ?_
      rintro e w3 ⟨rfl, rfl⟩
      go_wp2
      go_ret
      exact ⟨ret_bool HF.out.symm, rfl⟩
  · have HR : Hid (ruB k (x1, x2, x3) = decide (x1.size = 1 ∧ validB x1 = true ∧ x2 = 0 ∧ x3 = 0)) := by show _ = _; unfold ruB; exact if_neg hz
    have hne := neq_empty hz
    have hne2 := not_empty hz
    by_cases h1' : x1.size = 1
    · have h1i : ((x1.size : Int) == 1) = true := by rw [h1']; rfl
      have HL := Lib.hid (fun w => s_l01Ok x1 w (by unfold maxLen; omega))
      cases hv : validB x1
      · have HF : Hid (ruB k (x1, x2, x3) = false) := by show _ = _; rw [HR.out, decide_eq_false_iff_not, hv]; simp
        rw [hv] at HL
        clear hz h1' hv
        go_enter Try.func155, Try.ntmps155
        go_wp2_with fail
        refine (HL.out _).mono ?_
        rintro e w3 ⟨rfl, rfl⟩
        go_wp2
        go_ret
        exact ⟨ret_bool HF.out.symm, rfl⟩
      · have HF : Hid (ruB k (x1, x2, x3) = (x2 == 0 && x3 == 0)) := by show _ = _; rw [HR.out, hv]; by_cases ha : x2 = 0 <;> by_cases hc : x3 = 0 <;> simp [h1', ha, hc]
        rw [hv] at HL
        clear hz h1' hv
        cases hx2 : (x2 == 0)
        all_goals
          rw [hx2] at HF
          go_enter Try.func155, Try.ntmps155
          go_wp2_with fail
          refine (HL.out _).mono ?_
          rintro e w3 ⟨rfl, rfl⟩
          go_wp2
          go_ret
          exact ⟨ret_bool HF.out.symm, rfl⟩
    · have h1i : ((x1.size : Int) == 1) = false := by rw [beq_eq_false_iff_ne]; omega
      have HF : Hid (ruB k (x1, x2, x3) = false) := by show _ = _; rw [HR.out, decide_eq_false_iff_not]; omega
      clear hz h1'
      go_enter Try.func155, Try.ntmps155
      go_wp2
      go_ret
      exact ⟨ret_bool HF.out.symm, rfl⟩
theorem ruP_ruB {ls : List Int} {r : Ru} (h : ruB ls.length r = false) : ruP ls r = none := by
  unfold ruB at h
  by_cases hz : r.1.size = 0
  · rw [if_pos hz, decide_eq_false_iff_not] at h
    exact ruP_out hz h
  · rw [if_neg hz, decide_eq_false_iff_not] at h
    exact ruP_bad hz h
theorem s_l02SizesX (bq oq cap : Nat) (a : Option Addr) (l : List Ru) (w : World) (hn : l.length ≤ 1048576) (hsz : ∀ r ∈ l, r.1.size ≤ 1048576) (hcell : w.cell? ⟨bq, oq, none⟩ = some (.slice a l.length cap)) (hin : InRu w (.slice a l.length cap) l) :
    Calls Try.prog 145 #[.pointer (some ⟨bq, oq, none⟩)] w fun e w' => ∃ v' ls', e = .returned (.tuple #[v', .bool (lnT l l.length).isSome]) ∧ Below w.heap.size w w' ∧ ls'.length ≤ l.length ∧ w'.ownsRow w.heap.size 2 1 v' ls'.length (ls'.map (Value.int .i64)) ∧ ((lnT l l.length).isSome = true → ls' = gLn l) := by
  have HIN := Lib.hid hin
  have HSZ := Lib.hid hsz
  have hbq := World.block_lt_of_cell? _ _ hcell
  have HC := Lib.hid hcell
  clear hin hsz
  go_enter Try.func145, Try.ntmps145
  go_wp2
  go_loopw [4, 5, 6, 7] (fun o i _ _ wr => Below w.heap.size w wr ∧ ∃ (k : Nat) (ls : List Int), k ≤ l.length ∧ i = .int .i64 k ∧ lnT l k = some ls ∧ wr.ownsRow w.heap.size 2 1 o ls.length (ls.map (Value.int .i64))) (fun _ i _ _ _ => l.length - (intOf i).toNat)
  case atStart => exact ⟨(Below.refl _ _).alloc (Nat.le_refl _) _, 0, [], by omega, rfl, rfl, World.ownsRow_made w #[] 0 (Nat.le_refl _) (by decide) (by simp)⟩
  case round =>
    obtain ⟨hb, k, ls, hk, rfl, hln, hown⟩ := hrel
    have HB := Lib.hid hb
    have HOWN := Lib.hid hown
    have hcw : wr.cell? ⟨bq, oq, none⟩ = some (.slice a l.length cap) := by rw [hb.cell (p := ⟨bq, oq, none⟩) hbq]; exact HC.out
    obtain ⟨hlen, hbd⟩ := lnT_bd hln
    subst hlen
    by_cases hlt : ls.length < l.length
    · obtain ⟨b, off, rfl, hbl, hc0, hc1, hc2⟩ := inRu_at (inRu_below HIN.out hb) hlt
      have hin : ((ls.length : Nat) : Int) < l.length := by omega
      have hs1 : (ruA l ls.length).1.size ≤ 1048576 := HSZ.out _ (ruA_mem hlt)
      have HEND : Hid (ruP ls (ruA l ls.length) = none → (lnT l l.length).isSome = false) := fun h => (lnT_end (by omega) (lnT_bad hln h)).2.2
      have HSTEP : Hid (∀ n, ruP ls (ruA l ls.length) = some n → lnT l (ls.length + 1) = some (ls ++ [n])) := fun n h => lnT_step hln h
      have HRU := Lib.hid (s_l02Rule b (off + ls.length * 3) ls.length (ruA l ls.length).1 (ruA l ls.length).2.1 (ruA l ls.length).2.2 wr (by omega) hs1 hc0 hc1 hc2)
      clear hb hown hln
      cases hrb : ruB ls.length (ruA l ls.length)
      · have HF := Lib.hid (HEND.out (ruP_ruB hrb))
        rw [show ((ruA l ls.length).1, (ruA l ls.length).2.1, (ruA l ls.length).2.2) = ruA l ls.length from rfl, hrb] at HRU
        clear HEND HSTEP hrb hc0 hc1 hc2
        go_wp2_with fail
        refine HRU.out.mono ?_
        rintro e w2 ⟨rfl, rfl⟩
        go_wp2
        go_ret2
        exact ⟨_, ls, by rw [HF.out]; rfl, HB.out, by omega, HOWN.out, fun h => by rw [HF.out] at h; cases h⟩
      · rw [show ((ruA l ls.length).1, (ruA l ls.length).2.1, (ruA l ls.length).2.2) = ruA l ls.length from rfl, hrb] at HRU
        by_cases hz : (ruA l ls.length).1.size = 0
        · have hr : 0 ≤ (ruA l ls.length).2.1 ∧ (ruA l ls.length).2.1 < ls.length ∧ 0 ≤ (ruA l ls.length).2.2 ∧ (ruA l ls.length).2.2 < ls.length := by
            rw [ruB, if_pos hz, decide_eq_true_eq] at hrb; exact hrb
          have HPa := Lib.hid (ruP_pair (ls := ls) hz hr)
          have HPl := Lib.hid (ruP_long (ls := ls) hz hr)
          clear hrb
          generalize ruP ls (ruA l ls.length) = rp at *
          generalize (ruA l ls.length).1 = x1 at *
          generalize (ruA l ls.length).2.1 = x2 at *
          generalize (ruA l ls.length).2.2 = x3 at *
          have ex := size_zero hz
          subst ex
          obtain ⟨hr1, hr2, hr3, hr4⟩ := hr
          obtain ⟨p, rfl⟩ := Int.eq_ofNat_of_zero_le hr1
          obtain ⟨q, rfl⟩ := Int.eq_ofNat_of_zero_le hr3
          have hp : p < ls.length := by omega
          have hq : q < ls.length := by omega
          have hown2 := HOWN.out
          obtain ⟨ao, co, rfl, hsome, -⟩ := owns_sl3 hown2
          obtain ⟨g, rfl⟩ := hsome (by omega)
          have hcp : wr.cell? ⟨g, p, none⟩ = some (.int .i64 (ls.getD p 0)) := by rw [hown2.cellAt p (by omega)]; simp [List.getD, hp]
          have hcq : wr.cell? ⟨g, q, none⟩ = some (.int .i64 (ls.getD q 0)) := by rw [hown2.cellAt q (by omega)]; simp [List.getD, hq]
          have hbp : 1 ≤ ls.getD p 0 ∧ ls.getD p 0 ≤ 1000000000000000 := by rw [List.getD, List.getElem?_eq_getElem hp]; exact hbd _ (List.getElem_mem hp)
          have hbq' : 1 ≤ ls.getD q 0 ∧ ls.getD q 0 ≤ 1000000000000000 := by rw [List.getD, List.getElem?_eq_getElem hq]; exact hbd _ (List.getElem_mem hq)
          simp only [Int.toNat_natCast] at HPa HPl
          clear hown2 hbd hsome hz hs1 hr1 hr3
          generalize ls.getD p 0 = np at *
          generalize ls.getD q 0 = nq0 at *
          obtain ⟨hbp1, hbp2⟩ := hbp
          obtain ⟨hbq1, hbq2⟩ := hbq'
          go_wp2_with fail
          refine HRU.out.mono ?_
          rintro e w2 ⟨rfl, rfl⟩
          by_cases hsum : np + nq0 ≤ 1000000000000000
          · have HN := Lib.hid (HSTEP.out _ (HPa.out hsum))
            have hsum2 : ¬ 1000000000000000 < np + nq0 := by omega
            clear HPa HPl HSTEP HEND HRU
            go_wp2
            go_big_quiet (fail)
            have hown3 := ownsRow_drewN HOWN.out nq
            go_wp2_with (at_builtin; refine app_i64 rfl (.tmp 52) (.tmp 54) rfl w.heap.size _ _ _ _ _ _ rfl hown3 rfl (by simp) (by omega) (by have := HB.out.size; simp at *; omega) ?_; intro v' w4 ho4 hb4 hsz4)
            go_roundw
            case rel =>
              have e := HN.out
              refine ⟨(below_drewN HB.out nq).trans hb4, ls.length + 1, ls ++ [np + nq0], by omega, by go_num, e, ?_⟩
              simpa using ho4
            case measure => first | (simp [intOf]; done) | (simp [intOf]; omega)
          · have HF := Lib.hid (HEND.out (HPl.out (by omega)))
            have hsum2 : 1000000000000000 < np + nq0 := by omega
            clear HPa HPl HSTEP HEND HRU
            go_wp2
            go_big_quiet (fail)
            go_wp2
            go_ret2
            exact ⟨_, ls, by rw [HF.out]; rfl, below_drewN HB.out _, by omega, ownsRow_drewN HOWN.out _, fun h => by rw [HF.out] at h; cases h⟩
        · have hr : (ruA l ls.length).1.size = 1 ∧ validB (ruA l ls.length).1 = true ∧ (ruA l ls.length).2.1 = 0 ∧ (ruA l ls.length).2.2 = 0 := by
            rw [ruB, if_neg hz, decide_eq_true_eq] at hrb; exact hrb
          have HN := Lib.hid (HSTEP.out _ (ruP_let (ls := ls) (r := ruA l ls.length) hr.1 hr.2.1 hr.2.2.1 hr.2.2.2))
          have hne := neq_empty hz
          have hne2 := not_empty hz
          clear hrb hr hz HSTEP HEND hbd
          generalize (ruA l ls.length).1 = x1 at *
          have hown3 := HOWN.out
          obtain ⟨ao, co, rfl, hsome, -⟩ := owns_sl3 hown3
          clear hsome
          go_wp2_with fail
          refine HRU.out.mono ?_
          rintro e w2 ⟨rfl, rfl⟩
          go_wp2_with (at_builtin; refine app_i64 rfl (.tmp 52) (.tmp 54) rfl w.heap.size _ _ _ _ _ _ rfl hown3 rfl (by simp) (by omega) (by have := HB.out.size; simp at *; omega) ?_; intro v' w4 ho4 hb4 hsz4)
          go_roundw
          case rel =>
            have e := HN.out
            refine ⟨HB.out.trans hb4, ls.length + 1, ls ++ [1], by omega, by go_num, e, ?_⟩
            simpa using ho4
          case measure => first | (simp [intOf]; done) | (simp [intOf]; omega)
    · have ek : ls.length = l.length := by omega
      rw [ek] at hln
      have HF := Lib.hid (lnT_all hln)
      clear hb hown hln ek hbd
      go_wp2
      go_ret2
      exact ⟨_, ls, by rw [HF.out.2.2]; rfl, HB.out, hk, HOWN.out, fun _ => HF.out.2.1.symm⟩
theorem s_l02Sizes (bq oq cap : Nat) (a : Option Addr) (l : List Ru) (w : World) (hn : l.length ≤ 1048576) (hsz : ∀ r ∈ l, r.1.size ≤ 1048576) (hcell : w.cell? ⟨bq, oq, none⟩ = some (.slice a l.length cap)) (hin : InRu w (.slice a l.length cap) l) :
    Calls Try.prog 145 #[.pointer (some ⟨bq, oq, none⟩)] w fun e w' => ∃ v', e = .returned (.tuple #[v', .bool (lnT l l.length).isSome]) ∧ Below w.heap.size w w' ∧ ((lnT l l.length).isSome = true → w'.ownsRow w.heap.size 2 1 v' (gLn l).length ((gLn l).map (Value.int .i64))) := by
  refine (s_l02SizesX bq oq cap a l w hn hsz hcell hin).mono ?_
  rintro e w' ⟨v', ls', h1, h2, h3, h4, h5⟩
  exact ⟨v', h1, h2, fun h => by rw [← h5 h]; exact h4⟩
end Go.Proofs.Ytefcdkgfabaffaa

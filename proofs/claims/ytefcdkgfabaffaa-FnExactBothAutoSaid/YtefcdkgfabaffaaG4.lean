/- Walks: the lengths of a grammar's rules, of the program and of the reference. -/
import Derived.Test.YtefcdkgfabaffaaG3
namespace Go.Proofs.Ytefcdkgfabaffaa
open Go.ChangeShapes Go.WideShapes Go.RowKit
set_option linter.unusedVariables false
set_option linter.unusedSimpArgs false
set_option maxHeartbeats 2000000
set_option maxRecDepth 100000
theorem size_zero {a : ByteArray} (h : a.size = 0) : a = ⟨#[]⟩ := by
  apply ByteArray.ext
  exact Array.eq_empty_of_size_eq_zero h
theorem not_empty {a : ByteArray} (h : a.size ≠ 0) : a.toList.isEmpty = false := by
  rw [List.isEmpty_eq_false_iff, ByteArray.toList_eq]
  intro e
  have : a.data.toList.length = a.size := by simp
  rw [e] at this
  exact h this.symm
theorem neq_empty {a : ByteArray} (h : a.size ≠ 0) : (a.toList == []) = false := by
  rw [beq_eq_false_iff_ne]
  intro e
  have := not_empty h
  rw [e] at this; cases this
theorem i_isPair (a : ByteArray) (x y : Int) (w : World) : Calls Try.prog 147 #[.agg #[.string a, .int .i64 x, .int .i64 y]] w fun e w' => e = .returned (.bool (decide (a.size = 0))) ∧ Below w.heap.size w w' := by
  by_cases h : a.size = 0
  · have e := size_zero h
    subst e
    go_enter Try.func147, Try.ntmps147
    go_wp2
    go_ret
    exact ⟨rfl, (by repeat (first | exact Below.refl _ _ | assumption | apply Below.drew | (refine Below.alloc ?_ (by first | (simp; done) | (simp; omega)) _) | (refine Below.setCell ?_ (by first | (simp; done) | (simp; omega)) _)))⟩
  · have e := not_empty h
    have e2 := neq_empty h
    have e3 : decide (a.size = 0) = false := by simpa using h
    rw [e3]
    go_enter Try.func147, Try.ntmps147
    go_wp2
    go_ret
    exact ⟨by simp [e, e2], (by repeat (first | exact Below.refl _ _ | assumption | apply Below.drew | (refine Below.alloc ?_ (by first | (simp; done) | (simp; omega)) _) | (refine Below.setCell ?_ (by first | (simp; done) | (simp; omega)) _)))⟩
theorem own_box (w : World) (o : Obj) : ((w.alloc o).alloc (.cells #[] 2)).ownsRow (w.heap.size + 1) 2 1 (.slice (some ⟨w.heap.size + 1, 0, none⟩) 0 0) ([] : List Int).length (([] : List Int).map (Value.int .i64)) := by
  have h := World.ownsRow_made (e := 2) (size := 1) (w.alloc o) #[] 0 (show w.heap.size + 1 ≤ (w.alloc o).heap.size by simp) (by decide) (by simp)
  simp only [World.size_alloc] at h
  exact h
theorem i_lengths (v : Value) (l : List Ru) (w : World) (hn : l.length ≤ 1048576) (hsz : ∀ r ∈ l, r.1.size ≤ 1048576) (hin : InRu w v l) :
    Calls Try.prog 140 #[.agg #[v]] w fun e w' => ∃ v', e = .returned (.tuple #[v', .bool (gOk l)]) ∧ Own64 w w' v' (gLn l) := by
  obtain ⟨a, cap, rfl⟩ := inRu_sl hin
  have HIN := Lib.hid (inRu_below hin ((Below.refl _ _).alloc (Nat.le_refl _) (.cells #[.slice a l.length cap] 59)))
  have HSZ := Lib.hid hsz
  clear hin hsz
  go_enter Try.func140, Try.ntmps140
  go_wp2
  go_loopw [4, 5, 6, 7, 12] (fun o _ _ _ i wr => Below (w.heap.size + 1) (w.alloc (.cells #[.slice a l.length cap] 59)) wr ∧ ∃ (k : Nat) (ls : List Int), k ≤ l.length ∧ i = .int .i64 k ∧ lnT l k = some ls ∧ wr.ownsRow (w.heap.size + 1) 2 1 o ls.length (ls.map (Value.int .i64))) (fun _ _ _ _ i _ => l.length - (intOf i).toNat)
  case atStart => exact ⟨(Below.refl _ _).alloc (by simp) _, 0, [], by omega, rfl, rfl, own_box _ _⟩
  case round =>
    obtain ⟨hb, k, ls, hk, rfl, hln, hown⟩ := hrel
    have HB := Lib.hid hb
    have HOWN := Lib.hid hown
    have HBW : Hid (∀ w', Below wr.heap.size wr w' → Below w.heap.size w w') := fun w' h => by
      have s1 := hb.size
      have h2 : Below (w.heap.size + 1) (w.alloc (.cells #[.slice a l.length cap] 59)) w' := hb.trans (h.mono (by simpa using s1))
      exact below_box (h2.mono (by simp))
    obtain ⟨hlen, hbd⟩ := lnT_bd hln
    subst hlen
    by_cases hlt : ls.length < l.length
    · obtain ⟨b, off, rfl, hbl, hc0, hc1, hc2⟩ := inRu_at (inRu_from HIN.out (by simp) hb) hlt
      have hin : ((ls.length : Nat) : Int) < l.length := by omega
      have hs1 : (ruA l ls.length).1.size ≤ 1048576 := HSZ.out _ (ruA_mem hlt)
      have HEND : Hid (ruP ls (ruA l ls.length) = none → gOk l = false ∧ gLn l = []) := fun h => by
        have := lnT_end (by omega) (lnT_bad hln h)
        exact ⟨this.1, this.2.1⟩
      have HSTEP : Hid (∀ n, ruP ls (ruA l ls.length) = some n → lnT l (ls.length + 1) = some (ls ++ [n])) := fun n h => lnT_step hln h
      clear hb hown hln
      by_cases hz : (ruA l ls.length).1.size = 0
      · have HPa := Lib.hid (ruP_pair (ls := ls) hz)
        have HPl := Lib.hid (ruP_long (ls := ls) hz)
        have HPo := Lib.hid (ruP_out (ls := ls) hz)
        have hd : decide ((ruA l ls.length).1.size = 0) = true := by simpa using hz
        generalize ruP ls (ruA l ls.length) = rp at *
        generalize (ruA l ls.length).1 = x1 at *
        generalize (ruA l ls.length).2.1 = x2 at *
        generalize (ruA l ls.length).2.2 = x3 at *
        have HIS := Lib.hid (fun w => i_isPair x1 x2 x3 w)
        rw [hd] at HIS
        go_wp2_with fail
        refine (HIS.out _).mono ?_
        rintro e w2 ⟨rfl, hb2⟩
        have hb3 := below_box hb2
        have r0 : w2.cell? ⟨wr.heap.size, 0, none⟩ = some (.string x1) := by rw [hb2.cell (by simp)]; simp [go_sem]
        have r1 : w2.cell? ⟨wr.heap.size, 1, none⟩ = some (.int .i64 x2) := by rw [hb2.cell (by simp)]; simp [go_sem]
        have r2 : w2.cell? ⟨wr.heap.size, 2, none⟩ = some (.int .i64 x3) := by rw [hb2.cell (by simp)]; simp [go_sem]
        have HB3 := Lib.hid hb3
        clear hb2 hb3 hc0 hc1 hc2 HIS
        by_cases hr2 : 0 ≤ x2 ∧ x2 < ls.length
        · have HW2 := Lib.hid (fun w => i_within_r x2 0 ((ls.length : Int) - 1) true (by simp; omega) w)
          by_cases hr3 : 0 ≤ x3 ∧ x3 < ls.length
          · have HW3 := Lib.hid (fun w => i_within_r x3 0 ((ls.length : Int) - 1) true (by simp; omega) w)
            have hr : 0 ≤ x2 ∧ x2 < ls.length ∧ 0 ≤ x3 ∧ x3 < ls.length := ⟨hr2.1, hr2.2, hr3.1, hr3.2⟩
            have HPa2 := Lib.hid (HPa.out hr)
            have HPl2 := Lib.hid (fun h => HPl.out hr h)
            obtain ⟨p, rfl⟩ := Int.eq_ofNat_of_zero_le hr2.1
            obtain ⟨q, rfl⟩ := Int.eq_ofNat_of_zero_le hr3.1
            have hp : p < ls.length := by omega
            have hq : q < ls.length := by omega
            have hown2 := owns_after HOWN.out HB3.out
            obtain ⟨ao, co, rfl, hsome, -⟩ := owns_sl3 hown2
            obtain ⟨g, rfl⟩ := hsome (by omega)
            have hcp : w2.cell? ⟨g, p, none⟩ = some (.int .i64 (ls.getD p 0)) := by rw [hown2.cellAt p (by omega)]; simp [List.getD, hp]
            have hcq : w2.cell? ⟨g, q, none⟩ = some (.int .i64 (ls.getD q 0)) := by rw [hown2.cellAt q (by omega)]; simp [List.getD, hq]
            have hbp : 1 ≤ ls.getD p 0 ∧ ls.getD p 0 ≤ 1000000000000000 := by rw [List.getD, List.getElem?_eq_getElem hp]; exact hbd _ (List.getElem_mem hp)
            have hbq : 1 ≤ ls.getD q 0 ∧ ls.getD q 0 ≤ 1000000000000000 := by rw [List.getD, List.getElem?_eq_getElem hq]; exact hbd _ (List.getElem_mem hq)
            simp only [Int.toNat_natCast] at HPa2 HPl2
            have HO2 := Lib.hid hown2
            have hpi : (p : Int) < ls.length := by omega
            have hqi : (q : Int) < ls.length := by omega
            clear hr hr2 hr3 hown2 hbd HPa HPl HPo HOWN
            generalize ls.getD p 0 = np at *
            generalize ls.getD q 0 = nq0 at *
            obtain ⟨hbp1, hbp2⟩ := hbp
            obtain ⟨hbq1, hbq2⟩ := hbq
            go_wp2_with fail
            refine (HW2.out _).mono ?_
            rintro e w3 ⟨rfl, rfl⟩
            go_wp2_with fail
            refine (HW3.out _).mono ?_
            rintro e w3 ⟨rfl, rfl⟩
            by_cases hsum : np + nq0 ≤ 1000000000000000
            · have HN := Lib.hid (HSTEP.out _ (HPa2.out hsum))
              have hsum2 : ¬ 1000000000000000 < np + nq0 := by omega
              clear HW2 HW3 HPa2 HPl2 HSTEP HEND
              go_wp2
              go_big_quiet (fail)
              have hown3 := ownsRow_drewN HO2.out nq
              go_wp2_with (at_builtin; refine app_i64 rfl (.tmp 67) (.tmp 69) rfl (w.heap.size + 1) _ _ _ _ _ _ rfl hown3 rfl (by simp) (by omega) (by have := HB.out.size; have := HB3.out.size; simp at *; omega) ?_; intro v' w4 ho4 hb4 hsz4)
              go_roundw
              case rel =>
                have e := HN.out
                refine ⟨(HB.out.trans ((below_drewN HB3.out nq).mono (by have := HB.out.size; simpa using this))).trans hb4, ls.length + 1, ls ++ [np + nq0], by omega, by go_num, e, ?_⟩
                simpa using ho4
              case measure => first | (simp [intOf]; done) | (simp [intOf]; omega)
            · have HF := Lib.hid (HEND.out (HPl2.out (by omega)))
              have hsum2 : 1000000000000000 < np + nq0 := by omega
              clear HW2 HW3 HPa2 HPl2 HSTEP HEND
              go_wp2
              go_big_quiet (fail)
              go_wp2
              go_ret2
              exact ⟨_, by rw [HF.out.1]; rfl, by rw [HF.out.2]; exact own64_nil (HBW.out _ (below_drewN HB3.out _))⟩
          · have HW3 := Lib.hid (fun w => i_within_r x3 0 ((ls.length : Int) - 1) false (by simp; omega) w)
            have HF := Lib.hid (HEND.out (HPo.out (by omega)))
            clear HPa HPl HPo HSTEP HEND
            go_wp2_with fail
            refine (HW2.out _).mono ?_
            rintro e w3 ⟨rfl, rfl⟩
            go_wp2_with fail
            refine (HW3.out _).mono ?_
            rintro e w3 ⟨rfl, rfl⟩
            go_wp2
            go_ret2
            exact ⟨_, by rw [HF.out.1]; rfl, by rw [HF.out.2]; exact own64_nil (HBW.out _ HB3.out)⟩
        · have HW2 := Lib.hid (fun w => i_within_r x2 0 ((ls.length : Int) - 1) false (by simp; omega) w)
          have HF := Lib.hid (HEND.out (HPo.out (by omega)))
          clear HPa HPl HPo HSTEP HEND
          go_wp2_with fail
          refine (HW2.out _).mono ?_
          rintro e w3 ⟨rfl, rfl⟩
          go_wp2
          go_ret2
          exact ⟨_, by rw [HF.out.1]; rfl, by rw [HF.out.2]; exact own64_nil (HBW.out _ HB3.out)⟩
      · have HPb := Lib.hid (ruP_bad (ls := ls) hz)
        have HPl := Lib.hid (ruP_let (ls := ls) (r := ruA l ls.length))
        have hd : decide ((ruA l ls.length).1.size = 0) = false := by simpa using hz
        generalize ruP ls (ruA l ls.length) = rp at *
        generalize (ruA l ls.length).1 = x1 at *
        generalize (ruA l ls.length).2.1 = x2 at *
        generalize (ruA l ls.length).2.2 = x3 at *
        have HIS := Lib.hid (fun w => i_isPair x1 x2 x3 w)
        rw [hd] at HIS
        have HX0 := Lib.hid hz
        clear hd hz
        go_wp2_with fail
        refine (HIS.out _).mono ?_
        rintro e w2 ⟨rfl, hb2⟩
        have hb3 := below_box hb2
        have r0 : w2.cell? ⟨wr.heap.size, 0, none⟩ = some (.string x1) := by rw [hb2.cell (by simp)]; simp [go_sem]
        have r1 : w2.cell? ⟨wr.heap.size, 1, none⟩ = some (.int .i64 x2) := by rw [hb2.cell (by simp)]; simp [go_sem]
        have r2 : w2.cell? ⟨wr.heap.size, 2, none⟩ = some (.int .i64 x3) := by rw [hb2.cell (by simp)]; simp [go_sem]
        have HB3 := Lib.hid hb3
        clear hb2 hb3 hc0 hc1 hc2 HIS
        have hs2 : (x1.size : Int) ≤ 9223372036854775807 := by omega
        by_cases h1 : x1.size = 1
        · have hpos : 0 < x1.size := by omega
          have hvo := valid_one h1 hpos
          have h1i : ((x1.size : Int) != 1) = false := by rw [h1]; rfl
          have h1j : (x1.size : Int) = 1 := by omega
          by_cases hlb : letB (x1[0].toNat : Int) = true
          · have HL := Lib.hid (fun w => i_isLetter (x1[0].toNat : Int) w)
            rw [hlb] at HL
            by_cases hx2 : x2 = 0
            · by_cases hx3 : x3 = 0
              · have HN := Lib.hid (HSTEP.out _ (HPl.out h1 (by rw [hvo, hlb]) hx2 hx3))
                subst hx2 hx3
                have hown3 := owns_after HOWN.out HB3.out
                obtain ⟨ao, co, rfl, hsome, -⟩ := owns_sl3 hown3
                clear hvo hlb HPb HPl HSTEP HEND HOWN hbd hsome
                go_wp2_with fail
                refine (HL.out _).mono ?_
                rintro e w3 ⟨rfl, rfl⟩
                go_wp2_with (at_builtin; refine app_i64 rfl (.tmp 67) (.tmp 69) rfl (w.heap.size + 1) _ _ _ _ _ _ rfl hown3 rfl (by simp) (by omega) (by have := HB.out.size; have := HB3.out.size; simp at *; omega) ?_; intro v' w4 ho4 hb4 hsz4)
                go_roundw
                case rel =>
                  have e := HN.out
                  refine ⟨(HB.out.trans (HB3.out.mono (by have := HB.out.size; simpa using this))).trans hb4, ls.length + 1, ls ++ [1], by omega, by go_num, e, ?_⟩
                  simpa using ho4
                case measure => first | (simp [intOf]; done) | (simp [intOf]; omega)
              · have HF := Lib.hid (HEND.out (HPb.out (by omega)))
                have hx3b : (x3 != 0) = true := by simpa using hx3
                clear hvo hlb HPb HPl HSTEP HEND
                subst hx2
                go_wp2_with fail
                refine (HL.out _).mono ?_
                rintro e w3 ⟨rfl, rfl⟩
                go_wp2
                go_ret2
                exact ⟨_, by rw [HF.out.1]; rfl, by rw [HF.out.2]; exact own64_nil (HBW.out _ HB3.out)⟩
            · have HF := Lib.hid (HEND.out (HPb.out (by omega)))
              have hx2b : (x2 != 0) = true := by simpa using hx2
              clear hvo hlb HPb HPl HSTEP HEND
              go_wp2_with fail
              refine (HL.out _).mono ?_
              rintro e w3 ⟨rfl, rfl⟩
              go_wp2
              go_ret2
              exact ⟨_, by rw [HF.out.1]; rfl, by rw [HF.out.2]; exact own64_nil (HBW.out _ HB3.out)⟩
          · have hlf : letB (x1[0].toNat : Int) = false := by simpa using hlb
            have HL := Lib.hid (fun w => i_isLetter (x1[0].toNat : Int) w)
            rw [hlf] at HL
            have HF := Lib.hid (HEND.out (HPb.out (by rw [hvo, hlf]; simp)))
            clear hvo hlb hlf HPb HPl HSTEP HEND
            go_wp2_with fail
            refine (HL.out _).mono ?_
            rintro e w3 ⟨rfl, rfl⟩
            go_wp2
            go_ret2
            exact ⟨_, by rw [HF.out.1]; rfl, by rw [HF.out.2]; exact own64_nil (HBW.out _ HB3.out)⟩
        · have HF := Lib.hid (HEND.out (HPb.out (by omega)))
          have h1i : ((x1.size : Int) != 1) = true := by
            simp only [bne_iff_ne, ne_eq]; omega
          clear HPb HPl HSTEP HEND
          go_wp2
          go_ret2
          exact ⟨_, by rw [HF.out.1]; rfl, by rw [HF.out.2]; exact own64_nil (HBW.out _ HB3.out)⟩
    · have ek : ls.length = l.length := by omega
      rw [ek] at hln
      have HF := Lib.hid (lnT_all hln)
      have hbox : wr.cell? ⟨w.heap.size, 0, none⟩ = some (.slice a l.length cap) := by
        rw [HB.out.cell (by simp)]; simp [go_sem]
      have HB0 := Lib.hid (HBW.out wr (Below.refl _ _))
      clear hb hown hln ek hbd
      go_wp2
      go_big_quiet (fail)
      go_wp2
      go_ret2
      have hdc : decide (l.length ≤ 400) = decide ((l.length : Int) ≤ 400) := decide_eq_decide.2 (by omega)
      refine ⟨_, by rw [HF.out.1, hdc]; rfl, ?_, below_drewN HB0.out _⟩
      rw [HF.out.2.1]
      exact owns_weak (base := w.heap.size + 1) (ownsRow_drewN HOWN.out _) (by omega)
end Go.Proofs.Ytefcdkgfabaffaa

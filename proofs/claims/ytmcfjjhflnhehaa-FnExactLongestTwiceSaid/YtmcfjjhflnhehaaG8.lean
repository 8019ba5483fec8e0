/- DepthOf, of the program and of the reference, and its law. -/
import Derived.Test.YtmcfjjhflnhehaaG7
namespace Go.Proofs.Ytmcfjjhflnhehaa
open Go.ChangeShapes Go.WideShapes Go.RowKit
set_option linter.unusedVariables false
set_option linter.unusedSimpArgs false
set_option maxHeartbeats 2000000
set_option maxRecDepth 100000
theorem lnT_pre {l : List Ru} : ∀ {n k : Nat}, k ≤ n → lnT l n ≠ none → ∃ ls, lnT l k = some ls
  | n, k, hk, h => by
    cases h2 : lnT l k with
    | some ls => exact ⟨ls, rfl⟩
    | none =>
      have := lnT_none h2 (n - k)
      rw [show k + (n - k) = n by omega] at this
      exact absurd this h
/-- what is known of a rule of a right grammar -/
theorem gOk_rule {l : List Ru} (h : gOk l = true) {k : Nat} (hk : k < l.length) : ((ruA l k).1.size = 0 → 0 ≤ (ruA l k).2.1 ∧ (ruA l k).2.1 < k ∧ 0 ≤ (ruA l k).2.2 ∧ (ruA l k).2.2 < k) ∧ ((ruA l k).1.size ≠ 0 → (ruA l k).1.size = 1 ∧ validB (ruA l k).1 = true ∧ (ruA l k).2.1 = 0 ∧ (ruA l k).2.2 = 0) := by
  obtain ⟨_, h2, _, _⟩ := gOk_some h
  obtain ⟨ls, h3⟩ := lnT_pre (show k + 1 ≤ l.length by omega) (by rw [h2]; simp)
  obtain ⟨ls0, h4⟩ := lnT_pre (show k ≤ l.length by omega) (by rw [h2]; simp)
  have hl := (lnT_bd h4).1
  have hne : ruP ls0 (ruA l k) ≠ none := by
    intro e
    rw [lnT_bad h4 e] at h3; cases h3
  constructor
  · intro hz
    apply Classical.byContradiction
    intro hc
    exact hne (ruP_out hz (by rw [hl]; exact hc))
  · intro hz
    apply Classical.byContradiction
    intro hc
    exact hne (ruP_bad hz hc)
def dpN (ds : List Int) (r : Ru) : Int := if r.1.size = 0 then 1 + (if ds.getD r.2.1.toNat 0 < ds.getD r.2.2.toNat 0 then ds.getD r.2.2.toNat 0 else ds.getD r.2.1.toNat 0) else 1
def dpT (l : List Ru) : Nat → List Int
  | 0 => []
  | k + 1 => dpT l k ++ [dpN (dpT l k) (ruA l k)]
theorem dpT_len (l : List Ru) : ∀ k, (dpT l k).length = k
  | 0 => rfl
  | k + 1 => by rw [dpT, List.length_append, dpT_len l k]; rfl
theorem getD_mem {ds : List Int} {k : Nat} (h : k < ds.length) : ds.getD k 0 ∈ ds := by
  rw [List.getD, List.getElem?_eq_getElem h]; exact List.getElem_mem h
theorem dpT_bd (l : List Ru) : ∀ k, ∀ x ∈ dpT l k, 0 ≤ x ∧ x ≤ k
  | 0, x, h => by cases h
  | k + 1, x, h => by
    have ih := dpT_bd l k
    rw [dpT, List.mem_append, List.mem_singleton] at h
    rcases h with h | h
    · have := ih x h; omega
    · subst h
      have e : ∀ j, 0 ≤ (dpT l k).getD j 0 ∧ (dpT l k).getD j 0 ≤ k := fun j => by
        by_cases hj : j < (dpT l k).length
        · exact ih _ (getD_mem hj)
        · rw [List.getD, List.getElem?_eq_none (by omega)]; show 0 ≤ (0 : Int) ∧ (0 : Int) ≤ k; omega
      unfold dpN
      have a := e (ruA l k).2.1.toNat
      have b := e (ruA l k).2.2.toNat
      split
      · split <;> omega
      · omega
theorem dpN_pair {ds : List Int} {r : Ru} (h : r.1.size = 0) : dpN ds r = 1 + (if ds.getD r.2.1.toNat 0 < ds.getD r.2.2.toNat 0 then ds.getD r.2.2.toNat 0 else ds.getD r.2.1.toNat 0) := by rw [dpN, if_pos h]
theorem dpN_let {ds : List Int} {r : Ru} (h : r.1.size ≠ 0) : dpN ds r = 1 := by rw [dpN, if_neg h]
def gDp (l : List Ru) : Int := if gOk l then lastI (dpT l l.length) else 0
theorem gDp_bad {l : List Ru} (h : gOk l = false) : gDp l = 0 := by simp [gDp, h]
theorem gDp_ok {l : List Ru} (h : gOk l = true) : gDp l = lastI (dpT l l.length) := by simp [gDp, h]
theorem i_DepthOf (v : Value) (l : List Ru) (w : World) (hn : l.length ≤ 1048576) (hsz : ∀ r ∈ l, r.1.size ≤ 1048576) (hin : InRu w v l) :
    Calls Try.prog 25 #[.agg #[v]] w fun e w' => e = .returned (.tuple #[.int .i64 (gDp l), .int .i64 (gC l)]) ∧ Below w.heap.size w w' := by
  obtain ⟨a, cap, rfl⟩ := inRu_sl hin
  have b0 := box_cell w (.slice a l.length cap) 29
  have i0 := inRu_box (o := .cells #[.slice a l.length cap] 29) hin
  have HS := Lib.hid (i_ValidGrammar (.slice a l.length cap) l _ hn hsz i0)
  cases hok : gOk l
  · have HF := Lib.hid (g_bad hok)
    have HD := Lib.hid (gDp_bad hok)
    rw [hok] at HS
    clear hsz hin b0 i0 hok
    go_enter Try.func25, Try.ntmps25
    go_wp2_with fail
    refine HS.out.mono ?_
    rintro e w2 ⟨rfl, hb2⟩
    have hb3 := below_box hb2
    clear hb2
    go_wp2
    go_ret2
    exact ⟨ret_ii HD.out.symm HF.out.2.1.symm, hb3⟩
  · have HF := Lib.hid (g_ok hok)
    have HD := Lib.hid (gDp_ok hok)
    have HR := Lib.hid (fun k hk => @gOk_rule l hok k hk)
    have hl400 := (gOk_some hok).1
    rw [hok] at HS
    clear hsz hin hok
    go_enter Try.func25, Try.ntmps25
    go_wp2_with fail
    refine HS.out.mono ?_
    rintro e w2 ⟨rfl, hb2⟩
    have b2 := cell_later hb2 b0
    have i2 := inRu_below i0 hb2
    have HB2 := Lib.hid (below_box hb2)
    have hbs : w.heap.size < w2.heap.size := World.block_lt_of_cell? _ _ b2
    have HIN := Lib.hid i2
    clear hb2 b0 i0 i2
    go_wp2
    go_loopw [4, 6, 7, 15] (fun o _ _ i wr => Below w2.heap.size w2 wr ∧ ∃ k : Nat, k ≤ l.length ∧ i = .int .i64 k ∧ wr.ownsRow w2.heap.size 2 1 o k ((dpT l k).map (Value.int .i64))) (fun _ _ _ i _ => l.length - (intOf i).toNat)
    case atStart => exact ⟨(Below.refl _ _).alloc (Nat.le_refl _) _, 0, by omega, rfl, World.ownsRow_made w2 #[] 0 (Nat.le_refl _) (by decide) (by simp)⟩
    case round =>
      clear b2
      obtain ⟨hb, k, hk, rfl, hown⟩ := hrel
      have HB := Lib.hid hb
      have HOWN := Lib.hid hown
      have hlen := dpT_len l k
      have hbd := dpT_bd l k
      by_cases hlt : k < l.length
      · obtain ⟨b, off, rfl, hbl, hc0, hc1, hc2⟩ := inRu_at (inRu_below HIN.out hb) hlt
        have hin : ((k : Nat) : Int) < l.length := by omega
        obtain ⟨hr1, hr2⟩ := HR.out k hlt
        have HSTEP : Hid (dpT l (k + 1) = dpT l k ++ [dpN (dpT l k) (ruA l k)]) := rfl
        clear hb hown
        by_cases hz : (ruA l k).1.size = 0
        · have HN := Lib.hid (dpN_pair (ds := dpT l k) hz)
          obtain ⟨q1, q2, q3, q4⟩ := hr1 hz
          have hd : decide ((ruA l k).1.size = 0) = true := by simpa using hz
          clear hr1 hr2
          generalize dpN (dpT l k) (ruA l k) = dn at *
          generalize (ruA l k).1 = x1 at *
          generalize (ruA l k).2.1 = x2 at *
          generalize (ruA l k).2.2 = x3 at *
          obtain ⟨p, rfl⟩ := Int.eq_ofNat_of_zero_le q1
          obtain ⟨q, rfl⟩ := Int.eq_ofNat_of_zero_le q3
          simp only [Int.toNat_natCast] at HN
          have HIS := Lib.hid (fun w => i_isPair x1 p q w)
          rw [hd] at HIS
          go_wp2_with fail
          refine (HIS.out _).mono ?_
          rintro e w3 ⟨rfl, hb3'⟩
          have hb3 := below_box hb3'
          have r1 : w3.cell? ⟨wr.heap.size, 1, none⟩ = some (.int .i64 p) := by rw [hb3'.cell (by simp)]; simp [go_sem]
          have r2 : w3.cell? ⟨wr.heap.size, 2, none⟩ = some (.int .i64 q) := by rw [hb3'.cell (by simp)]; simp [go_sem]
          have hown2 := owns_after HOWN.out hb3
          obtain ⟨ao, co, rfl, hsome, -⟩ := owns_sl3 hown2
          obtain ⟨g, rfl⟩ := hsome (by omega)
          have hp : p < (dpT l k).length := by omega
          have hq : q < (dpT l k).length := by omega
          have hcp : w3.cell? ⟨g, p, none⟩ = some (.int .i64 ((dpT l k).getD p 0)) := by rw [hown2.cellAt p (by omega)]; simp [List.getD, hp]
          have hcq : w3.cell? ⟨g, q, none⟩ = some (.int .i64 ((dpT l k).getD q 0)) := by rw [hown2.cellAt q (by omega)]; simp [List.getD, hq]
          have hbp := hbd _ (getD_mem hp)
          have hbq := hbd _ (getD_mem hq)
          have hkl : Hid ((dpT l k).length = k) := hlen
          have hpi : (p : Int) < k := by omega
          have hqi : (q : Int) < k := by omega
          have HB3 := Lib.hid hb3
          have HO2 := Lib.hid hown2
          clear hb3 hb3' hc0 hc1 hc2 HIS hown2 hbd q1 q2 q3 q4 hsome hlen hp hq
          generalize (dpT l k).getD p 0 = np at *
          generalize (dpT l k).getD q 0 = nq0 at *
          obtain ⟨hbp1, hbp2⟩ := hbp
          obtain ⟨hbq1, hbq2⟩ := hbq
          go_wp2
          go_big_quiet (fail)
          have hown3 := ownsRow_drewN HO2.out nq
          go_wp2_with (at_builtin; refine app_i64 rfl (.tmp 34) (.tmp 36) rfl w2.heap.size _ _ _ _ _ _ rfl hown3 rfl (by simp) (by omega) (by have := HB.out.size; have := HB3.out.size; simp at *; omega) ?_; intro v' w4 ho4 hb4 hsz4)
          go_roundw
          case rel =>
            refine ⟨(HB.out.trans ((below_drewN HB3.out nq).mono HB.out.size)).trans hb4, k + 1, by omega, by go_num, ?_⟩
            rw [HSTEP.out, HN.out]
            simpa using ho4
          case measure => first | (simp [intOf]; done) | (simp [intOf]; omega)
        · have HN := Lib.hid (dpN_let (ds := dpT l k) hz)
          have hd : decide ((ruA l k).1.size = 0) = false := by simpa using hz
          clear hr1 hr2 hbd hz
          generalize dpN (dpT l k) (ruA l k) = dn at *
          generalize (ruA l k).1 = x1 at *
          generalize (ruA l k).2.1 = x2 at *
          generalize (ruA l k).2.2 = x3 at *
          have HIS := Lib.hid (fun w => i_isPair x1 x2 x3 w)
          rw [hd] at HIS
          have hkl : Hid ((dpT l k).length = k) := hlen
          clear hlen hd
          go_wp2_with fail
          refine (HIS.out _).mono ?_
          rintro e w3 ⟨rfl, hb3'⟩
          have hb3 := below_box hb3'
          have hown3 := owns_after HOWN.out hb3
          have HB3 := Lib.hid hb3
          obtain ⟨ao, co, rfl, hsome, -⟩ := owns_sl3 hown3
          clear hb3 hb3' hc0 hc1 hc2 HIS hsome
          go_wp2_with (at_builtin; refine app_i64 rfl (.tmp 34) (.tmp 36) rfl w2.heap.size _ _ _ _ _ _ rfl hown3 rfl (by simp) (by omega) (by have := HB.out.size; have := HB3.out.size; simp at *; omega) ?_; intro v' w4 ho4 hb4 hsz4)
          go_roundw
          case rel =>
            refine ⟨(HB.out.trans (HB3.out.mono HB.out.size)).trans hb4, k + 1, by omega, by go_num, ?_⟩
            rw [HSTEP.out, HN.out]
            simpa using ho4
          case measure => first | (simp [intOf]; done) | (simp [intOf]; omega)
      · have ek : k = l.length := by omega
        subst ek
        have HL := Lib.hid (i_last _ (dpT l l.length) w2.heap.size wr (by omega) (by rw [hlen]; exact hown))
        have hk' : ¬ (l.length : Int) < l.length := by omega
        clear hown hlen hbd hb
        go_wp2_with fail
        refine HL.out.mono ?_
        rintro e w3 ⟨rfl, q, rfl⟩
        go_wp2
        go_ret2
        exact ⟨ret_ii HD.out.symm HF.out.2.1.symm, HB2.out.trans ((below_drewN HB.out q).mono HB2.out.size)⟩
theorem s_l00Max (a b : Int) (w : World) : Calls Try.prog 54 #[.int .i64 a, .int .i64 b] w fun e w' => e = .returned (.int .i64 (if a < b then b else a)) ∧ w' = w := by
  by_cases h : b < a
  · have h2 : ¬ a < b := by omega
    rw [if_neg h2]
    go_enter Try.func54, Try.ntmps54
    go_wp2
    go_ret
    exact ⟨rfl, rfl⟩
  · have h2 : (if a < b then b else a) = b := by split <;> omega
    rw [h2]
    go_enter Try.func54, Try.ntmps54
    go_wp2
    go_ret
    exact ⟨rfl, rfl⟩
theorem lastI_cons (ds : List Int) : lastI ds = (0 :: ds).getD ds.length 0 := by
  cases ds with
  | nil => rfl
  | cons x r =>
    rw [lastI_at (by simp)]
    simp
theorem own_one (w : World) (x : Value) (e : TypeId) : (w.alloc (.cells #[x] e)).ownsRow w.heap.size e 1 (.slice (some ⟨w.heap.size, 0, none⟩) 1 1) 1 [x] :=
  ⟨rfl, .inr ⟨w.heap.size, 1, #[x], rfl, Nat.le_refl _, heap_alloc_new w _, Nat.le_refl _, by decide, rfl, rfl⟩⟩
theorem s_DepthOf (v : Value) (l : List Ru) (w : World) (hn : l.length ≤ 1048576) (hsz : ∀ r ∈ l, r.1.size ≤ 1048576) (hin : InRu w v l) :
    Calls Try.prog 24 #[.agg #[v]] w fun e w' => e = .returned (.tuple #[.int .i64 (gDp l), .int .i64 (gC l)]) ∧ Below w.heap.size w w' := by
  obtain ⟨a, cap, rfl⟩ := inRu_sl hin
  have b0 := box_cell w (.slice a l.length cap) 29
  have i0 := inRu_box (o := .cells #[.slice a l.length cap] 29) hin
  have HS := Lib.hid (s_l02Ok w.heap.size 0 cap a l _ hn hsz b0 i0)
  cases hok : gOk l
  · have HF := Lib.hid (g_bad hok)
    have HD := Lib.hid (gDp_bad hok)
    rw [hok] at HS
    clear hsz hin b0 i0 hok
    go_enter Try.func24, Try.ntmps24
    go_wp2_with fail
    refine HS.out.mono ?_
    rintro e w2 ⟨rfl, hb2⟩
    have hb3 := below_box hb2
    clear hb2
    go_wp2
    go_ret2
    exact ⟨ret_ii HD.out.symm HF.out.2.1.symm, hb3⟩
  · have HF := Lib.hid (g_ok hok)
    have HD := Lib.hid (gDp_ok hok)
    have HR := Lib.hid (fun k hk => @gOk_rule l hok k hk)
    have hl400 := (gOk_some hok).1
    rw [hok] at HS
    clear hsz hin hok
    go_enter Try.func24, Try.ntmps24
    go_wp2_with fail
    refine HS.out.mono ?_
    rintro e w2 ⟨rfl, hb2⟩
    have b2 := cell_later hb2 b0
    have i2 := inRu_below i0 hb2
    have HB2 := Lib.hid (below_box hb2)
    have hbs : w.heap.size < w2.heap.size := World.block_lt_of_cell? _ _ b2
    have HIN := Lib.hid i2
    have HC2 := Lib.hid b2
    clear hb2 b0 i0 i2 HS
    go_wp2
    go_loopw [4, 5, 6] (fun o i _ wr => Below w2.heap.size w2 wr ∧ ∃ k : Nat, k ≤ l.length ∧ i = .int .i64 k ∧ wr.ownsRow w2.heap.size 2 1 o (k + 1) ((0 :: dpT l k).map (Value.int .i64))) (fun _ i _ _ => l.length - (intOf i).toNat)
    case atStart => exact ⟨(Below.refl _ _).alloc (Nat.le_refl _) _, 0, by omega, rfl, own_one w2 (.int .i64 0) 2⟩
    case round =>
      clear b2
      obtain ⟨hb, k, hk, rfl, hown⟩ := hrel
      have hcw : wr.cell? ⟨w.heap.size, 0, none⟩ = some (.slice a l.length cap) := by rw [hb.cell (p := ⟨w.heap.size, 0, none⟩) hbs]; exact HC2.out
      have HB := Lib.hid hb
      have HOWN := Lib.hid hown
      have hlen := dpT_len l k
      have hbd := dpT_bd l k
      by_cases hlt : k < l.length
      · obtain ⟨b, off, rfl, hbl, hc0, hc1, hc2⟩ := inRu_at (inRu_below HIN.out hb) hlt
        have hin : ((k : Nat) : Int) < l.length := by omega
        obtain ⟨hr1, hr2⟩ := HR.out k hlt
        have HSTEP : Hid (dpT l (k + 1) = dpT l k ++ [dpN (dpT l k) (ruA l k)]) := rfl
        obtain ⟨ao, co, rfl, hsome, -⟩ := owns_sl3 hown
        obtain ⟨g, rfl⟩ := hsome (by omega)
        clear hb
        by_cases hz : (ruA l k).1.size = 0
        · have HN := Lib.hid (dpN_pair (ds := dpT l k) hz)
          obtain ⟨q1, q2, q3, q4⟩ := hr1 hz
          clear hr1 hr2
          generalize dpN (dpT l k) (ruA l k) = dn at *
          generalize (ruA l k).1 = x1 at *
          generalize (ruA l k).2.1 = x2 at *
          generalize (ruA l k).2.2 = x3 at *
          have ex := size_zero hz
          subst ex
          obtain ⟨p, rfl⟩ := Int.eq_ofNat_of_zero_le q1
          obtain ⟨q, rfl⟩ := Int.eq_ofNat_of_zero_le q3
          simp only [Int.toNat_natCast] at HN
          have hp : p < (dpT l k).length := by omega
          have hq : q < (dpT l k).length := by omega
          have hcp : wr.cell? ⟨g, p + 1, none⟩ = some (.int .i64 ((dpT l k).getD p 0)) := by rw [hown.cellAt (p + 1) (by omega)]; simp [List.getD, hp]
          have hcq : wr.cell? ⟨g, q + 1, none⟩ = some (.int .i64 ((dpT l k).getD q 0)) := by rw [hown.cellAt (q + 1) (by omega)]; simp [List.getD, hq]
          have hbp := hbd _ (getD_mem hp)
          have hbq := hbd _ (getD_mem hq)
          have hkl : Hid ((dpT l k).length = k) := hlen
          have hpi : (p : Int) + 1 < (k : Int) + 1 := by omega
          have hqi : (q : Int) + 1 < (k : Int) + 1 := by omega
          have hpi2 : (0 : Int) ≤ (p : Int) + 1 := by omega
          have hqi2 : (0 : Int) ≤ (q : Int) + 1 := by omega
          have hpk : p < k := by omega
          have hqk : q < k := by omega
          clear hbd q1 q2 q3 q4 hsome hlen hp hq hown hz
          generalize (dpT l k).getD p 0 = np at *
          generalize (dpT l k).getD q 0 = nq0 at *
          obtain ⟨hbp1, hbp2⟩ := hbp
          obtain ⟨hbq1, hbq2⟩ := hbq
          have HMX := Lib.hid (fun w => s_l00Max np nq0 w)
          have hmx : (if np < nq0 then nq0 else np) ≤ k ∧ 0 ≤ (if np < nq0 then nq0 else np) := by split <;> omega
          generalize (if np < nq0 then nq0 else np) = mx at *
          obtain ⟨hmx1, hmx2⟩ := hmx
          go_wp2
          go_big_quiet ((go_at_call 54; exact Calls.quiet_of_same (HMX.out _)))
          have hown3 := ownsRow_drewN HOWN.out nq
          go_wp2_with (at_builtin; refine app_i64 rfl (.tmp 46) (.tmp 48) rfl w2.heap.size _ _ _ _ _ _ rfl hown3 rfl (by simp) (by omega) (by have := HB.out.size; simp at *; omega) ?_; intro v' w4 ho4 hb4 hsz4)
          go_roundw
          case rel =>
            refine ⟨(below_drewN HB.out nq).trans hb4, k + 1, by omega, by go_num, ?_⟩
            rw [HSTEP.out, HN.out]
            simpa using ho4
          case measure => first | (simp [intOf]; done) | (simp [intOf]; omega)
        · have HN := Lib.hid (dpN_let (ds := dpT l k) hz)
          have hne := neq_empty hz
          have hne2 := not_empty hz
          have hkl : Hid ((dpT l k).length = k) := hlen
          clear hr1 hr2 hbd hz hlen hsome hown
          generalize dpN (dpT l k) (ruA l k) = dn at *
          generalize (ruA l k).1 = x1 at *
          have hown3 := HOWN.out
          go_wp2_with (at_builtin; refine app_i64 rfl (.tmp 46) (.tmp 48) rfl w2.heap.size _ _ _ _ _ _ rfl hown3 rfl (by simp) (by omega) (by have := HB.out.size; simp at *; omega) ?_; intro v' w4 ho4 hb4 hsz4)
          go_roundw
          case rel =>
            refine ⟨HB.out.trans hb4, k + 1, by omega, by go_num, ?_⟩
            rw [HSTEP.out, HN.out]
            simpa using ho4
          case measure => first | (simp [intOf]; done) | (simp [intOf]; omega)
      · have ek : k = l.length := by omega
        subst ek
        obtain ⟨ao, co, rfl, hsome, -⟩ := owns_sl3 hown
        obtain ⟨g, rfl⟩ := hsome (by omega)
        have hc : wr.cell? ⟨g, l.length, none⟩ = some (.int .i64 (lastI (dpT l l.length))) := by
          rw [hown.cellAt l.length (by omega), lastI_cons, hlen, List.getD]
          rw [List.getElem?_map]
          rw [List.getElem?_eq_getElem (by simp [hlen])]
          rfl
        obtain ⟨x, hx⟩ : ∃ x, lastI (dpT l l.length) = x := ⟨_, rfl⟩
        rw [hx] at hc
        have HX := Lib.hid hx
        have hk' : ¬ (l.length : Int) < l.length := by omega
        clear hown hlen hbd hb hx hsome
        go_wp2
        go_ret2
        exact ⟨ret_ii (by rw [HD.out, HX.out]) HF.out.2.1.symm, HB2.out.trans (HB.out.mono HB2.out.size)⟩
theorem walk_FnExactDepthOf (v : Value) (l : List Ru)  (w : World) (h0 : GrIn w v l) (h0b : l.length ≤ 9223372036854775807) (h0c : ∀ r ∈ l, r.1.size ≤ 9223372036854775807)  :
    Calls Try.prog 6 #[v] w fun e w' => e = .returned (.bool true) ∧ Below w.heap.size w w' := by
  obtain ⟨u, rfl, hin⟩ := h0
  have HS := Lib.hid (fun (u : Value) w =>  s_DepthOf u l w)
  have HI := Lib.hid (fun (u : Value) w =>  i_DepthOf u l w)
  have b0 := box_cell w u 24
  have i0 := inRu_box (o := .cells #[u] 24) hin
  clear hin
  go_enter Try.func6, Try.ntmps6
  go_wp2_with fail
  refine (l_szGrammar u l 1048576 _ (by omega) i0 h0b h0c).mono ?_
  rintro e w1 ⟨hb1, rfl | ⟨n0, rfl, hn0, hln, hsz⟩⟩
  · clear h0b h0c HS HI
    have hbb := below_box hb1
    clear hb1 b0 i0
    go_wp2
    go_ret
    exact ⟨rfl, hbb⟩
  · have HSZ := Lib.hid hsz
    have i1 := inRu_below i0 hb1
    have b1 := cell_later hb1 b0
    clear h0b h0c hsz b0 i0
    go_wp2_with fail
    refine (l_toGrammar u l w1 hln i1).mono ?_
    rintro e w2 ⟨g2, c2, rfl, ho2, hb2⟩
    have i2 := inRu_below i1 hb2
    have b2 := cell_later hb2 b1
    clear b1 i1
    go_wp2_with fail
    refine (HS.out _ w2 hln HSZ.out (inRu_own rfl ho2)).mono ?_
    rintro e w3 ⟨rfl, hb3⟩
    have i3 := inRu_below i2 hb3
    have b3 := cell_later hb3 b2
    clear b2 i2 ho2
    go_wp2_with fail
    refine (l_toGrammar u l w3 hln i3).mono ?_
    rintro e w4 ⟨g4, c4, rfl, ho4, hb4⟩
    have i4 := inRu_box (o := .cells #[.slice (some ⟨g4, 0, none⟩) l.length c4] 29) (inRu_below i3 hb4)
    have b4 := cell_later ((Below.refl _ _).alloc (Nat.le_refl _) (.cells #[.slice (some ⟨g4, 0, none⟩) l.length c4] 29)) (cell_later hb4 b3)
    have x4 := box_cell w4 (.slice (some ⟨g4, 0, none⟩) l.length c4) 29
    have ix4 := inRu_box (o := .cells #[.slice (some ⟨g4, 0, none⟩) l.length c4] 29) (inRu_own rfl ho4)
    clear b3 i3 ho4
    go_wp2_with fail
    refine (HI.out _ _ hln HSZ.out ix4).mono ?_
    rintro e w5 ⟨rfl, hb5⟩
    have i5 := inRu_below i4 hb5
    have b5 := cell_later hb5 b4
    have x5 := cell_later hb5 x4
    have ix5 := inRu_below ix4 hb5
    have HB5 : Hid (Below w.heap.size w w5) := by
      have s1 := hb1.size
      have s2 := hb2.size
      have s3 := hb3.size
      have s4 := hb4.size
      have s5 := hb5.size
      have hb45 := below_box hb5
      simp only [World.size_alloc] at s5
      exact below_box (((((hb1.trans (hb2.mono (by omega))).trans (hb3.mono (by omega))).trans (hb4.mono (by omega))).trans (hb45.mono (by omega))))
    clear b4 i4 x4 ix4 hb1 hb2 hb3 hb4 hb5
    go_wp2
    go_region_held3 (fun w' => Below w5.heap.size w5 w' ∧ w'.cell? ⟨w.heap.size, 0, none⟩ = some u ∧ w'.cell? ⟨w4.heap.size, 0, none⟩ = some (.slice (some ⟨g4, 0, none⟩) l.length c4) ∧ InRu w' u l ∧ InRu w' (.slice (some ⟨g4, 0, none⟩) l.length c4) l) (first | (go_split_ands; refine ⟨?_, ?_, ?_, ?_, ?_⟩ <;> first | assumption | exact Below.drew (Below.refl _ _) | exact Below.drew (by assumption) | exact inRu_below (by assumption) (Below.drew (Below.refl _ _)) | exact cell_later hbA (by assumption) | exact inRu_below (by assumption) hbA | exact Below.trans ‹Below w5.heap.size w5 _› (hbA.mono (Below.size ‹Below w5.heap.size w5 _›)) | simp [*])) (first | (go_at_call 17; refine (l_toGrammar u l _ hln (by assumption)).mono ?_; rintro e wA ⟨g6, c6, rfl, ho6, hbA⟩) | (go_at_call 19; refine (l_eqGrammar _ _ l _ (by first | assumption | exact inRu_below (inRu_below ix5 (Below.drew (Below.refl _ _))) hbA) (by first | exact inRu_own rfl ho6 | exact inRu_below (inRu_own rfl ho6) (Below.drew (Below.refl _ _))) hln).mono ?_; rintro e wA ⟨rfl, hbA⟩))
    rename_i hS
    have HBB : Hid (Below w.heap.size w wA) := HB5.out.trans (hS.1.mono HB5.out.size)
    clear hS hbA b5 x5 i5 ix5
    go_wp2
    go_ret
    exact ⟨rfl, HBB.out⟩
end Go.Proofs.Ytmcfjjhflnhehaa

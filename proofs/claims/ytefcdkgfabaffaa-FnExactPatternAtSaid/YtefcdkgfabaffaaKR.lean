/- Copies of tables; whether a list has a number. -/
import Derived.Test.YtefcdkgfabaffaaKN
import Derived.Test.YtefcdkgfabaffaaShelf
namespace Go.Proofs.Ytefcdkgfabaffaa
open Go.ChangeShapes Go.WideShapes Go.RowKit
set_option linter.unusedVariables false
set_option linter.unusedSimpArgs false
set_option maxHeartbeats 2000000
set_option maxRecDepth 100000
theorem take_tA {t : Tb} {k : Nat} (h : k < t.length) : t.take k ++ [tA t k] = t.take (k + 1) := by
  rw [List.take_succ_eq_append_getElem h, tA, List.getD, List.getElem?_eq_getElem h]; rfl
theorem inI_cells {w : World} {a : Option Addr} {cap : Nat} {xs : List Int} (h : InI w (.slice a xs.length cap) xs) (h0 : xs.length ≠ 0) : ∃ b off, a = some ⟨b, off, none⟩ ∧ b < w.heap.size ∧ ∀ j, j < xs.length → w.cell? ⟨b, off + j, none⟩ = some (.int .i64 (xs.getD j 0)) := by
  obtain ⟨b, off, rfl, hb, _⟩ := inI_at h (show 0 < xs.length by omega)
  refine ⟨b, off, rfl, hb, fun j hj => ?_⟩
  obtain ⟨b', off', e, _, hc⟩ := inI_at h hj
  injection e with e; injection e with e1 e2; subst e1 e2
  exact hc
theorem i_Clone64 (v : Value) (xs : List Int) (w : World) (h0 : xs.length ≠ 0) (hx : xs.length ≤ 1048576) (h : InI w v xs) :
    Calls Try.prog 136 #[v] w fun e w' => ∃ v', e = .returned v' ∧ w'.ownsRow w.heap.size 2 1 v' xs.length (iv xs) ∧ Below w.heap.size w w' := by
  obtain ⟨a, cap, rfl⟩ := inI_sl h
  obtain ⟨b, off, rfl, hb, hc⟩ := inI_cells h h0
  refine (Try.slices_Clone_int b off xs.length cap xs w (Nat.le_refl _) (by omega) hc).mono ?_
  rintro e w' ⟨v', rfl, ho, _, hb'⟩
  rw [List.take_length] at ho
  exact ⟨v', rfl, ho, hb'⟩
theorem s_l00Own (v : Value) (xs : List Int) (w : World) (h0 : xs.length ≠ 0) (hx : xs.length ≤ 1048576) (h : InI w v xs) :
    Calls Try.prog 135 #[v] w fun e w' => ∃ v', e = .returned v' ∧ w'.ownsRow w.heap.size 2 1 v' xs.length (iv xs) ∧ Below w.heap.size w w' := by
  obtain ⟨a, cap, rfl⟩ := inI_sl h
  obtain ⟨b, off, rfl, hb, hc⟩ := inI_cells h h0
  obtain ⟨i0, hi, hz0, hz1, hz2⟩ := info_parts info_i64
  have hal := (Below.refl w.heap.size w).alloc (Nat.le_refl _) (.cells #[] 2)
  have hnews : ∀ j u, (iv xs)[j]? = some u → (w.alloc (.cells #[] 2)).cell? ((⟨b, off, none⟩ : Addr).add j) = some u := by
    intro j u hu
    have hj : j < xs.length := by
      rcases Nat.lt_or_ge j xs.length with hq | hq
      · exact hq
      · rw [List.getElem?_eq_none (by simp [iv]; omega)] at hu; cases hu
    have e : (⟨b, off, none⟩ : Addr).add j = ⟨b, off + j, none⟩ := by unfold Addr.add; split <;> simp_all
    rw [e, cell_later hal (hc j hj)]
    simp [iv, List.getD, hj] at hu ⊢
    exact hu
  have hown := own_nil64 (w := w) (base := w.heap.size) (Nat.le_refl _)
  have HNW := Lib.hid hnews
  have HAL := Lib.hid hal
  clear hc h hnews hal
  go_enter Try.func135, Try.ntmps135
  go_wp2_with (at_builtin; refine wpList_append_own _ rfl _ _ 22 rfl w.heap.size 2 i0 (.int .i64 0) 1 8 Try.underlying22 hi hz0 hz1 hz2 rfl (by decide) _ _ _ rfl hown ⟨b, off, none⟩ xs.length cap (iv xs) rfl (by simp [iv]) HNW.out (by intro u hu; simp [iv] at hu; obtain ⟨y, _, rfl⟩ := hu; rfl) (by unfold maxLen; simp; omega) (by simp; omega) (by simp) ?_; intro v' w1 ho1 hg1 _)
  have HB : Hid (Below w.heap.size w w1) := Below.grown HAL.out hg1 (by simp) (fun k hk => (hown.lt k hk).1)
  clear hg1
  go_wp2
  go_ret
  exact ⟨_, rfl, by simpa [iv] using ho1, HB.out⟩
theorem i_copyTable (v : Value) (t : Tb) (w : World) (ht : t.length ≤ 1048576) (hr : ∀ k, k < t.length → (tA t k).length = 4) (hin : InT w v t) :
    Calls Try.prog 90 #[v] w fun e w' => ∃ v', e = .returned v' ∧ OwnT w.heap.size w' v' t ∧ Below w.heap.size w w' := by
  obtain ⟨a, cap, rfl⟩ := inT_sl hin
  have HIN := Lib.hid hin
  have HR := Lib.hid hr
  clear hin hr
  go_enter Try.func90, Try.ntmps90
  go_wp2
  go_loopw [3, 5, 9] (fun o _ i wr => Below w.heap.size w wr ∧ ∃ k : Nat, k ≤ t.length ∧ i = .int .i64 k ∧ OwnT w.heap.size wr o (t.take k)) (fun _ _ i _ => t.length - (intOf i).toNat)
  case atStart => exact ⟨(Below.refl _ _).alloc (Nat.le_refl _) _, 0, by omega, rfl, by have := ownT_nil (w := w) (base := w.heap.size) (Nat.le_refl _); simpa using this⟩
  case round =>
    obtain ⟨hb, k, hk, rfl, hown⟩ := hrel
    have HB := Lib.hid hb
    by_cases hlt : k < t.length
    · have hin : ((k : Nat) : Int) < t.length := by omega
      obtain ⟨bt, ot, rfl, hlt0, hall⟩ := inT_all (inT_below HIN.out hb) (by omega)
      obtain ⟨r, c, hc, hi⟩ := hall k hlt
      have hr4 := HR.out k hlt
      have HCL := Lib.hid (i_Clone64 _ _ wr (by omega) (by omega) hi)
      have HTK := Lib.hid (take_tA hlt)
      have htl : (t.take k).length = k := by simp; omega
      rw [hr4] at hc HCL
      have HOWN := Lib.hid hown
      have HR4 := Lib.hid hr4
      have hs1 : w.heap.size ≤ wr.heap.size := hb.size
      clear hall hi hr4 hb
      obtain ⟨ao, co, rfl⟩ := inT_sl (ownT_in hown)
      rw [htl]
      have hown1 : OwnT w.heap.size wr (.slice ao k co) (t.take k) := by have := HOWN.out; rwa [htl] at this
      clear hown
      have hkn : (t.take k).length + 1 ≤ 1099511627776 := by omega
      generalize t.take k = T at *
      generalize tA t k = x at *
      go_wp2_with fail
      refine (HCL.out).mono ?_
      rintro e w2 ⟨v', rfl, ho, hb2⟩
      obtain ⟨ar, cr, rfl, -, -⟩ := owns_sl3 ho
      have ho1 := own_len (m := x.length) ho (HR4.out)
      clear hc
      go_wp2_with (at_builtin; refine appT rfl (.tmp 13) (.tmp 16) rfl w.heap.size wr w2 _ _ _ T x (by rfl) hown1 hb2 ho1 (by rfl) (by simp) hkn (by omega) ?_; intro v' w4 ho4 hb4 hsz4)
      have HF := Lib.hid ((HB.out.trans (hb2.mono hs1)).trans hb4)
      clear hb2 hb4 ho
      go_roundw
      case rel => exact ⟨HF.out, k + 1, by omega, by go_num, by rw [← HTK.out]; exact ho4⟩
      case measure => first | (simp [intOf]; done) | (simp [intOf]; omega)
    · have ek : k = t.length := by omega
      subst ek
      have hk' : ¬ (t.length : Int) < t.length := by omega
      rw [List.take_length] at hown
      go_wp2
      go_ret
      exact ⟨_, rfl, hown, HB.out⟩
theorem s_l04Rows (v : Value) (t : Tb) (w : World) (ht : t.length ≤ 1048576) (hr : ∀ k, k < t.length → (tA t k).length = 4) (hin : InT w v t) :
    Calls Try.prog 89 #[v] w fun e w' => ∃ v', e = .returned v' ∧ OwnT w.heap.size w' v' t ∧ Below w.heap.size w w' := by
  obtain ⟨a, cap, rfl⟩ := inT_sl hin
  have HIN := Lib.hid hin
  have HR := Lib.hid hr
  clear hin hr
  go_enter Try.func89, Try.ntmps89
  go_wp2
  go_loopw [3, 4] (fun o i wr => Below w.heap.size w wr ∧ ∃ k : Nat, k ≤ t.length ∧ i = .int .i64 k ∧ OwnT w.heap.size wr o (t.take k)) (fun _ i _ => t.length - (intOf i).toNat)
  case atStart => exact ⟨(Below.refl _ _).alloc (Nat.le_refl _) _, 0, by omega, rfl, by have := ownT_nil (w := w) (base := w.heap.size) (Nat.le_refl _); simpa using this⟩
  case round =>
    obtain ⟨hb, k, hk, rfl, hown⟩ := hrel
    have HB := Lib.hid hb
    by_cases hlt : k < t.length
    · have hin : ((k : Nat) : Int) < t.length := by omega
      obtain ⟨bt, ot, rfl, hlt0, hall⟩ := inT_all (inT_below HIN.out hb) (by omega)
      obtain ⟨r, c, hc, hi⟩ := hall k hlt
      have hr4 := HR.out k hlt
      have HCL := Lib.hid (s_l00Own _ _ wr (by omega) (by omega) hi)
      have HTK := Lib.hid (take_tA hlt)
      have htl : (t.take k).length = k := by simp; omega
      rw [hr4] at hc HCL
      have HOWN := Lib.hid hown
      have HR4 := Lib.hid hr4
      have hs1 : w.heap.size ≤ wr.heap.size := hb.size
      clear hall hi hr4 hb
      obtain ⟨ao, co, rfl⟩ := inT_sl (ownT_in hown)
      rw [htl]
      have hown1 : OwnT w.heap.size wr (.slice ao k co) (t.take k) := by have := HOWN.out; rwa [htl] at this
      clear hown
      have hkn : (t.take k).length + 1 ≤ 1099511627776 := by omega
      generalize t.take k = T at *
      generalize tA t k = x at *
      go_wp2_with fail
      refine (HCL.out).mono ?_
      rintro e w2 ⟨v', rfl, ho, hb2⟩
      obtain ⟨ar, cr, rfl, -, -⟩ := owns_sl3 ho
      have ho1 := own_len (m := x.length) ho (HR4.out)
      clear hc
      go_wp2_with (at_builtin; refine appT rfl (.tmp 12) (.tmp 18) rfl w.heap.size wr w2 _ _ _ T x (by rfl) hown1 hb2 ho1 (by rfl) (by simp) hkn (by omega) ?_; intro v' w4 ho4 hb4 hsz4)
      have HF := Lib.hid ((HB.out.trans (hb2.mono hs1)).trans hb4)
      clear hb2 hb4 ho
      go_roundw
      case rel => exact ⟨HF.out, k + 1, by omega, by go_num, by rw [← HTK.out]; exact ho4⟩
      case measure => first | (simp [intOf]; done) | (simp [intOf]; omega)
    · have ek : k = t.length := by omega
      subst ek
      have hk' : ¬ (t.length : Int) < t.length := by omega
      rw [List.take_length] at hown
      go_wp2
      go_ret
      exact ⟨_, rfl, hown, HB.out⟩
theorem i_Contains64 (v : Value) (xs : List Int) (x : Int) (w : World) (hx : xs.length ≤ 1048576) (h : InI w v xs) :
    Calls Try.prog 88 #[v, .int .i64 x] w fun e w' => e = .returned (.bool (xs.contains x)) ∧ w' = w := by
  obtain ⟨a, cap, rfl⟩ := inI_sl h
  by_cases h0 : xs.length = 0
  · have e := List.eq_nil_of_length_eq_zero h0
    subst e
    exact Try.slices_Contains_int_empty a cap x w
  · obtain ⟨b, off, rfl, hb, hc⟩ := inI_cells h h0
    have := Try.slices_Contains_int b off xs.length cap xs x w (Nat.le_refl _) (by omega) hc
    rwa [List.take_length] at this
theorem s_l00Has (v : Value) (xs : List Int) (x : Int) (w : World) (hx : xs.length ≤ 1048576) (h : InI w v xs) :
    Calls Try.prog 87 #[v, .int .i64 x] w fun e w' => e = .returned (.bool (xs.contains x)) ∧ w' = w := by
  obtain ⟨a, cap, rfl⟩ := inI_sl h
  have HIN := Lib.hid h
  clear h
  go_enter Try.func87, Try.ntmps87
  go_wp2
  go_loop [5] (fun i => ∃ k : Nat, k ≤ xs.length ∧ i = .int .i64 k ∧ (xs.take k).contains x = false) (fun i => xs.length - (intOf i).toNat)
  case atStart => exact ⟨0, by omega, rfl, by simp⟩
  case round =>
    obtain ⟨k, hk, rfl, hno⟩ := hrel
    by_cases hlt : k < xs.length
    · have hin : ((k : Nat) : Int) < xs.length := by omega
      obtain ⟨b, off, rfl, hb, hc⟩ := inI_at HIN.out hlt
      have HS : Hid (xs.take (k + 1) = xs.take k ++ [xs.getD k 0]) := by
        show _ = _
        rw [List.take_succ_eq_append_getElem hlt, List.getD, List.getElem?_eq_getElem hlt]; rfl
      have HM := Lib.hid (getD_mem hlt)
      by_cases he : xs.getD k 0 = x
      · have HF : Hid (xs.contains x = true) := by
          show _ = _
          rw [List.contains_iff_mem]
          exact he ▸ HM.out
        generalize xs.getD k 0 = y at *
        subst he
        go_wp2
        go_ret
        exact ⟨ret_bool (by have := HF.out; simp at this; simp [this]), rfl⟩
      · have HN : Hid ((xs.take (k + 1)).contains x = false) := by
          show _ = _
          rw [HS.out]
          simp at hno ⊢
          refine ⟨hno, fun h => he (by first | exact h.symm | simpa using h.symm)⟩
        have hne : (xs.getD k 0 == x) = false := by rw [beq_eq_false_iff_ne]; exact he
        generalize xs.getD k 0 = y at *
        go_wp2
        go_round
        case rel => exact ⟨k + 1, by omega, by go_num, HN.out⟩
        case measure => first | (simp [intOf]; done) | (simp [intOf]; omega)
    · have ek : k = xs.length := by omega
      subst ek
      rw [List.take_length] at hno
      have hk' : ¬ (xs.length : Int) < xs.length := by omega
      go_wp2
      go_ret
      exact ⟨ret_bool (by simp at hno; simp [hno]), rfl⟩
end Go.Proofs.Ytefcdkgfabaffaa

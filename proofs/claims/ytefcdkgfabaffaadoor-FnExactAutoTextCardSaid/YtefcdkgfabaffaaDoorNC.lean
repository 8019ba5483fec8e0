/- The law of AutoText. -/
import Derived.Test.YtefcdkgfabaffaaDoorNB
namespace Go.Proofs.YtefcdkgfabaffaaDoor
open Go.ChangeShapes Go.WideShapes Go.RowKit
set_option linter.unusedVariables false
set_option linter.unusedSimpArgs false
set_option maxHeartbeats 1500000
set_option maxRecDepth 100000
theorem walk_FnExactAutoText (v0 : Value) (a0 : Au) (w : World) (h0 : InAu w v0 a0) (h0b : a0.fi.length ≤ 9223372036854775807 ∧ a0.nx.length ≤ 9223372036854775807) (h0c : ∀ r ∈ a0.nx, r.length ≤ 9223372036854775807) :
    Calls Tryd.prog 3 #[v0] w fun e w' => e = .returned (.bool true) ∧ Below w.heap.size w w' := by
  obtain ⟨p0a, p0b, rfl, im0, jm0⟩ := h0
  have hbx := ((Below.refl w.heap.size w).alloc (by first | exact Nat.le_refl _ | (simp; done) | (simp; omega)) (.cells #[.int .i64 a0.st, .int .i64 a0.sa, p0a, p0b] 25))
  have b0_0 : (w.alloc (.cells #[.int .i64 a0.st, .int .i64 a0.sa, p0a, p0b] 25)).cell? ⟨w.heap.size, 0, none⟩ = some (.int .i64 a0.st) := by simp [go_sem]
  have b0_1 : (w.alloc (.cells #[.int .i64 a0.st, .int .i64 a0.sa, p0a, p0b] 25)).cell? ⟨w.heap.size, 1, none⟩ = some (.int .i64 a0.sa) := by simp [go_sem]
  have b0_2 : (w.alloc (.cells #[.int .i64 a0.st, .int .i64 a0.sa, p0a, p0b] 25)).cell? ⟨w.heap.size, 2, none⟩ = some (p0a) := by simp [go_sem]
  have b0_3 : (w.alloc (.cells #[.int .i64 a0.st, .int .i64 a0.sa, p0a, p0b] 25)).cell? ⟨w.heap.size, 3, none⟩ = some (p0b) := by simp [go_sem]
  have m0_0 := inI_below im0 hbx
  have m0_1 := inT_below jm0 hbx
  have HBX : Hid (∀ w', Below (w.alloc (.cells #[.int .i64 a0.st, .int .i64 a0.sa, p0a, p0b] 25)).heap.size (w.alloc (.cells #[.int .i64 a0.st, .int .i64 a0.sa, p0a, p0b] 25)) w' → Below w.heap.size w w') := fun w' h => (below_box h)
  clear hbx im0 jm0
  go_enter Tryd.func3, Tryd.ntmps3
  go_wp2_with fail
  refine (l_szAuto _ _ a0 1048576 _ (by omega) m0_0 m0_1 h0b.1 h0b.2 h0c).mono ?_
  rintro e w1 ⟨hb1, rfl | ⟨q1, rfl, hq1, hs0⟩⟩
  · have hbb := HBX.out _ hb1
    clear hb1 b0_0 b0_1 b0_2 b0_3 m0_0 m0_1 
    go_wp2
    go_ret
    exact ⟨rfl, hbb⟩
  have B1 := hb1
  clear hb1
  have HSM0 := Lib.hid hs0
  clear hs0
  clear h0b h0c
  have c0_0 := cell_later B1 b0_0
  have c0_1 := cell_later B1 b0_1
  have c0_2 := cell_later B1 b0_2
  have c0_3 := cell_later B1 b0_3
  have k0_0 := inI_below m0_0 B1
  have k0_1 := inT_below m0_1 B1
  go_wp2_with fail
  refine (l_toAuto2 _ _ a0 _ HSM0.out k0_0 k0_1).mono ?_
  rintro e w2 ⟨s0a, s0b, rfl, sf0a, sf0b, hb2⟩
  clear c0_0 c0_1 c0_2 c0_3 k0_0 k0_1
  have B2 := B1.trans (hb2.mono B1.size)
  clear B1
  clear hb2
  go_wp2_with fail
  refine (s_AutoText _ _ a0 _ HSM0.out sf0a sf0b  ).mono ?_
  rintro e w3 ⟨rfl, hb3⟩
  clear sf0a sf0b
  have B3 := B2.trans (hb3.mono B2.size)
  clear B2
  clear hb3
  have c0_0 := cell_later B3 b0_0
  have c0_1 := cell_later B3 b0_1
  have c0_2 := cell_later B3 b0_2
  have c0_3 := cell_later B3 b0_3
  have k0_0 := inI_below m0_0 B3
  have k0_1 := inT_below m0_1 B3
  go_wp2_with fail
  refine (l_toAuto2 _ _ a0 _ HSM0.out k0_0 k0_1).mono ?_
  rintro e w4 ⟨x0a, x0b, rfl, xf0a, xf0b, hb4⟩
  clear c0_0 c0_1 c0_2 c0_3 k0_0 k0_1
  have B4 := B3.trans (hb4.mono B3.size)
  clear B3
  clear hb4
  have al := (Below.refl _ w4).alloc (Nat.le_refl _) (.cells #[.int .i64 a0.st, .int .i64 a0.sa, .slice (some ⟨x0a, 0, none⟩) a0.fi.length a0.fi.length, .slice (some ⟨x0b, 0, none⟩) a0.nx.length a0.nx.length] 28)
  have xf0a' := inI_below xf0a al
  clear xf0a
  have xf0a := xf0a'
  clear xf0a'
  have xf0b' := inT_below xf0b al
  clear xf0b
  have xf0b := xf0b'
  clear xf0b'
  have Bq := B4.alloc B4.size (.cells #[.int .i64 a0.st, .int .i64 a0.sa, .slice (some ⟨x0a, 0, none⟩) a0.fi.length a0.fi.length, .slice (some ⟨x0b, 0, none⟩) a0.nx.length a0.nx.length] 28)
  clear al B4
  have B4 := Bq
  clear Bq
  have z0_0 : (w4.alloc (.cells #[.int .i64 a0.st, .int .i64 a0.sa, .slice (some ⟨x0a, 0, none⟩) a0.fi.length a0.fi.length, .slice (some ⟨x0b, 0, none⟩) a0.nx.length a0.nx.length] 28)).cell? ⟨w4.heap.size, 0, none⟩ = some (.int .i64 a0.st) := by simp [go_sem]
  have z0_1 : (w4.alloc (.cells #[.int .i64 a0.st, .int .i64 a0.sa, .slice (some ⟨x0a, 0, none⟩) a0.fi.length a0.fi.length, .slice (some ⟨x0b, 0, none⟩) a0.nx.length a0.nx.length] 28)).cell? ⟨w4.heap.size, 1, none⟩ = some (.int .i64 a0.sa) := by simp [go_sem]
  have z0_2 : (w4.alloc (.cells #[.int .i64 a0.st, .int .i64 a0.sa, .slice (some ⟨x0a, 0, none⟩) a0.fi.length a0.fi.length, .slice (some ⟨x0b, 0, none⟩) a0.nx.length a0.nx.length] 28)).cell? ⟨w4.heap.size, 2, none⟩ = some (.slice (some ⟨x0a, 0, none⟩) a0.fi.length a0.fi.length) := by simp [go_sem]
  have z0_3 : (w4.alloc (.cells #[.int .i64 a0.st, .int .i64 a0.sa, .slice (some ⟨x0a, 0, none⟩) a0.fi.length a0.fi.length, .slice (some ⟨x0b, 0, none⟩) a0.nx.length a0.nx.length] 28)).cell? ⟨w4.heap.size, 3, none⟩ = some (.slice (some ⟨x0b, 0, none⟩) a0.nx.length a0.nx.length) := by simp [go_sem]
  go_wp2_with fail
  refine (i_AutoText _ _ a0 _ HSM0.out xf0a xf0b  ).mono ?_
  rintro e w5 ⟨rfl, hb5⟩
  have xf0a' := inI_below xf0a hb5
  clear xf0a
  have xf0a := xf0a'
  clear xf0a'
  have xf0b' := inT_below xf0b hb5
  clear xf0b
  have xf0b := xf0b'
  clear xf0b'
  have z0_0' := cell_later hb5 z0_0
  clear z0_0
  have z0_0 := z0_0'
  clear z0_0'
  have z0_1' := cell_later hb5 z0_1
  clear z0_1
  have z0_1 := z0_1'
  clear z0_1'
  have z0_2' := cell_later hb5 z0_2
  clear z0_2
  have z0_2 := z0_2'
  clear z0_2'
  have z0_3' := cell_later hb5 z0_3
  clear z0_3
  have z0_3 := z0_3'
  clear z0_3'
  have B5 := B4.trans (hb5.mono B4.size)
  clear B4
  clear hb5
  go_wp2
  have c0_0 := cell_later B5 b0_0
  have c0_1 := cell_later B5 b0_1
  have c0_2 := cell_later B5 b0_2
  have c0_3 := cell_later B5 b0_3
  have k0_0 := inI_below m0_0 B5
  have k0_1 := inT_below m0_1 B5
  go_region_held3 (fun w' => Below w5.heap.size w5 w' ∧ w'.cell? ⟨w.heap.size, 0, none⟩ = some (.int .i64 a0.st) ∧ w'.cell? ⟨w.heap.size, 1, none⟩ = some (.int .i64 a0.sa) ∧ w'.cell? ⟨w.heap.size, 2, none⟩ = some (p0a) ∧ w'.cell? ⟨w.heap.size, 3, none⟩ = some (p0b) ∧ w'.cell? ⟨w4.heap.size, 0, none⟩ = some (.int .i64 a0.st) ∧ w'.cell? ⟨w4.heap.size, 1, none⟩ = some (.int .i64 a0.sa) ∧ w'.cell? ⟨w4.heap.size, 2, none⟩ = some (.slice (some ⟨x0a, 0, none⟩) a0.fi.length a0.fi.length) ∧ w'.cell? ⟨w4.heap.size, 3, none⟩ = some (.slice (some ⟨x0b, 0, none⟩) a0.nx.length a0.nx.length) ∧ InI w' (p0a) a0.fi ∧ InT w' (p0b) a0.nx ∧ InI w' (.slice (some ⟨x0a, 0, none⟩) a0.fi.length a0.fi.length) a0.fi ∧ InT w' (.slice (some ⟨x0b, 0, none⟩) a0.nx.length a0.nx.length) a0.nx) ((first | (go_split_ands; (repeat' apply And.intro) <;> first | assumption | exact Below.drew (Below.refl _ _) | exact Below.drew (by assumption) | exact inI_below (by assumption) (Below.drew (Below.refl _ _)) | exact inT_below (by assumption) (Below.drew (Below.refl _ _)) | exact cell_later hA0 (by assumption) | exact inI_below (by assumption) hA0 | exact inT_below (by assumption) hA0 | exact Below.trans ‹Below w5.heap.size w5 _› (hA0.mono (Below.size ‹Below w5.heap.size w5 _›)) | exact cell_later hF0 (by assumption) | exact inI_below (by assumption) hF0 | exact inT_below (by assumption) hF0 | exact Below.trans ‹Below w5.heap.size w5 _› (hF0.mono (Below.size ‹Below w5.heap.size w5 _›)) | (simp; assumption)))) (first | (go_at_call 6; with_reducible refine (l_toAuto2 _ _ a0 _ HSM0.out (by first | assumption | (go_split_ands; assumption)) (by first | assumption | (go_split_ands; assumption))).mono ?_; rintro e wA0 ⟨y0a, y0b, rfl, yf0a, yf0b, hA0⟩) | (go_at_call 8; with_reducible refine (l_eqAuto _ _ _ _ a0 _ HSM0.out (by first | exact xf0a | exact inI_below xf0a (Below.drew (Below.refl _ _)) | exact inI_below xf0a hA0 | exact inI_below (inI_below xf0a hA0) (Below.drew (Below.refl _ _)) | exact inI_below (inI_below xf0a (Below.drew (Below.refl _ _))) hA0 | exact inI_below (inI_below (inI_below xf0a (Below.drew (Below.refl _ _))) hA0) (Below.drew (Below.refl _ _))) (by first | exact xf0b | exact inT_below xf0b (Below.drew (Below.refl _ _)) | exact inT_below xf0b hA0 | exact inT_below (inT_below xf0b hA0) (Below.drew (Below.refl _ _)) | exact inT_below (inT_below xf0b (Below.drew (Below.refl _ _))) hA0 | exact inT_below (inT_below (inT_below xf0b (Below.drew (Below.refl _ _))) hA0) (Below.drew (Below.refl _ _))) (by first | exact yf0a | exact inI_below yf0a (Below.drew (Below.refl _ _))) (by first | exact yf0b | exact inT_below yf0b (Below.drew (Below.refl _ _)))).mono ?_; rintro e wF0 ⟨rfl, hF0⟩))
  rename_i hS
  have BR0 := B5.trans (hS.1.mono B5.size)
  clear c0_0 c0_1 c0_2 c0_3 k0_0 k0_1
  clear hS hA0 hF0 yf0a yf0b z0_0 z0_1 z0_2 z0_3 xf0a xf0b B5
  have BF := HBX.out _ BR0
  clear BR0 b0_0 b0_1 b0_2 b0_3 m0_0 m0_1
  go_wp2
  go_ret
  exact ⟨rfl, BF⟩
end Go.Proofs.YtefcdkgfabaffaaDoor

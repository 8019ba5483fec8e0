/- The law of PatternAt. -/
import Derived.Test.YtefcdkgfabaffaaVW
namespace Go.Proofs.Ytefcdkgfabaffaa
open Go.ChangeShapes Go.WideShapes Go.RowKit
set_option linter.unusedVariables false
set_option linter.unusedSimpArgs false
set_option maxHeartbeats 1500000
set_option maxRecDepth 100000
theorem walk_FnExactPatternAt (v0 : Value) (l0 : List Ru) (t1 : ByteArray) (n2 : Int) (w : World) (h0 : GrIn w v0 l0) (h0b : l0.length ≤ 9223372036854775807) (h0c : ∀ r ∈ l0, r.1.size ≤ 9223372036854775807) (h1 : t1.size ≤ 9223372036854775807) (h2 : (Lit.int .i64 n2).wf = true) :
    Calls Try.prog 12 #[v0, .string t1, .int .i64 n2] w fun e w' => e = .returned (.bool true) ∧ Below w.heap.size w w' := by
  obtain ⟨p0a, rfl, im0⟩ := h0
  have hbx := ((Below.refl w.heap.size w).alloc (by first | exact Nat.le_refl _ | (simp; done) | (simp; omega)) (.cells #[p0a] 53))
  have b0_0 : (w.alloc (.cells #[p0a] 53)).cell? ⟨w.heap.size, 0, none⟩ = some (p0a) := by simp [go_sem]
  have m0_0 := inRu_below im0 hbx
  have HBX : Hid (∀ w', Below (w.alloc (.cells #[p0a] 53)).heap.size (w.alloc (.cells #[p0a] 53)) w' → Below w.heap.size w w') := fun w' h => (below_box h)
  clear hbx im0
  rcases Nat.lt_or_ge 1048576 t1.size with hz1 | hz1
  · have hg1 : decide ((1048576 : Int) < (t1.size : Int)) = true := by rw [decide_eq_true_iff]; omega
    go_enter Try.func12, Try.ntmps12
    clear b0_0 m0_0
    go_wp2
    go_ret
    exact ⟨rfl, HBX.out _ (Below.refl _ _)⟩
  have hg1 : decide ((1048576 : Int) < (t1.size : Int)) = false := by rw [decide_eq_false_iff_not]; omega
  go_enter Try.func12, Try.ntmps12
  go_wp2_with fail
  refine (l_szGrammar _ l0 1048576 _ (by omega) m0_0 h0b h0c).mono ?_
  rintro e w1 ⟨hb1, rfl | ⟨q1, rfl, hq1, hn0, hs0⟩⟩
  · have hbb := HBX.out _ hb1
    clear hb1 b0_0 m0_0 
    go_wp2
    go_ret
    exact ⟨rfl, hbb⟩
  have B1 := hb1
  clear hb1
  have HLN0 := Lib.hid hn0
  clear hn0
  have HSM0 := Lib.hid hs0
  clear hs0
  clear h0b h0c
  have c0_0 := cell_later B1 b0_0
  have k0_0 := inRu_below m0_0 B1
  go_wp2_with fail
  refine (l_toGrammar2 _ l0 _ HLN0.out k0_0).mono ?_
  rintro e w2 ⟨s0a, s0c, rfl, sf0a, hb2⟩
  clear c0_0 k0_0
  have B2 := B1.trans (hb2.mono B1.size)
  clear B1
  clear hb2
  go_wp2_with fail
  refine (s_PatternAt _ l0 t1 n2 _ HLN0.out HSM0.out sf0a hz1 h2).mono ?_
  rintro e w3 ⟨rfl, hb3⟩
  clear sf0a
  have B3 := B2.trans (hb3.mono B2.size)
  clear B2
  clear hb3
  have c0_0 := cell_later B3 b0_0
  have k0_0 := inRu_below m0_0 B3
  go_wp2_with fail
  refine (l_toGrammar2 _ l0 _ HLN0.out k0_0).mono ?_
  rintro e w4 ⟨x0a, x0c, rfl, xf0a, hb4⟩
  clear c0_0 k0_0
  have B4 := B3.trans (hb4.mono B3.size)
  clear B3
  clear hb4
  have al := (Below.refl _ w4).alloc (Nat.le_refl _) (.cells #[.slice (some ⟨x0a, 0, none⟩) l0.length x0c] 59)
  have xf0a' := inRu_below xf0a al
  clear xf0a
  have xf0a := xf0a'
  clear xf0a'
  have Bq := B4.alloc B4.size (.cells #[.slice (some ⟨x0a, 0, none⟩) l0.length x0c] 59)
  clear al B4
  have B4 := Bq
  clear Bq
  have z0_0 : (w4.alloc (.cells #[.slice (some ⟨x0a, 0, none⟩) l0.length x0c] 59)).cell? ⟨w4.heap.size, 0, none⟩ = some (.slice (some ⟨x0a, 0, none⟩) l0.length x0c) := by simp [go_sem]
  go_wp2_with fail
  refine (i_PatternAt _ l0 t1 n2 _ HLN0.out HSM0.out xf0a hz1 h2).mono ?_
  rintro e w5 ⟨rfl, hb5⟩
  have xf0a' := inRu_below xf0a hb5
  clear xf0a
  have xf0a := xf0a'
  clear xf0a'
  have z0_0' := cell_later hb5 z0_0
  clear z0_0
  have z0_0 := z0_0'
  clear z0_0'
  have B5 := B4.trans (hb5.mono B4.size)
  clear B4
  clear hb5
  go_wp2
  have c0_0 := cell_later B5 b0_0
  have k0_0 := inRu_below m0_0 B5
  go_region_held3 (fun w' => Below w5.heap.size w5 w' ∧ w'.cell? ⟨w.heap.size, 0, none⟩ = some (p0a) ∧ w'.cell? ⟨w4.heap.size, 0, none⟩ = some (.slice (some ⟨x0a, 0, none⟩) l0.length x0c) ∧ InRu w' (p0a) l0 ∧ InRu w' (.slice (some ⟨x0a, 0, none⟩) l0.length x0c) l0) ((first | (go_split_ands; (repeat' apply And.intro) <;> first | assumption | exact Below.drew (Below.refl _ _) | exact Below.drew (by assumption) | exact inRu_below (by assumption) (Below.drew (Below.refl _ _)) | exact cell_later hA0 (by assumption) | exact inRu_below (by assumption) hA0 | exact Below.trans ‹Below w5.heap.size w5 _› (hA0.mono (Below.size ‹Below w5.heap.size w5 _›)) | exact cell_later hF0 (by assumption) | exact inRu_below (by assumption) hF0 | exact Below.trans ‹Below w5.heap.size w5 _› (hF0.mono (Below.size ‹Below w5.heap.size w5 _›)) | (simp; assumption)))) (first | (go_at_call 41; with_reducible refine (l_toGrammar2 _ l0 _ HLN0.out (by first | assumption | (go_split_ands; assumption))).mono ?_; rintro e wA0 ⟨y0a, y0c, rfl, yf0a, hA0⟩) | (go_at_call 44; with_reducible refine (l_eqGrammar _ _ l0 _ (by first | exact xf0a | exact inRu_below xf0a (Below.drew (Below.refl _ _)) | exact inRu_below xf0a hA0 | exact inRu_below (inRu_below xf0a hA0) (Below.drew (Below.refl _ _)) | exact inRu_below (inRu_below xf0a (Below.drew (Below.refl _ _))) hA0 | exact inRu_below (inRu_below (inRu_below xf0a (Below.drew (Below.refl _ _))) hA0) (Below.drew (Below.refl _ _))) (by first | exact yf0a | exact inRu_below yf0a (Below.drew (Below.refl _ _))) HLN0.out).mono ?_; rintro e wF0 ⟨rfl, hF0⟩))
  rename_i hS
  have BR0 := B5.trans (hS.1.mono B5.size)
  clear c0_0 k0_0
  clear hS hA0 hF0 yf0a  z0_0 xf0a B5
  have BF := HBX.out _ BR0
  clear BR0 b0_0 m0_0
  go_wp2
  go_ret
  exact ⟨rfl, BF⟩
end Go.Proofs.Ytefcdkgfabaffaa

/- The law of FirstVisit. -/
import Derived.Test.YtefcdkgfabaffaaVQ
namespace Go.Proofs.Ytefcdkgfabaffaa
open Go.ChangeShapes Go.WideShapes Go.RowKit
set_option linter.unusedVariables false
set_option linter.unusedSimpArgs false
set_option maxHeartbeats 1500000
set_option maxRecDepth 100000
theorem walk_FnExactFirstVisit (v0 : Value) (a0 : Au) (v1 : Value) (l1 : List Ru) (n2 : Int) (w : World) (h0 : InAu w v0 a0) (h0b : a0.fi.length ≤ 9223372036854775807 ∧ a0.nx.length ≤ 9223372036854775807) (h0c : ∀ r ∈ a0.nx, r.length ≤ 9223372036854775807) (h1 : GrIn w v1 l1) (h1b : l1.length ≤ 9223372036854775807) (h1c : ∀ r ∈ l1, r.1.size ≤ 9223372036854775807) (h2 : (Lit.int .i64 n2).wf = true) :
    Calls Try.prog 14 #[v0, v1, .int .i64 n2] w fun e w' => e = .returned (.bool true) ∧ Below w.heap.size w w' := by
  obtain ⟨p0a, p0b, rfl, im0, jm0⟩ := h0
  obtain ⟨p1a, rfl, im1⟩ := h1
  have hbx := (((Below.refl w.heap.size w).alloc (by first | exact Nat.le_refl _ | (simp; done) | (simp; omega)) (.cells #[.int .i64 a0.st, .int .i64 a0.sa, p0a, p0b] 25)).alloc (by first | exact Nat.le_refl _ | (simp; done) | (simp; omega)) (.cells #[p1a] 53))
  have b0_0 : ((w.alloc (.cells #[.int .i64 a0.st, .int .i64 a0.sa, p0a, p0b] 25)).alloc (.cells #[p1a] 53)).cell? ⟨w.heap.size, 0, none⟩ = some (.int .i64 a0.st) := by simp [go_sem]
  have b0_1 : ((w.alloc (.cells #[.int .i64 a0.st, .int .i64 a0.sa, p0a, p0b] 25)).alloc (.cells #[p1a] 53)).cell? ⟨w.heap.size, 1, none⟩ = some (.int .i64 a0.sa) := by simp [go_sem]
  have b0_2 : ((w.alloc (.cells #[.int .i64 a0.st, .int .i64 a0.sa, p0a, p0b] 25)).alloc (.cells #[p1a] 53)).cell? ⟨w.heap.size, 2, none⟩ = some (p0a) := by simp [go_sem]
  have b0_3 : ((w.alloc (.cells #[.int .i64 a0.st, .int .i64 a0.sa, p0a, p0b] 25)).alloc (.cells #[p1a] 53)).cell? ⟨w.heap.size, 3, none⟩ = some (p0b) := by simp [go_sem]
  have m0_0 := inI_below im0 hbx
  have m0_1 := inT_below jm0 hbx
  have b1_0 : ((w.alloc (.cells #[.int .i64 a0.st, .int .i64 a0.sa, p0a, p0b] 25)).alloc (.cells #[p1a] 53)).cell? ⟨(w.heap.size + 1), 0, none⟩ = some (p1a) := by simp [go_sem]
  have m1_0 := inRu_below im1 hbx
  have HBX : Hid (∀ w', Below ((w.alloc (.cells #[.int .i64 a0.st, .int .i64 a0.sa, p0a, p0b] 25)).alloc (.cells #[p1a] 53)).heap.size ((w.alloc (.cells #[.int .i64 a0.st, .int .i64 a0.sa, p0a, p0b] 25)).alloc (.cells #[p1a] 53)) w' → Below w.heap.size w w') := fun w' h => (below_box (below_box h))
  clear hbx im0 jm0 im1
  go_enter Try.func14, Try.ntmps14
  go_wp2_with fail
  refine (l_szAuto _ _ a0 1048576 _ (by omega) m0_0 m0_1 h0b.1 h0b.2 h0c).mono ?_
  rintro e w1 ⟨hb1, rfl | ⟨q1, rfl, hq1, hs0⟩⟩
  · have hbb := HBX.out _ hb1
    clear hb1 b0_0 b0_1 b0_2 b0_3 m0_0 m0_1 b1_0 m1_0 
    go_wp2
    go_ret
    exact ⟨rfl, hbb⟩
  have B1 := hb1
  clear hb1
  have HSM0 := Lib.hid hs0
  clear hs0
  have c1_0 := cell_later B1 b1_0
  have k1_0 := inRu_below m1_0 B1
  go_wp2_with fail
  refine (l_szGrammar _ l1 q1 _ hq1 k1_0 h1b h1c).mono ?_
  rintro e w2 ⟨hb2, rfl | ⟨q2, rfl, hq2, hn1, hs1⟩⟩
  · have hbb := HBX.out _ (B1.trans (hb2.mono B1.size))
    clear hb2 b0_0 b0_1 b0_2 b0_3 m0_0 m0_1 b1_0 m1_0 B1
    clear c1_0 k1_0
    go_wp2
    go_ret
    exact ⟨rfl, hbb⟩
  clear c1_0 k1_0
  have B2 := B1.trans (hb2.mono B1.size)
  clear hb2 B1
  have HLN1 := Lib.hid hn1
  clear hn1
  have HSM1 := Lib.hid hs1
  clear hs1
  clear h0b h0c h1b h1c
  have c0_0 := cell_later B2 b0_0
  have c0_1 := cell_later B2 b0_1
  have c0_2 := cell_later B2 b0_2
  have c0_3 := cell_later B2 b0_3
  have k0_0 := inI_below m0_0 B2
  have k0_1 := inT_below m0_1 B2
  have c1_0 := cell_later B2 b1_0
  have k1_0 := inRu_below m1_0 B2
  go_wp2
  go_region_held3 (fun w' => Below w2.heap.size w2 w' ∧ w'.cell? ⟨w.heap.size, 0, none⟩ = some (.int .i64 a0.st) ∧ w'.cell? ⟨w.heap.size, 1, none⟩ = some (.int .i64 a0.sa) ∧ w'.cell? ⟨w.heap.size, 2, none⟩ = some (p0a) ∧ w'.cell? ⟨w.heap.size, 3, none⟩ = some (p0b) ∧ InI w' (p0a) a0.fi ∧ InT w' (p0b) a0.nx ∧ w'.cell? ⟨(w.heap.size + 1), 0, none⟩ = some (p1a) ∧ InRu w' (p1a) l1) ((first | (go_split_ands; (repeat' apply And.intro) <;> first | assumption | exact Below.drew (Below.refl _ _) | exact Below.drew (by assumption) | exact inI_below (by assumption) (Below.drew (Below.refl _ _)) | exact inT_below (by assumption) (Below.drew (Below.refl _ _)) | exact inRu_below (by assumption) (Below.drew (Below.refl _ _)) | exact cell_later hT0 (by assumption) | exact inI_below (by assumption) hT0 | exact inT_below (by assumption) hT0 | exact inRu_below (by assumption) hT0 | exact Below.trans ‹Below w2.heap.size w2 _› (hT0.mono (Below.size ‹Below w2.heap.size w2 _›)) | exact cell_later hT1 (by assumption) | exact inI_below (by assumption) hT1 | exact inT_below (by assumption) hT1 | exact inRu_below (by assumption) hT1 | exact Below.trans ‹Below w2.heap.size w2 _› (hT1.mono (Below.size ‹Below w2.heap.size w2 _›)) | exact cell_later hTS (by assumption) | exact inI_below (by assumption) hTS | exact inT_below (by assumption) hTS | exact inRu_below (by assumption) hTS | exact Below.trans ‹Below w2.heap.size w2 _› (hTS.mono (Below.size ‹Below w2.heap.size w2 _›)) | (simp; assumption)))) (first | (go_at_call 19; with_reducible refine (l_toAuto2 _ _ a0 _ HSM0.out (by first | assumption | (go_split_ands; assumption)) (by first | assumption | (go_split_ands; assumption))).mono ?_; rintro e wT0 ⟨s0a, s0b, rfl, sf0a, sf0b, hT0⟩) | (go_at_call 41; with_reducible refine (l_toGrammar2 _ l1 _ HLN1.out (by first | assumption | (go_split_ands; assumption))).mono ?_; rintro e wT1 ⟨s1a, s1c, rfl, sf1a, hT1⟩) | (go_at_call 54; with_reducible refine (s_FirstVisit _ _ _ a0 l1 n2 _ HSM0.out HLN1.out HSM1.out (by first | exact sf0a | exact inI_below sf0a (Below.drew (Below.refl _ _)) | exact inI_below sf0a hT1 | exact inI_below (inI_below sf0a hT1) (Below.drew (Below.refl _ _)) | exact inI_below (inI_below sf0a (Below.drew (Below.refl _ _))) hT1 | exact inI_below (inI_below (inI_below sf0a (Below.drew (Below.refl _ _))) hT1) (Below.drew (Below.refl _ _))) (by first | exact sf0b | exact inT_below sf0b (Below.drew (Below.refl _ _)) | exact inT_below sf0b hT1 | exact inT_below (inT_below sf0b hT1) (Below.drew (Below.refl _ _)) | exact inT_below (inT_below sf0b (Below.drew (Below.refl _ _))) hT1 | exact inT_below (inT_below (inT_below sf0b (Below.drew (Below.refl _ _))) hT1) (Below.drew (Below.refl _ _))) (by first | exact sf1a | exact inRu_below sf1a (Below.drew (Below.refl _ _)))  h2).mono ?_; rintro e wS ⟨rfl, hTS⟩))
  all_goals
    rename_i hS
    have BC := B2.trans (hS.1.mono B2.size)
    clear c0_0 c0_1 c0_2 c0_3 k0_0 k0_1 c1_0 k1_0
    clear hS hTS hT0 sf0a sf0b hT1 sf1a B2
    have c0_0 := cell_later BC b0_0
    have c0_1 := cell_later BC b0_1
    have c0_2 := cell_later BC b0_2
    have c0_3 := cell_later BC b0_3
    have k0_0 := inI_below m0_0 BC
    have k0_1 := inT_below m0_1 BC
    go_wp2_with fail
    refine (l_toAuto2 _ _ a0 _ HSM0.out k0_0 k0_1).mono ?_
    rintro e w3 ⟨x0a, x0b, rfl, xf0a, xf0b, hb3⟩
    clear c0_0 c0_1 c0_2 c0_3 k0_0 k0_1
    have B3 := BC.trans (hb3.mono BC.size)
    clear BC
    clear hb3
    have al := (Below.refl _ w3).alloc (Nat.le_refl _) (.cells #[.int .i64 a0.st, .int .i64 a0.sa, .slice (some ⟨x0a, 0, none⟩) a0.fi.length a0.fi.length, .slice (some ⟨x0b, 0, none⟩) a0.nx.length a0.nx.length] 28)
    have xf0a' := inI_below xf0a al
    clear xf0a
    have xf0a := xf0a'
    clear xf0a'
    have xf0b' := inT_below xf0b al
    clear xf0b
    have xf0b := xf0b'
    clear xf0b'
    have Bq := B3.alloc B3.size (.cells #[.int .i64 a0.st, .int .i64 a0.sa, .slice (some ⟨x0a, 0, none⟩) a0.fi.length a0.fi.length, .slice (some ⟨x0b, 0, none⟩) a0.nx.length a0.nx.length] 28)
    clear al B3
    have B3 := Bq
    clear Bq
    have z0_0 : (w3.alloc (.cells #[.int .i64 a0.st, .int .i64 a0.sa, .slice (some ⟨x0a, 0, none⟩) a0.fi.length a0.fi.length, .slice (some ⟨x0b, 0, none⟩) a0.nx.length a0.nx.length] 28)).cell? ⟨w3.heap.size, 0, none⟩ = some (.int .i64 a0.st) := by simp [go_sem]
    have z0_1 : (w3.alloc (.cells #[.int .i64 a0.st, .int .i64 a0.sa, .slice (some ⟨x0a, 0, none⟩) a0.fi.length a0.fi.length, .slice (some ⟨x0b, 0, none⟩) a0.nx.length a0.nx.length] 28)).cell? ⟨w3.heap.size, 1, none⟩ = some (.int .i64 a0.sa) := by simp [go_sem]
    have z0_2 : (w3.alloc (.cells #[.int .i64 a0.st, .int .i64 a0.sa, .slice (some ⟨x0a, 0, none⟩) a0.fi.length a0.fi.length, .slice (some ⟨x0b, 0, none⟩) a0.nx.length a0.nx.length] 28)).cell? ⟨w3.heap.size, 2, none⟩ = some (.slice (some ⟨x0a, 0, none⟩) a0.fi.length a0.fi.length) := by simp [go_sem]
    have z0_3 : (w3.alloc (.cells #[.int .i64 a0.st, .int .i64 a0.sa, .slice (some ⟨x0a, 0, none⟩) a0.fi.length a0.fi.length, .slice (some ⟨x0b, 0, none⟩) a0.nx.length a0.nx.length] 28)).cell? ⟨w3.heap.size, 3, none⟩ = some (.slice (some ⟨x0b, 0, none⟩) a0.nx.length a0.nx.length) := by simp [go_sem]
    have c1_0 := cell_later B3 b1_0
    have k1_0 := inRu_below m1_0 B3
    go_wp2_with fail
    refine (l_toGrammar2 _ l1 _ HLN1.out k1_0).mono ?_
    rintro e w4 ⟨x1a, x1c, rfl, xf1a, hb4⟩
    clear c1_0 k1_0
    have xf0a' := inI_below xf0a hb4
    clear xf0a
    have xf0a := xf0a'
    clear xf0a'
    have xf0b' := inT_below xf0b hb4
    clear xf0b
    have xf0b := xf0b'
    clear xf0b'
    have z0_0' := cell_later hb4 z0_0
    clear z0_0
    have z0_0 := z0_0'
    clear z0_0'
    have z0_1' := cell_later hb4 z0_1
    clear z0_1
    have z0_1 := z0_1'
    clear z0_1'
    have z0_2' := cell_later hb4 z0_2
    clear z0_2
    have z0_2 := z0_2'
    clear z0_2'
    have z0_3' := cell_later hb4 z0_3
    clear z0_3
    have z0_3 := z0_3'
    clear z0_3'
    have B4 := B3.trans (hb4.mono B3.size)
    clear B3
    clear hb4
    have al := (Below.refl _ w4).alloc (Nat.le_refl _) (.cells #[.slice (some ⟨x1a, 0, none⟩) l1.length x1c] 59)
    have xf0a' := inI_below xf0a al
    clear xf0a
    have xf0a := xf0a'
    clear xf0a'
    have xf0b' := inT_below xf0b al
    clear xf0b
    have xf0b := xf0b'
    clear xf0b'
    have z0_0' := cell_later al z0_0
    clear z0_0
    have z0_0 := z0_0'
    clear z0_0'
    have z0_1' := cell_later al z0_1
    clear z0_1
    have z0_1 := z0_1'
    clear z0_1'
    have z0_2' := cell_later al z0_2
    clear z0_2
    have z0_2 := z0_2'
    clear z0_2'
    have z0_3' := cell_later al z0_3
    clear z0_3
    have z0_3 := z0_3'
    clear z0_3'
    have xf1a' := inRu_below xf1a al
    clear xf1a
    have xf1a := xf1a'
    clear xf1a'
    have Bq := B4.alloc B4.size (.cells #[.slice (some ⟨x1a, 0, none⟩) l1.length x1c] 59)
    clear al B4
    have B4 := Bq
    clear Bq
    have z1_0 : (w4.alloc (.cells #[.slice (some ⟨x1a, 0, none⟩) l1.length x1c] 59)).cell? ⟨w4.heap.size, 0, none⟩ = some (.slice (some ⟨x1a, 0, none⟩) l1.length x1c) := by simp [go_sem]
    go_wp2_with fail
    refine (i_FirstVisit _ _ _ a0 l1 n2 _ HSM0.out HLN1.out HSM1.out xf0a xf0b xf1a  h2).mono ?_
    rintro e w5 ⟨rfl, hb5⟩
    have xf0a' := inI_below xf0a hb5
    clear xf0a
    have xf0a := xf0a'
    clear xf0a'
    have xf0b' := inT_below xf0b hb5
    clear xf0b
    have xf0b := xf0b'
    clear xf0b'
    have z0_0' := cell_later hb5 z0_0
    clear z0_0
    have z0_0 := z0_0'
    clear z0_0'
    have z0_1' := cell_later hb5 z0_1
    clear z0_1
    have z0_1 := z0_1'
    clear z0_1'
    have z0_2' := cell_later hb5 z0_2
    clear z0_2
    have z0_2 := z0_2'
    clear z0_2'
    have z0_3' := cell_later hb5 z0_3
    clear z0_3
    have z0_3 := z0_3'
    clear z0_3'
    have xf1a' := inRu_below xf1a hb5
    clear xf1a
    have xf1a := xf1a'
    clear xf1a'
    have z1_0' := cell_later hb5 z1_0
    clear z1_0
    have z1_0 := z1_0'
    clear z1_0'
    have B5 := B4.trans (hb5.mono B4.size)
    clear B4
    clear hb5
    go_wp2
    have c0_0 := cell_later B5 b0_0
    have c0_1 := cell_later B5 b0_1
    have c0_2 := cell_later B5 b0_2
    have c0_3 := cell_later B5 b0_3
    have k0_0 := inI_below m0_0 B5
    have k0_1 := inT_below m0_1 B5
    go_region_held3 (fun w' => Below w5.heap.size w5 w' ∧ w'.cell? ⟨w.heap.size, 0, none⟩ = some (.int .i64 a0.st) ∧ w'.cell? ⟨w.heap.size, 1, none⟩ = some (.int .i64 a0.sa) ∧ w'.cell? ⟨w.heap.size, 2, none⟩ = some (p0a) ∧ w'.cell? ⟨w.heap.size, 3, none⟩ = some (p0b) ∧ w'.cell? ⟨w3.heap.size, 0, none⟩ = some (.int .i64 a0.st) ∧ w'.cell? ⟨w3.heap.size, 1, none⟩ = some (.int .i64 a0.sa) ∧ w'.cell? ⟨w3.heap.size, 2, none⟩ = some (.slice (some ⟨x0a, 0, none⟩) a0.fi.length a0.fi.length) ∧ w'.cell? ⟨w3.heap.size, 3, none⟩ = some (.slice (some ⟨x0b, 0, none⟩) a0.nx.length a0.nx.length) ∧ InI w' (p0a) a0.fi ∧ InT w' (p0b) a0.nx ∧ InI w' (.slice (some ⟨x0a, 0, none⟩) a0.fi.length a0.fi.length) a0.fi ∧ InT w' (.slice (some ⟨x0b, 0, none⟩) a0.nx.length a0.nx.length) a0.nx) ((first | (go_split_ands; (repeat' apply And.intro) <;> first | assumption | exact Below.drew (Below.refl _ _) | exact Below.drew (by assumption) | exact inI_below (by assumption) (Below.drew (Below.refl _ _)) | exact inT_below (by assumption) (Below.drew (Below.refl _ _)) | exact inRu_below (by assumption) (Below.drew (Below.refl _ _)) | exact cell_later hA0 (by assumption) | exact inI_below (by assumption) hA0 | exact inT_below (by assumption) hA0 | exact inRu_below (by assumption) hA0 | exact Below.trans ‹Below w5.heap.size w5 _› (hA0.mono (Below.size ‹Below w5.heap.size w5 _›)) | exact cell_later hF0 (by assumption) | exact inI_below (by assumption) hF0 | exact inT_below (by assumption) hF0 | exact inRu_below (by assumption) hF0 | exact Below.trans ‹Below w5.heap.size w5 _› (hF0.mono (Below.size ‹Below w5.heap.size w5 _›)) | (simp; assumption)))) (first | (go_at_call 19; with_reducible refine (l_toAuto2 _ _ a0 _ HSM0.out (by first | assumption | (go_split_ands; assumption)) (by first | assumption | (go_split_ands; assumption))).mono ?_; rintro e wA0 ⟨y0a, y0b, rfl, yf0a, yf0b, hA0⟩) | (go_at_call 21; with_reducible refine (l_eqAuto _ _ _ _ a0 _ HSM0.out (by first | exact xf0a | exact inI_below xf0a (Below.drew (Below.refl _ _)) | exact inI_below xf0a hA0 | exact inI_below (inI_below xf0a hA0) (Below.drew (Below.refl _ _)) | exact inI_below (inI_below xf0a (Below.drew (Below.refl _ _))) hA0 | exact inI_below (inI_below (inI_below xf0a (Below.drew (Below.refl _ _))) hA0) (Below.drew (Below.refl _ _))) (by first | exact xf0b | exact inT_below xf0b (Below.drew (Below.refl _ _)) | exact inT_below xf0b hA0 | exact inT_below (inT_below xf0b hA0) (Below.drew (Below.refl _ _)) | exact inT_below (inT_below xf0b (Below.drew (Below.refl _ _))) hA0 | exact inT_below (inT_below (inT_below xf0b (Below.drew (Below.refl _ _))) hA0) (Below.drew (Below.refl _ _))) (by first | exact yf0a | exact inI_below yf0a (Below.drew (Below.refl _ _))) (by first | exact yf0b | exact inT_below yf0b (Below.drew (Below.refl _ _)))).mono ?_; rintro e wF0 ⟨rfl, hF0⟩))
    rename_i hS
    have BR0 := B5.trans (hS.1.mono B5.size)
    clear c0_0 c0_1 c0_2 c0_3 k0_0 k0_1
    have xf1a' := inRu_below xf1a hS.1
    clear xf1a
    have xf1a := xf1a'
    clear xf1a'
    have z1_0' := cell_later hS.1 z1_0
    clear z1_0
    have z1_0 := z1_0'
    clear z1_0'
    clear hS hA0 hF0 yf0a yf0b z0_0 z0_1 z0_2 z0_3 xf0a xf0b B5
    go_wp2
    have c1_0 := cell_later BR0 b1_0
    have k1_0 := inRu_below m1_0 BR0
    go_region_held3 (fun w' => Below wF0.heap.size wF0 w' ∧ w'.cell? ⟨(w.heap.size + 1), 0, none⟩ = some (p1a) ∧ w'.cell? ⟨w4.heap.size, 0, none⟩ = some (.slice (some ⟨x1a, 0, none⟩) l1.length x1c) ∧ InRu w' (p1a) l1 ∧ InRu w' (.slice (some ⟨x1a, 0, none⟩) l1.length x1c) l1) ((first | (go_split_ands; (repeat' apply And.intro) <;> first | assumption | exact Below.drew (Below.refl _ _) | exact Below.drew (by assumption) | exact inI_below (by assumption) (Below.drew (Below.refl _ _)) | exact inT_below (by assumption) (Below.drew (Below.refl _ _)) | exact inRu_below (by assumption) (Below.drew (Below.refl _ _)) | exact cell_later hA1 (by assumption) | exact inI_below (by assumption) hA1 | exact inT_below (by assumption) hA1 | exact inRu_below (by assumption) hA1 | exact Below.trans ‹Below wF0.heap.size wF0 _› (hA1.mono (Below.size ‹Below wF0.heap.size wF0 _›)) | exact cell_later hF1 (by assumption) | exact inI_below (by assumption) hF1 | exact inT_below (by assumption) hF1 | exact inRu_below (by assumption) hF1 | exact Below.trans ‹Below wF0.heap.size wF0 _› (hF1.mono (Below.size ‹Below wF0.heap.size wF0 _›)) | (simp; assumption)))) (first | (go_at_call 41; with_reducible refine (l_toGrammar2 _ l1 _ HLN1.out (by first | assumption | (go_split_ands; assumption))).mono ?_; rintro e wA1 ⟨y1a, y1c, rfl, yf1a, hA1⟩) | (go_at_call 44; with_reducible refine (l_eqGrammar _ _ l1 _ (by first | exact xf1a | exact inRu_below xf1a (Below.drew (Below.refl _ _)) | exact inRu_below xf1a hA1 | exact inRu_below (inRu_below xf1a hA1) (Below.drew (Below.refl _ _)) | exact inRu_below (inRu_below xf1a (Below.drew (Below.refl _ _))) hA1 | exact inRu_below (inRu_below (inRu_below xf1a (Below.drew (Below.refl _ _))) hA1) (Below.drew (Below.refl _ _))) (by first | exact yf1a | exact inRu_below yf1a (Below.drew (Below.refl _ _))) HLN1.out).mono ?_; rintro e wF1 ⟨rfl, hF1⟩))
    rename_i hS
    have BR1 := BR0.trans (hS.1.mono BR0.size)
    clear c1_0 k1_0
    clear hS hA1 hF1 yf1a  z1_0 xf1a BR0
    have BF := HBX.out _ BR1
    clear BR1 b0_0 b0_1 b0_2 b0_3 m0_0 m0_1 b1_0 m1_0
    go_wp2
    go_ret
    exact ⟨rfl, BF⟩
end Go.Proofs.Ytefcdkgfabaffaa

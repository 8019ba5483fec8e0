/- The law of VisitCounts. -/
import Derived.Test.YtefcdkgfabaffaaVL
namespace Go.Proofs.Ytefcdkgfabaffaa
open Go.ChangeShapes Go.WideShapes Go.RowKit
set_option linter.unusedVariables false
set_option linter.unusedSimpArgs false
set_option maxHeartbeats 1500000
set_option maxRecDepth 100000
theorem walk_FnExactVisitCounts (v0 : Value) (a0 : Au) (v1 : Value) (l1 : List Ru) (w : World) (h0 : InAu w v0 a0) (h0b : a0.fi.length ≤ 9223372036854775807 ∧ a0.nx.length ≤ 9223372036854775807) (h0c : ∀ r ∈ a0.nx, r.length ≤ 9223372036854775807) (h1 : GrIn w v1 l1) (h1b : l1.length ≤ 9223372036854775807) (h1c : ∀ r ∈ l1, r.1.size ≤ 9223372036854775807) :
    Calls Try.prog 16 #[v0, v1] w fun e w' => e = .returned (.bool true) ∧ Below w.heap.size w w' := by
  obtain ⟨p0a, p0b, rfl, im0, jm0⟩ := h0
  obtain ⟨p1a, rfl, im1⟩ := h1
  have hbx := (((Below.refl w.heap.size w).alloc (by first | exact Nat.le_refl _ | (simp; done) | (simp; omega)) (.cells #[.int .i64 a0.st, .int .i64 a0.sa, p0a, p0b] 25)).alloc (by first | exact Nat.le_refl _ | (simp; done) | (simp; omega)) (.cells #[p1a] 53))
  have b0_0 : ((w.alloc (.cells #[.int .i64 a0.st, .int .i64 a0.sa, p0a, p0b] 25)).alloc (.cells #[p1a] 53)).cell? ⟨w.heap.size, 0, none⟩ = some (.int .i64 a0.st) := by simp [go_sem]
  have b0_1 : ((w.alloc (.cells #[.int .i64 a0.st, .int .i64 a0.sa, p0a, p0b] 25)).alloc (.cells #[p1a] 53)).cell? ⟨w.heap.size, 1, none⟩ = some (.int .i64 a0.sa) := by simp [go_sem]
  have b0_2 : ((w.alloc (.cells #[.int .i64 a0.st, .int .i64 a0.sa, p0a, p0b] 25)).alloc (.cells #[p1a] 53)).cell? ⟨w.heap.size, 2, none⟩ = some (p0a) := by simp [go_sem]
  have b0_3 : ((w.alloc (.cells #[.int .i64 a0.st, .int .i64 a0.sa, p0a, p0b] 25)).alloc (.cells #[p1a] 53)).cell? ⟨w.heap.size, 3, none⟩ = some (p0b) := by simp [go_sem]
  have m0_0 := inI_below im0 hbx
  have m0_1 := inT_below jm0 hbx
  have b1_0 : ((w.alloc (.cells #[.int .i64 a0.st, .int .i64 a0.sa, p0a, p0b] 25)).alloc (.cells #[p1a] 53)).cell? ⟨(w.heap.size + 1), 0, none⟩ = some (p1a) := by simp [go_sem]
  have m1_0 := inRu_below im1 hbx
  have HBX : Hid (∀ w', Below ((w.alloc (.cells #[.int .i64 a0.st, .int .i64 a0.sa, p0a, p0b] 25)).alloc (.cells #[p1a] 53)).heap.size ((w.alloc (.cells #[.int .i64 a0.st, .int .i64 a0.sa, p0a, p0b] 25)).alloc (.cells #[p1a] 53)) w' → Below w.heap.size w w') := fun w' h => (below_box (below_box h))
  clear hbx im0 jm0 im1
  go_enter Try.func16, Try.ntmps16
  go_wp2_with fail
  refine (l_szAutoT _ _ a0 1048576 _ (by omega) m0_0 m0_1 h0b.1 h0b.2 h0c).mono ?_
  rintro e w1 ⟨hb1, rfl | ⟨q1, rfl, hq1, hs0, ht0⟩⟩
  · have hbb := HBX.out _ hb1
    clear hb1 b0_0 b0_1 b0_2 b0_3 m0_0 m0_1 b1_0 m1_0 
    go_wp2
    go_ret
    exact ⟨rfl, hbb⟩
  have B1 := hb1
  clear hb1
  have HSM0 := Lib.hid hs0
  clear hs0
  have HTS0 := Lib.hid ht0
  clear ht0
  have c1_0 := cell_later B1 b1_0
  have k1_0 := inRu_below m1_0 B1
  go_wp2_with fail
  refine (l_szGrammar _ l1 q1 _ hq1 k1_0 h1b h1c).mono ?_
  rintro e w2 ⟨hb2, rfl | ⟨q2, rfl, hq2, hn1, hs1⟩⟩
  · have hbb := HBX.out _ (B1.trans (hb2.mono B1.size))
    clear hb2 b0_0 b0_1 b0_2 b0_3 m0_0 m0_1 b1_0 m1_0 B1
    clear c1_0 k1_0
    go_wp2
    go_ret
    exact ⟨rfl, hbb⟩
  clear c1_0 k1_0
  have B2 := B1.trans (hb2.mono B1.size)
  clear hb2 B1
  have HLN1 := Lib.hid hn1
  clear hn1
  have HSM1 := Lib.hid hs1
  clear hs1
  clear h0b h0c h1b h1c
  have HRS := Lib.hid (vcV_len a0 l1)
  have BZ := B2
  clear B2
  have c0_0 := cell_later BZ b0_0
  have c0_1 := cell_later BZ b0_1
  have c0_2 := cell_later BZ b0_2
  have c0_3 := cell_later BZ b0_3
  have k0_0 := inI_below m0_0 BZ
  have k0_1 := inT_below m0_1 BZ
  have c1_0 := cell_later BZ b1_0
  have k1_0 := inRu_below m1_0 BZ
  go_wp2
  go_region_held3 (fun w' => Below w2.heap.size w2 w' ∧ w'.cell? ⟨w.heap.size, 0, none⟩ = some (.int .i64 a0.st) ∧ w'.cell? ⟨w.heap.size, 1, none⟩ = some (.int .i64 a0.sa) ∧ w'.cell? ⟨w.heap.size, 2, none⟩ = some (p0a) ∧ w'.cell? ⟨w.heap.size, 3, none⟩ = some (p0b) ∧ InI w' (p0a) a0.fi ∧ InT w' (p0b) a0.nx ∧ w'.cell? ⟨(w.heap.size + 1), 0, none⟩ = some (p1a) ∧ InRu w' (p1a) l1) ((first | (go_split_ands; (repeat' apply And.intro) <;> first | assumption | exact Below.drew (Below.refl _ _) | exact Below.drew (by assumption) | exact inI_below (by assumption) (Below.drew (Below.refl _ _)) | exact inT_below (by assumption) (Below.drew (Below.refl _ _)) | exact inRu_below (by assumption) (Below.drew (Below.refl _ _)) | exact cell_later hT0 (by assumption) | exact inI_below (by assumption) hT0 | exact inT_below (by assumption) hT0 | exact inRu_below (by assumption) hT0 | exact Below.trans ‹Below w2.heap.size w2 _› (hT0.mono (Below.size ‹Below w2.heap.size w2 _›)) | exact cell_later hT1 (by assumption) | exact inI_below (by assumption) hT1 | exact inT_below (by assumption) hT1 | exact inRu_below (by assumption) hT1 | exact Below.trans ‹Below w2.heap.size w2 _› (hT1.mono (Below.size ‹Below w2.heap.size w2 _›)) | exact cell_later hTS (by assumption) | exact inI_below (by assumption) hTS | exact inT_below (by assumption) hTS | exact inRu_below (by assumption) hTS | exact Below.trans ‹Below w2.heap.size w2 _› (hTS.mono (Below.size ‹Below w2.heap.size w2 _›)) | (simp; assumption)))) (first | (go_at_call 19; with_reducible refine (l_toAuto2 _ _ a0 _ HSM0.out (by first | assumption | (go_split_ands; assumption)) (by first | assumption | (go_split_ands; assumption))).mono ?_; rintro e wT10 ⟨s0a, s0b, rfl, sf0a, sf0b, hT0⟩) | (go_at_call 41; with_reducible refine (l_toGrammar2 _ l1 _ HLN1.out (by first | assumption | (go_split_ands; assumption))).mono ?_; rintro e wT11 ⟨s1a, s1c, rfl, sf1a, hT1⟩) | (go_at_call 58; with_reducible refine (s_VisitCounts _ _ _ a0 l1 _ HSM0.out HLN1.out HSM1.out (by first | exact sf0a | exact inI_below sf0a (Below.drew (Below.refl _ _)) | exact inI_below sf0a hT1 | exact inI_below (inI_below sf0a hT1) (Below.drew (Below.refl _ _)) | exact inI_below (inI_below sf0a (Below.drew (Below.refl _ _))) hT1 | exact inI_below (inI_below (inI_below sf0a (Below.drew (Below.refl _ _))) hT1) (Below.drew (Below.refl _ _))) (by first | exact sf0b | exact inT_below sf0b (Below.drew (Below.refl _ _)) | exact inT_below sf0b hT1 | exact inT_below (inT_below sf0b hT1) (Below.drew (Below.refl _ _)) | exact inT_below (inT_below sf0b (Below.drew (Below.refl _ _))) hT1 | exact inT_below (inT_below (inT_below sf0b (Below.drew (Below.refl _ _))) hT1) (Below.drew (Below.refl _ _))) (by first | exact sf1a | exact inRu_below sf1a (Below.drew (Below.refl _ _)))  ).mono ?_; rintro e wS1 ⟨vW, rfl, WR, hTS⟩))
  rename_i hS
  clear c0_0 c0_1 c0_2 c0_3 k0_0 k0_1 c1_0 k1_0
  have BZ' := BZ.trans (hS.1.mono BZ.size)
  clear BZ
  have BZ := BZ'
  clear BZ'
  clear hS hTS hT0 sf0a sf0b hT1 sf1a
  have WI := Lib.hid WR
  clear WR
  have BW := Below.refl wS1.heap.size wS1
  have c0_0 := cell_later BZ b0_0
  have c0_1 := cell_later BZ b0_1
  have c0_2 := cell_later BZ b0_2
  have c0_3 := cell_later BZ b0_3
  have k0_0 := inI_below m0_0 BZ
  have k0_1 := inT_below m0_1 BZ
  go_wp2_with fail
  refine (l_toAuto3 _ _ a0 _ HSM0.out k0_0 k0_1).mono ?_
  rintro e w3 ⟨x0a, x0b, vx0, rfl, XF0, hb3⟩
  clear c0_0 c0_1 c0_2 c0_3 k0_0 k0_1
  have HLO_BZ_x0 := Lib.hid BZ.size
  have HLO_BW_x0 := Lib.hid BW.size
  have HXH0 := Lib.hid (auR_hi XF0)
  have BZ' := BZ.trans (hb3.mono BZ.size)
  clear BZ
  have BZ := BZ'
  clear BZ'
  have BW' := BW.trans (hb3.mono BW.size)
  clear BW
  have BW := BW'
  clear BW'
  clear hb3
  have al := (Below.refl _ w3).alloc (Nat.le_refl _) (.cells #[.int .i64 a0.st, .int .i64 a0.sa, .slice (some ⟨x0a, 0, none⟩) a0.fi.length a0.fi.length, .slice (some ⟨x0b, 0, none⟩) a0.nx.length a0.nx.length] 28)
  have XB0 := Below.refl w3.heap.size w3
  have XF0' := auR_after XF0 al
  clear XF0
  have XF0 := XF0'
  clear XF0'
  have BZ' := BZ.alloc BZ.size (.cells #[.int .i64 a0.st, .int .i64 a0.sa, .slice (some ⟨x0a, 0, none⟩) a0.fi.length a0.fi.length, .slice (some ⟨x0b, 0, none⟩) a0.nx.length a0.nx.length] 28)
  clear BZ
  have BZ := BZ'
  clear BZ'
  have BW' := BW.alloc BW.size (.cells #[.int .i64 a0.st, .int .i64 a0.sa, .slice (some ⟨x0a, 0, none⟩) a0.fi.length a0.fi.length, .slice (some ⟨x0b, 0, none⟩) a0.nx.length a0.nx.length] 28)
  clear BW
  have BW := BW'
  clear BW'
  have XB0' := XB0.alloc XB0.size (.cells #[.int .i64 a0.st, .int .i64 a0.sa, .slice (some ⟨x0a, 0, none⟩) a0.fi.length a0.fi.length, .slice (some ⟨x0b, 0, none⟩) a0.nx.length a0.nx.length] 28)
  clear XB0
  have XB0 := XB0'
  clear XB0'
  clear al
  have z0_0 : (w3.alloc (.cells #[.int .i64 a0.st, .int .i64 a0.sa, .slice (some ⟨x0a, 0, none⟩) a0.fi.length a0.fi.length, .slice (some ⟨x0b, 0, none⟩) a0.nx.length a0.nx.length] 28)).cell? ⟨w3.heap.size, 0, none⟩ = some (.int .i64 a0.st) := by simp [go_sem]
  have z0_1 : (w3.alloc (.cells #[.int .i64 a0.st, .int .i64 a0.sa, .slice (some ⟨x0a, 0, none⟩) a0.fi.length a0.fi.length, .slice (some ⟨x0b, 0, none⟩) a0.nx.length a0.nx.length] 28)).cell? ⟨w3.heap.size, 1, none⟩ = some (.int .i64 a0.sa) := by simp [go_sem]
  have z0_2 : (w3.alloc (.cells #[.int .i64 a0.st, .int .i64 a0.sa, .slice (some ⟨x0a, 0, none⟩) a0.fi.length a0.fi.length, .slice (some ⟨x0b, 0, none⟩) a0.nx.length a0.nx.length] 28)).cell? ⟨w3.heap.size, 2, none⟩ = some (.slice (some ⟨x0a, 0, none⟩) a0.fi.length a0.fi.length) := by simp [go_sem]
  have z0_3 : (w3.alloc (.cells #[.int .i64 a0.st, .int .i64 a0.sa, .slice (some ⟨x0a, 0, none⟩) a0.fi.length a0.fi.length, .slice (some ⟨x0b, 0, none⟩) a0.nx.length a0.nx.length] 28)).cell? ⟨w3.heap.size, 3, none⟩ = some (.slice (some ⟨x0b, 0, none⟩) a0.nx.length a0.nx.length) := by simp [go_sem]
  have xf0a := auR_inI XF0
  have xf0b := auR_inT XF0
  have c1_0 := cell_later BZ b1_0
  have k1_0 := inRu_below m1_0 BZ
  go_wp2_with fail
  refine (l_toGrammar _ l1 _ HLN1.out k1_0).mono ?_
  rintro e w4 ⟨x1a, x1c, rfl, XF1, hb4⟩
  clear c1_0 k1_0
  have HLO_BZ_x1 := Lib.hid BZ.size
  have HLO_BW_x1 := Lib.hid BW.size
  have HLO_XB0_x1 := Lib.hid XB0.size
  have HXG1 : Hid ((w3.alloc (.cells #[.int .i64 a0.st, .int .i64 a0.sa, .slice (some ⟨x0a, 0, none⟩) a0.fi.length a0.fi.length, .slice (some ⟨x0b, 0, none⟩) a0.nx.length a0.nx.length] 28)).heap.size ≤ x1a ∧ x1a < w4.heap.size) := XF1.lt _ rfl
  have XF0' := auR_after XF0 hb4
  clear XF0
  have XF0 := XF0'
  clear XF0'
  have z0_0' := cell_later hb4 z0_0
  clear z0_0
  have z0_0 := z0_0'
  clear z0_0'
  have z0_1' := cell_later hb4 z0_1
  clear z0_1
  have z0_1 := z0_1'
  clear z0_1'
  have z0_2' := cell_later hb4 z0_2
  clear z0_2
  have z0_2 := z0_2'
  clear z0_2'
  have z0_3' := cell_later hb4 z0_3
  clear z0_3
  have z0_3 := z0_3'
  clear z0_3'
  have xf0a' := inI_below xf0a hb4
  clear xf0a
  have xf0a := xf0a'
  clear xf0a'
  have xf0b' := inT_below xf0b hb4
  clear xf0b
  have xf0b := xf0b'
  clear xf0b'
  have BZ' := BZ.trans (hb4.mono BZ.size)
  clear BZ
  have BZ := BZ'
  clear BZ'
  have BW' := BW.trans (hb4.mono BW.size)
  clear BW
  have BW := BW'
  clear BW'
  have XB0' := XB0.trans (hb4.mono XB0.size)
  clear XB0
  have XB0 := XB0'
  clear XB0'
  clear hb4
  have HXX_XB0_x1 := Lib.hid XB0.size
  have al := (Below.refl _ w4).alloc (Nat.le_refl _) (.cells #[.slice (some ⟨x1a, 0, none⟩) l1.length x1c] 59)
  have XB1 := Below.refl w4.heap.size w4
  have XF0' := auR_after XF0 al
  clear XF0
  have XF0 := XF0'
  clear XF0'
  have z0_0' := cell_later al z0_0
  clear z0_0
  have z0_0 := z0_0'
  clear z0_0'
  have z0_1' := cell_later al z0_1
  clear z0_1
  have z0_1 := z0_1'
  clear z0_1'
  have z0_2' := cell_later al z0_2
  clear z0_2
  have z0_2 := z0_2'
  clear z0_2'
  have z0_3' := cell_later al z0_3
  clear z0_3
  have z0_3 := z0_3'
  clear z0_3'
  have xf0a' := inI_below xf0a al
  clear xf0a
  have xf0a := xf0a'
  clear xf0a'
  have xf0b' := inT_below xf0b al
  clear xf0b
  have xf0b := xf0b'
  clear xf0b'
  have XF1' := owns_after XF1 al
  clear XF1
  have XF1 := XF1'
  clear XF1'
  have BZ' := BZ.alloc BZ.size (.cells #[.slice (some ⟨x1a, 0, none⟩) l1.length x1c] 59)
  clear BZ
  have BZ := BZ'
  clear BZ'
  have BW' := BW.alloc BW.size (.cells #[.slice (some ⟨x1a, 0, none⟩) l1.length x1c] 59)
  clear BW
  have BW := BW'
  clear BW'
  have XB0' := XB0.alloc XB0.size (.cells #[.slice (some ⟨x1a, 0, none⟩) l1.length x1c] 59)
  clear XB0
  have XB0 := XB0'
  clear XB0'
  have XB1' := XB1.alloc XB1.size (.cells #[.slice (some ⟨x1a, 0, none⟩) l1.length x1c] 59)
  clear XB1
  have XB1 := XB1'
  clear XB1'
  clear al
  have z1_0 : (w4.alloc (.cells #[.slice (some ⟨x1a, 0, none⟩) l1.length x1c] 59)).cell? ⟨w4.heap.size, 0, none⟩ = some (.slice (some ⟨x1a, 0, none⟩) l1.length x1c) := by simp [go_sem]
  have xf1a := inRu_own rfl XF1
  have HHI0 := Lib.hid XB0.size
  have HHI1 := Lib.hid XB1.size
  have HLO_BZ_g := Lib.hid BZ.size
  have HLO_BW_g := Lib.hid BW.size
  clear XB0 XB1
  go_wp2_with fail
  refine (i_VisitCounts _ _ _ a0 l1 _ HSM0.out HLN1.out HSM1.out xf0a xf0b xf1a  ).mono ?_
  rintro e w5 ⟨vG, rfl, GR, hb5⟩
  have XF0' := auR_after XF0 hb5
  clear XF0
  have XF0 := XF0'
  clear XF0'
  have z0_0' := cell_later hb5 z0_0
  clear z0_0
  have z0_0 := z0_0'
  clear z0_0'
  have z0_1' := cell_later hb5 z0_1
  clear z0_1
  have z0_1 := z0_1'
  clear z0_1'
  have z0_2' := cell_later hb5 z0_2
  clear z0_2
  have z0_2 := z0_2'
  clear z0_2'
  have z0_3' := cell_later hb5 z0_3
  clear z0_3
  have z0_3 := z0_3'
  clear z0_3'
  have xf0a' := inI_below xf0a hb5
  clear xf0a
  have xf0a := xf0a'
  clear xf0a'
  have xf0b' := inT_below xf0b hb5
  clear xf0b
  have xf0b := xf0b'
  clear xf0b'
  have XF1' := owns_after XF1 hb5
  clear XF1
  have XF1 := XF1'
  clear XF1'
  have z1_0' := cell_later hb5 z1_0
  clear z1_0
  have z1_0 := z1_0'
  clear z1_0'
  have xf1a' := inRu_below xf1a hb5
  clear xf1a
  have xf1a := xf1a'
  clear xf1a'
  have BZ' := BZ.trans (hb5.mono BZ.size)
  clear BZ
  have BZ := BZ'
  clear BZ'
  have BW' := BW.trans (hb5.mono BW.size)
  clear BW
  have BW := BW'
  clear BW'
  clear hb5
  go_wp2_with fail
  refine (l_eqInt64S _ _ (vcV a0 l1) (vcV a0 l1) _ _ _ GR (owns_after WI.out BW) (by have := HRS.out; omega) (by have := HRS.out; omega)).mono ?_
  rintro e w6 ⟨rfl, q6, rfl⟩
  have XF0' := auR_after XF0 (below_drewN (Below.refl _ _) q6)
  clear XF0
  have XF0 := XF0'
  clear XF0'
  have z0_0' := cell_later (below_drewN (Below.refl _ _) q6) z0_0
  clear z0_0
  have z0_0 := z0_0'
  clear z0_0'
  have z0_1' := cell_later (below_drewN (Below.refl _ _) q6) z0_1
  clear z0_1
  have z0_1 := z0_1'
  clear z0_1'
  have z0_2' := cell_later (below_drewN (Below.refl _ _) q6) z0_2
  clear z0_2
  have z0_2 := z0_2'
  clear z0_2'
  have z0_3' := cell_later (below_drewN (Below.refl _ _) q6) z0_3
  clear z0_3
  have z0_3 := z0_3'
  clear z0_3'
  have xf0a' := inI_below xf0a (below_drewN (Below.refl _ _) q6)
  clear xf0a
  have xf0a := xf0a'
  clear xf0a'
  have xf0b' := inT_below xf0b (below_drewN (Below.refl _ _) q6)
  clear xf0b
  have xf0b := xf0b'
  clear xf0b'
  have XF1' := owns_after XF1 (below_drewN (Below.refl _ _) q6)
  clear XF1
  have XF1 := XF1'
  clear XF1'
  have z1_0' := cell_later (below_drewN (Below.refl _ _) q6) z1_0
  clear z1_0
  have z1_0 := z1_0'
  clear z1_0'
  have xf1a' := inRu_below xf1a (below_drewN (Below.refl _ _) q6)
  clear xf1a
  have xf1a := xf1a'
  clear xf1a'
  have GR' := owns_after GR (below_drewN (Below.refl _ _) q6)
  clear GR
  have GR := GR'
  clear GR'
  have BZ' := below_drewN BZ q6
  clear BZ
  have BZ := BZ'
  clear BZ'
  have BW' := below_drewN BW q6
  clear BW
  have BW := BW'
  clear BW'
  go_wp2
  generalize w5.drewN q6 = wz at *
  have c0_0 := cell_later BZ b0_0
  have c0_1 := cell_later BZ b0_1
  have c0_2 := cell_later BZ b0_2
  have c0_3 := cell_later BZ b0_3
  have k0_0 := inI_below m0_0 BZ
  have k0_1 := inT_below m0_1 BZ
  go_region_held3 (fun w' => Below wz.heap.size wz w' ∧ w'.cell? ⟨w.heap.size, 0, none⟩ = some (.int .i64 a0.st) ∧ w'.cell? ⟨w.heap.size, 1, none⟩ = some (.int .i64 a0.sa) ∧ w'.cell? ⟨w.heap.size, 2, none⟩ = some (p0a) ∧ w'.cell? ⟨w.heap.size, 3, none⟩ = some (p0b) ∧ w'.cell? ⟨w3.heap.size, 0, none⟩ = some (.int .i64 a0.st) ∧ w'.cell? ⟨w3.heap.size, 1, none⟩ = some (.int .i64 a0.sa) ∧ w'.cell? ⟨w3.heap.size, 2, none⟩ = some (.slice (some ⟨x0a, 0, none⟩) a0.fi.length a0.fi.length) ∧ w'.cell? ⟨w3.heap.size, 3, none⟩ = some (.slice (some ⟨x0b, 0, none⟩) a0.nx.length a0.nx.length) ∧ InI w' (p0a) a0.fi ∧ InT w' (p0b) a0.nx ∧ InI w' (.slice (some ⟨x0a, 0, none⟩) a0.fi.length a0.fi.length) a0.fi ∧ InT w' (.slice (some ⟨x0b, 0, none⟩) a0.nx.length a0.nx.length) a0.nx) ((first | (go_split_ands; (repeat' apply And.intro) <;> first | assumption | exact Below.drew (Below.refl _ _) | exact Below.drew (by assumption) | exact inI_below (by assumption) (Below.drew (Below.refl _ _)) | exact inT_below (by assumption) (Below.drew (Below.refl _ _)) | exact inRu_below (by assumption) (Below.drew (Below.refl _ _)) | exact cell_later hA0 (by assumption) | exact inI_below (by assumption) hA0 | exact inT_below (by assumption) hA0 | exact inRu_below (by assumption) hA0 | exact Below.trans ‹Below wz.heap.size wz _› (hA0.mono (Below.size ‹Below wz.heap.size wz _›)) | exact cell_later hF0 (by assumption) | exact inI_below (by assumption) hF0 | exact inT_below (by assumption) hF0 | exact inRu_below (by assumption) hF0 | exact Below.trans ‹Below wz.heap.size wz _› (hF0.mono (Below.size ‹Below wz.heap.size wz _›)) | (simp; assumption)))) (first | (go_at_call 19; with_reducible refine (l_toAuto2 _ _ a0 _ HSM0.out (by first | assumption | (go_split_ands; assumption)) (by first | assumption | (go_split_ands; assumption))).mono ?_; rintro e wA0 ⟨y0a, y0b, rfl, yf0a, yf0b, hA0⟩) | (go_at_call 21; with_reducible refine (l_eqAuto _ _ _ _ a0 _ HSM0.out (by first | exact xf0a | exact inI_below xf0a (Below.drew (Below.refl _ _)) | exact inI_below xf0a hA0 | exact inI_below (inI_below xf0a hA0) (Below.drew (Below.refl _ _)) | exact inI_below (inI_below xf0a (Below.drew (Below.refl _ _))) hA0 | exact inI_below (inI_below (inI_below xf0a (Below.drew (Below.refl _ _))) hA0) (Below.drew (Below.refl _ _))) (by first | exact xf0b | exact inT_below xf0b (Below.drew (Below.refl _ _)) | exact inT_below xf0b hA0 | exact inT_below (inT_below xf0b hA0) (Below.drew (Below.refl _ _)) | exact inT_below (inT_below xf0b (Below.drew (Below.refl _ _))) hA0 | exact inT_below (inT_below (inT_below xf0b (Below.drew (Below.refl _ _))) hA0) (Below.drew (Below.refl _ _))) (by first | exact yf0a | exact inI_below yf0a (Below.drew (Below.refl _ _))) (by first | exact yf0b | exact inT_below yf0b (Below.drew (Below.refl _ _)))).mono ?_; rintro e wF0 ⟨rfl, hF0⟩))
  rename_i hS
  clear c0_0 c0_1 c0_2 c0_3 k0_0 k0_1
  have XF0' := auR_after XF0 hS.1
  clear XF0
  have XF0 := XF0'
  clear XF0'
  have z0_0' := cell_later hS.1 z0_0
  clear z0_0
  have z0_0 := z0_0'
  clear z0_0'
  have z0_1' := cell_later hS.1 z0_1
  clear z0_1
  have z0_1 := z0_1'
  clear z0_1'
  have z0_2' := cell_later hS.1 z0_2
  clear z0_2
  have z0_2 := z0_2'
  clear z0_2'
  have z0_3' := cell_later hS.1 z0_3
  clear z0_3
  have z0_3 := z0_3'
  clear z0_3'
  have XF1' := owns_after XF1 hS.1
  clear XF1
  have XF1 := XF1'
  clear XF1'
  have z1_0' := cell_later hS.1 z1_0
  clear z1_0
  have z1_0 := z1_0'
  clear z1_0'
  have xf1a' := inRu_below xf1a hS.1
  clear xf1a
  have xf1a := xf1a'
  clear xf1a'
  have GR' := owns_after GR hS.1
  clear GR
  have GR := GR'
  clear GR'
  have BZ' := BZ.trans (hS.1.mono BZ.size)
  clear BZ
  have BZ := BZ'
  clear BZ'
  have BW' := BW.trans (hS.1.mono BW.size)
  clear BW
  have BW := BW'
  clear BW'
  clear hS hA0 hF0 yf0a yf0b xf0a xf0b
  go_wp2
  have c1_0 := cell_later BZ b1_0
  have k1_0 := inRu_below m1_0 BZ
  go_region_held3 (fun w' => Below wF0.heap.size wF0 w' ∧ w'.cell? ⟨(w.heap.size + 1), 0, none⟩ = some (p1a) ∧ w'.cell? ⟨w4.heap.size, 0, none⟩ = some (.slice (some ⟨x1a, 0, none⟩) l1.length x1c) ∧ InRu w' (p1a) l1 ∧ InRu w' (.slice (some ⟨x1a, 0, none⟩) l1.length x1c) l1) ((first | (go_split_ands; (repeat' apply And.intro) <;> first | assumption | exact Below.drew (Below.refl _ _) | exact Below.drew (by assumption) | exact inI_below (by assumption) (Below.drew (Below.refl _ _)) | exact inT_below (by assumption) (Below.drew (Below.refl _ _)) | exact inRu_below (by assumption) (Below.drew (Below.refl _ _)) | exact cell_later hA1 (by assumption) | exact inI_below (by assumption) hA1 | exact inT_below (by assumption) hA1 | exact inRu_below (by assumption) hA1 | exact Below.trans ‹Below wF0.heap.size wF0 _› (hA1.mono (Below.size ‹Below wF0.heap.size wF0 _›)) | exact cell_later hF1 (by assumption) | exact inI_below (by assumption) hF1 | exact inT_below (by assumption) hF1 | exact inRu_below (by assumption) hF1 | exact Below.trans ‹Below wF0.heap.size wF0 _› (hF1.mono (Below.size ‹Below wF0.heap.size wF0 _›)) | (simp; assumption)))) (first | (go_at_call 41; with_reducible refine (l_toGrammar2 _ l1 _ HLN1.out (by first | assumption | (go_split_ands; assumption))).mono ?_; rintro e wA1 ⟨y1a, y1c, rfl, yf1a, hA1⟩) | (go_at_call 44; with_reducible refine (l_eqGrammar _ _ l1 _ (by first | exact xf1a | exact inRu_below xf1a (Below.drew (Below.refl _ _)) | exact inRu_below xf1a hA1 | exact inRu_below (inRu_below xf1a hA1) (Below.drew (Below.refl _ _)) | exact inRu_below (inRu_below xf1a (Below.drew (Below.refl _ _))) hA1 | exact inRu_below (inRu_below (inRu_below xf1a (Below.drew (Below.refl _ _))) hA1) (Below.drew (Below.refl _ _))) (by first | exact yf1a | exact inRu_below yf1a (Below.drew (Below.refl _ _))) HLN1.out).mono ?_; rintro e wF1 ⟨rfl, hF1⟩))
  rename_i hS
  clear c1_0 k1_0
  have XF0' := auR_after XF0 hS.1
  clear XF0
  have XF0 := XF0'
  clear XF0'
  have z0_0' := cell_later hS.1 z0_0
  clear z0_0
  have z0_0 := z0_0'
  clear z0_0'
  have z0_1' := cell_later hS.1 z0_1
  clear z0_1
  have z0_1 := z0_1'
  clear z0_1'
  have z0_2' := cell_later hS.1 z0_2
  clear z0_2
  have z0_2 := z0_2'
  clear z0_2'
  have z0_3' := cell_later hS.1 z0_3
  clear z0_3
  have z0_3 := z0_3'
  clear z0_3'
  have XF1' := owns_after XF1 hS.1
  clear XF1
  have XF1 := XF1'
  clear XF1'
  have z1_0' := cell_later hS.1 z1_0
  clear z1_0
  have z1_0 := z1_0'
  clear z1_0'
  have GR' := owns_after GR hS.1
  clear GR
  have GR := GR'
  clear GR'
  have BZ' := BZ.trans (hS.1.mono BZ.size)
  clear BZ
  have BZ := BZ'
  clear BZ'
  have BW' := BW.trans (hS.1.mono BW.size)
  clear BW
  have BW := BW'
  clear BW'
  clear hS hA1 hF1 yf1a  xf1a
  go_wp2_with fail
  refine (l_markAuto _ _ _ _ _ a0 (wS1.heap.size) (w3.heap.size) _ HSM0.out XF0 HXH0.out).mono ?_
  rintro e w7 ⟨rfl, hM, gM⟩
  clear hM
  clear XF0 z0_0 z0_1 z0_2 z0_3
  have BZ' := below_gp BZ gM BZ.size (fun b hb => Nat.le_trans HLO_BZ_x0.out hb.1)
  clear BZ
  have BZ := BZ'
  clear BZ'
  have BW' := below_gp BW gM BW.size (fun b hb => Nat.le_trans HLO_BW_x0.out hb.1)
  clear BW
  have BW := BW'
  clear BW'
  have GR' := owns_gp GR gM (fun b hb h => by have := HHI0.out; have := (GR.lt b hb).1; have := h.2; omega)
  clear GR
  have GR := GR'
  clear GR'
  have z1_0' := gM.cell z1_0 (fun h => by have := HXX_XB0_x1.out; have := h.2; omega)
  clear z1_0
  have z1_0 := z1_0'
  clear z1_0'
  have XF1' := owns_gp XF1 gM (fun b hb h => by have hb2 : x1a = b := (by injection hb); have h1 := HXG1.out.1; have h2 := HLO_XB0_x1.out; have h3 := h.2; omega)
  clear XF1
  have XF1 := XF1'
  clear XF1'
  clear gM
  go_wp2_with fail
  refine (l_markGrammarK _ _ _ (1 + auTs a0) _ ((w3.alloc (.cells #[.int .i64 a0.st, .int .i64 a0.sa, .slice (some ⟨x0a, 0, none⟩) a0.fi.length a0.fi.length, .slice (some ⟨x0b, 0, none⟩) a0.nx.length a0.nx.length] 28)).heap.size) _ (by omega) (by have := HTS0.out; have := HLN1.out; omega) XF1).mono ?_
  rintro e w8 ⟨rfl, hM⟩
  have gM : Gp (fun b => (w3.alloc (.cells #[.int .i64 a0.st, .int .i64 a0.sa, .slice (some ⟨x0a, 0, none⟩) a0.fi.length a0.fi.length, .slice (some ⟨x0b, 0, none⟩) a0.nx.length a0.nx.length] 28)).heap.size ≤ b ∧ b < w4.heap.size) _ _ := Gp.of hM (fun b hb => by have hb2 : x1a = b := (by injection hb); rw [← hb2]; exact HXG1.out)
  clear hM
  clear XF1 z1_0
  have BZ' := below_gp BZ gM BZ.size (fun b hb => Nat.le_trans HLO_BZ_x1.out hb.1)
  clear BZ
  have BZ := BZ'
  clear BZ'
  have BW' := below_gp BW gM BW.size (fun b hb => Nat.le_trans HLO_BW_x1.out hb.1)
  clear BW
  have BW := BW'
  clear BW'
  have GR' := owns_gp GR gM (fun b hb h => by have := HHI1.out; have := (GR.lt b hb).1; have := h.2; omega)
  clear GR
  have GR := GR'
  clear GR'
  clear gM
  generalize 1 + auTs a0 + 3 * l1.length = K at *
  go_wp2_with fail
  refine (l_eqInt64S _ _ (vcV a0 l1) (vcV a0 l1) _ _ _ GR (owns_after WI.out BW) (by have := HRS.out; omega) (by have := HRS.out; omega)).mono ?_
  rintro e w9 ⟨rfl, q9, rfl⟩
  have GR' := owns_after GR (below_drewN (Below.refl _ _) q9)
  clear GR
  have GR := GR'
  clear GR'
  have BZ' := below_drewN BZ q9
  clear BZ
  have BZ := BZ'
  clear BZ'
  have BW' := below_drewN BW q9
  clear BW
  have BW := BW'
  clear BW'
  go_wp2_with fail
  refine (l_mark1 _ _ _ ((w4.alloc (.cells #[.slice (some ⟨x1a, 0, none⟩) l1.length x1c] 59)).heap.size) _ (by have := HRS.out; omega) GR).mono ?_
  rintro e w10 ⟨rfl, GM, hM⟩
  have gM : Gp (fun b => vG.ownBlock = some b) _ _ := Gp.of hM (fun b hb => hb)
  clear hM
  have BZ' := below_gp BZ gM BZ.size (fun b hb => Nat.le_trans HLO_BZ_g.out ((GR.lt b hb).1))
  clear BZ
  have BZ := BZ'
  clear BZ'
  have BW' := below_gp BW gM BW.size (fun b hb => Nat.le_trans HLO_BW_g.out ((GR.lt b hb).1))
  clear BW
  have BW := BW'
  clear BW'
  clear gM GR
  have GR := GM
  clear GM
  go_wp2_with fail
  refine (l_held1 _ _ ((w4.alloc (.cells #[.slice (some ⟨x1a, 0, none⟩) l1.length x1c] 59)).heap.size) _ (by have := HRS.out; omega) GR).mono ?_
  rintro e w11 ⟨rfl, rfl⟩
  have c0_0 := cell_later BZ b0_0
  have c0_1 := cell_later BZ b0_1
  have c0_2 := cell_later BZ b0_2
  have c0_3 := cell_later BZ b0_3
  have k0_0 := inI_below m0_0 BZ
  have k0_1 := inT_below m0_1 BZ
  have c1_0 := cell_later BZ b1_0
  have k1_0 := inRu_below m1_0 BZ
  go_wp2
  go_region_held3 (fun w' => Below w10.heap.size w10 w' ∧ w'.cell? ⟨w.heap.size, 0, none⟩ = some (.int .i64 a0.st) ∧ w'.cell? ⟨w.heap.size, 1, none⟩ = some (.int .i64 a0.sa) ∧ w'.cell? ⟨w.heap.size, 2, none⟩ = some (p0a) ∧ w'.cell? ⟨w.heap.size, 3, none⟩ = some (p0b) ∧ InI w' (p0a) a0.fi ∧ InT w' (p0b) a0.nx ∧ w'.cell? ⟨(w.heap.size + 1), 0, none⟩ = some (p1a) ∧ InRu w' (p1a) l1) ((first | (go_split_ands; (repeat' apply And.intro) <;> first | assumption | exact Below.drew (Below.refl _ _) | exact Below.drew (by assumption) | exact inI_below (by assumption) (Below.drew (Below.refl _ _)) | exact inT_below (by assumption) (Below.drew (Below.refl _ _)) | exact inRu_below (by assumption) (Below.drew (Below.refl _ _)) | exact cell_later hT0 (by assumption) | exact inI_below (by assumption) hT0 | exact inT_below (by assumption) hT0 | exact inRu_below (by assumption) hT0 | exact Below.trans ‹Below w10.heap.size w10 _› (hT0.mono (Below.size ‹Below w10.heap.size w10 _›)) | exact cell_later hT1 (by assumption) | exact inI_below (by assumption) hT1 | exact inT_below (by assumption) hT1 | exact inRu_below (by assumption) hT1 | exact Below.trans ‹Below w10.heap.size w10 _› (hT1.mono (Below.size ‹Below w10.heap.size w10 _›)) | exact cell_later hTS (by assumption) | exact inI_below (by assumption) hTS | exact inT_below (by assumption) hTS | exact inRu_below (by assumption) hTS | exact Below.trans ‹Below w10.heap.size w10 _› (hTS.mono (Below.size ‹Below w10.heap.size w10 _›)) | (simp; assumption)))) (first | (go_at_call 19; with_reducible refine (l_toAuto2 _ _ a0 _ HSM0.out (by first | assumption | (go_split_ands; assumption)) (by first | assumption | (go_split_ands; assumption))).mono ?_; rintro e wT20 ⟨s0a, s0b, rfl, sf0a, sf0b, hT0⟩) | (go_at_call 41; with_reducible refine (l_toGrammar2 _ l1 _ HLN1.out (by first | assumption | (go_split_ands; assumption))).mono ?_; rintro e wT21 ⟨s1a, s1c, rfl, sf1a, hT1⟩) | (go_at_call 59; with_reducible refine (i_VisitCounts _ _ _ a0 l1 _ HSM0.out HLN1.out HSM1.out (by first | exact sf0a | exact inI_below sf0a (Below.drew (Below.refl _ _)) | exact inI_below sf0a hT1 | exact inI_below (inI_below sf0a hT1) (Below.drew (Below.refl _ _)) | exact inI_below (inI_below sf0a (Below.drew (Below.refl _ _))) hT1 | exact inI_below (inI_below (inI_below sf0a (Below.drew (Below.refl _ _))) hT1) (Below.drew (Below.refl _ _))) (by first | exact sf0b | exact inT_below sf0b (Below.drew (Below.refl _ _)) | exact inT_below sf0b hT1 | exact inT_below (inT_below sf0b hT1) (Below.drew (Below.refl _ _)) | exact inT_below (inT_below sf0b (Below.drew (Below.refl _ _))) hT1 | exact inT_below (inT_below (inT_below sf0b (Below.drew (Below.refl _ _))) hT1) (Below.drew (Below.refl _ _))) (by first | exact sf1a | exact inRu_below sf1a (Below.drew (Below.refl _ _)))  ).mono ?_; rintro e wS2 ⟨vH, rfl, HR, hTS⟩))
  rename_i hS
  clear c0_0 c0_1 c0_2 c0_3 k0_0 k0_1 c1_0 k1_0
  have GR' := owns_after GR hS.1
  clear GR
  have GR := GR'
  clear GR'
  have BZ' := BZ.trans (hS.1.mono BZ.size)
  clear BZ
  have BZ := BZ'
  clear BZ'
  have BW' := BW.trans (hS.1.mono BW.size)
  clear BW
  have BW := BW'
  clear BW'
  clear hS hTS hT0 sf0a sf0b hT1 sf1a
  go_wp2_with fail
  refine (l_eqInt64S _ _ (vcV a0 l1) (vcV a0 l1) _ _ _ HR (owns_after WI.out BW) (by have := HRS.out; omega) (by have := HRS.out; omega)).mono ?_
  rintro e w12 ⟨rfl, q12, rfl⟩
  have GR' := owns_after GR (below_drewN (Below.refl _ _) q12)
  clear GR
  have GR := GR'
  clear GR'
  have HR' := owns_after HR (below_drewN (Below.refl _ _) q12)
  clear HR
  have HR := HR'
  clear HR'
  have BZ' := below_drewN BZ q12
  clear BZ
  have BZ := BZ'
  clear BZ'
  have BW' := below_drewN BW q12
  clear BW
  have BW := BW'
  clear BW'
  go_wp2_with fail
  refine (l_held1 _ _ ((w4.alloc (.cells #[.slice (some ⟨x1a, 0, none⟩) l1.length x1c] 59)).heap.size) _ (by have := HRS.out; omega) GR).mono ?_
  rintro e w13 ⟨rfl, rfl⟩
  have BF := HBX.out _ BZ
  clear BZ BW GR HR b0_0 b0_1 b0_2 b0_3 m0_0 m0_1 b1_0 m1_0
  go_wp2
  go_ret
  exact ⟨rfl, BF⟩
end Go.Proofs.Ytefcdkgfabaffaa

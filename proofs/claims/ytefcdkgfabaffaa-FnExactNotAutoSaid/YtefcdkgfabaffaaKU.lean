/- The law of NotAuto. -/
import Derived.Test.YtefcdkgfabaffaaKT
namespace Go.Proofs.Ytefcdkgfabaffaa
open Go.ChangeShapes Go.WideShapes Go.RowKit
set_option linter.unusedVariables false
set_option linter.unusedSimpArgs false
set_option maxHeartbeats 4000000
set_option maxRecDepth 100000
theorem walk_FnExactNotAuto (v0 : Value) (a0 : Au) (w : World) (h0 : InAu w v0 a0) (h0b : a0.fi.length ≤ 9223372036854775807 ∧ a0.nx.length ≤ 9223372036854775807) (h0c : ∀ r ∈ a0.nx, r.length ≤ 9223372036854775807) :
    Calls Try.prog 8 #[v0] w fun e w' => e = .returned (.bool true) ∧ Below w.heap.size w w' := by
  obtain ⟨p0a, p0b, rfl, im0, jm0⟩ := h0
  have hbx := ((Below.refl w.heap.size w).alloc (by first | exact Nat.le_refl _ | (simp; done) | (simp; omega)) (.cells #[.int .i64 a0.st, .int .i64 a0.sa, p0a, p0b] 25))
  have b0_0 : (w.alloc (.cells #[.int .i64 a0.st, .int .i64 a0.sa, p0a, p0b] 25)).cell? ⟨w.heap.size, 0, none⟩ = some (.int .i64 a0.st) := by simp [go_sem]
  have b0_1 : (w.alloc (.cells #[.int .i64 a0.st, .int .i64 a0.sa, p0a, p0b] 25)).cell? ⟨w.heap.size, 1, none⟩ = some (.int .i64 a0.sa) := by simp [go_sem]
  have b0_2 : (w.alloc (.cells #[.int .i64 a0.st, .int .i64 a0.sa, p0a, p0b] 25)).cell? ⟨w.heap.size, 2, none⟩ = some (p0a) := by simp [go_sem]
  have b0_3 : (w.alloc (.cells #[.int .i64 a0.st, .int .i64 a0.sa, p0a, p0b] 25)).cell? ⟨w.heap.size, 3, none⟩ = some (p0b) := by simp [go_sem]
  have m0_0 := inI_below im0 hbx
  have m0_1 := inT_below jm0 hbx
  have HBX : Hid (∀ w', Below (w.alloc (.cells #[.int .i64 a0.st, .int .i64 a0.sa, p0a, p0b] 25)).heap.size (w.alloc (.cells #[.int .i64 a0.st, .int .i64 a0.sa, p0a, p0b] 25)) w' → Below w.heap.size w w') := fun w' h => (below_box h)
  clear hbx im0 jm0
  go_enter Try.func8, Try.ntmps8
  go_wp2_with fail
  refine (l_szAutoT _ _ a0 1048576 _ (by omega) m0_0 m0_1 h0b.1 h0b.2 h0c).mono ?_
  rintro e w1 ⟨hb1, rfl | ⟨q1, rfl, hq1, hs0, ht0⟩⟩
  · have hbb := HBX.out _ hb1
    clear hb1 b0_0 b0_1 b0_2 b0_3 m0_0 m0_1 
    go_wp2
    go_ret
    exact ⟨rfl, hbb⟩
  have B1 := hb1
  clear hb1
  have HSM0 := Lib.hid hs0
  clear hs0
  have HTS0 := Lib.hid ht0
  clear ht0
  clear h0b h0c
  have HRS := Lib.hid (naR_sm a0)
  have BZ := B1
  clear B1
  have c0_0 := cell_later BZ b0_0
  have c0_1 := cell_later BZ b0_1
  have c0_2 := cell_later BZ b0_2
  have c0_3 := cell_later BZ b0_3
  have k0_0 := inI_below m0_0 BZ
  have k0_1 := inT_below m0_1 BZ
  go_wp2_with fail
  refine (l_toAuto2 _ _ a0 _ HSM0.out k0_0 k0_1).mono ?_
  rintro e w2 ⟨s0a, s0b, rfl, sf0a, sf0b, hb2⟩
  clear c0_0 c0_1 c0_2 c0_3 k0_0 k0_1
  have BZ' := BZ.trans (hb2.mono BZ.size)
  clear BZ
  have BZ := BZ'
  clear BZ'
  clear hb2
  go_wp2_with fail
  refine (s_NotAuto _ _ a0 _ HSM0.out sf0a sf0b  ).mono ?_
  rintro e w3 ⟨uW, vW, vsW, rfl, WR, hb3⟩
  have BZ' := BZ.trans (hb3.mono BZ.size)
  clear BZ
  have BZ := BZ'
  clear BZ'
  clear hb3 sf0a sf0b
  obtain ⟨uaW, ucW, rfl⟩ := inI_sl (auR_inI WR)
  obtain ⟨vaW, vcW, rfl⟩ := inT_sl (auR_inT WR)
  have al := (Below.refl _ w3).alloc (Nat.le_refl _) (.cells #[.int .i64 (naR a0).st, .int .i64 (naR a0).sa, .slice uaW (naR a0).fi.length ucW, .slice vaW (naR a0).nx.length vcW] 28)
  have BZ' := BZ.alloc BZ.size (.cells #[.int .i64 (naR a0).st, .int .i64 (naR a0).sa, .slice uaW (naR a0).fi.length ucW, .slice vaW (naR a0).nx.length vcW] 28)
  clear BZ
  have BZ := BZ'
  clear BZ'
  have WR' := auR_after WR al
  clear WR
  have WR := WR'
  clear WR'
  clear al
  have HWB0 : Hid ((w3.alloc (.cells #[.int .i64 (naR a0).st, .int .i64 (naR a0).sa, .slice uaW (naR a0).fi.length ucW, .slice vaW (naR a0).nx.length vcW] 28)).cell? ⟨w3.heap.size, 0, none⟩ = some (.int .i64 (naR a0).st)) := by show (w3.alloc (.cells #[.int .i64 (naR a0).st, .int .i64 (naR a0).sa, .slice uaW (naR a0).fi.length ucW, .slice vaW (naR a0).nx.length vcW] 28)).cell? ⟨w3.heap.size, 0, none⟩ = some (.int .i64 (naR a0).st); simp [go_sem]
  have HWB1 : Hid ((w3.alloc (.cells #[.int .i64 (naR a0).st, .int .i64 (naR a0).sa, .slice uaW (naR a0).fi.length ucW, .slice vaW (naR a0).nx.length vcW] 28)).cell? ⟨w3.heap.size, 1, none⟩ = some (.int .i64 (naR a0).sa)) := by show (w3.alloc (.cells #[.int .i64 (naR a0).st, .int .i64 (naR a0).sa, .slice uaW (naR a0).fi.length ucW, .slice vaW (naR a0).nx.length vcW] 28)).cell? ⟨w3.heap.size, 1, none⟩ = some (.int .i64 (naR a0).sa); simp [go_sem]
  have HWB2 : Hid ((w3.alloc (.cells #[.int .i64 (naR a0).st, .int .i64 (naR a0).sa, .slice uaW (naR a0).fi.length ucW, .slice vaW (naR a0).nx.length vcW] 28)).cell? ⟨w3.heap.size, 2, none⟩ = some (.slice uaW (naR a0).fi.length ucW)) := by show (w3.alloc (.cells #[.int .i64 (naR a0).st, .int .i64 (naR a0).sa, .slice uaW (naR a0).fi.length ucW, .slice vaW (naR a0).nx.length vcW] 28)).cell? ⟨w3.heap.size, 2, none⟩ = some (.slice uaW (naR a0).fi.length ucW); simp [go_sem]
  have HWB3 : Hid ((w3.alloc (.cells #[.int .i64 (naR a0).st, .int .i64 (naR a0).sa, .slice uaW (naR a0).fi.length ucW, .slice vaW (naR a0).nx.length vcW] 28)).cell? ⟨w3.heap.size, 3, none⟩ = some (.slice vaW (naR a0).nx.length vcW)) := by show (w3.alloc (.cells #[.int .i64 (naR a0).st, .int .i64 (naR a0).sa, .slice uaW (naR a0).fi.length ucW, .slice vaW (naR a0).nx.length vcW] 28)).cell? ⟨w3.heap.size, 3, none⟩ = some (.slice vaW (naR a0).nx.length vcW); simp [go_sem]
  have WI := Lib.hid (show InI _ _ _ ∧ InT _ _ _ from ⟨auR_inI WR, auR_inT WR⟩)
  clear WR
  have BW := Below.refl (w3.alloc (.cells #[.int .i64 (naR a0).st, .int .i64 (naR a0).sa, .slice uaW (naR a0).fi.length ucW, .slice vaW (naR a0).nx.length vcW] 28)).heap.size (w3.alloc (.cells #[.int .i64 (naR a0).st, .int .i64 (naR a0).sa, .slice uaW (naR a0).fi.length ucW, .slice vaW (naR a0).nx.length vcW] 28))
  have c0_0 := cell_later BZ b0_0
  have c0_1 := cell_later BZ b0_1
  have c0_2 := cell_later BZ b0_2
  have c0_3 := cell_later BZ b0_3
  have k0_0 := inI_below m0_0 BZ
  have k0_1 := inT_below m0_1 BZ
  go_wp2_with fail
  refine (l_toAuto3 _ _ a0 _ HSM0.out k0_0 k0_1).mono ?_
  rintro e w4 ⟨x0a, x0b, vx0, rfl, XF0, hb4⟩
  clear c0_0 c0_1 c0_2 c0_3 k0_0 k0_1
  have HLO_BZ_x0 := Lib.hid BZ.size
  have HLO_BW_x0 := Lib.hid BW.size
  have HXH0 := Lib.hid (auR_hi XF0)
  have BZ' := BZ.trans (hb4.mono BZ.size)
  clear BZ
  have BZ := BZ'
  clear BZ'
  have BW' := BW.trans (hb4.mono BW.size)
  clear BW
  have BW := BW'
  clear BW'
  clear hb4
  have al := (Below.refl _ w4).alloc (Nat.le_refl _) (.cells #[.int .i64 a0.st, .int .i64 a0.sa, .slice (some ⟨x0a, 0, none⟩) a0.fi.length a0.fi.length, .slice (some ⟨x0b, 0, none⟩) a0.nx.length a0.nx.length] 28)
  have XB0 := Below.refl w4.heap.size w4
  have XF0' := auR_after XF0 al
  clear XF0
  have XF0 := XF0'
  clear XF0'
  have BZ' := BZ.alloc BZ.size (.cells #[.int .i64 a0.st, .int .i64 a0.sa, .slice (some ⟨x0a, 0, none⟩) a0.fi.length a0.fi.length, .slice (some ⟨x0b, 0, none⟩) a0.nx.length a0.nx.length] 28)
  clear BZ
  have BZ := BZ'
  clear BZ'
  have BW' := BW.alloc BW.size (.cells #[.int .i64 a0.st, .int .i64 a0.sa, .slice (some ⟨x0a, 0, none⟩) a0.fi.length a0.fi.length, .slice (some ⟨x0b, 0, none⟩) a0.nx.length a0.nx.length] 28)
  clear BW
  have BW := BW'
  clear BW'
  have XB0' := XB0.alloc XB0.size (.cells #[.int .i64 a0.st, .int .i64 a0.sa, .slice (some ⟨x0a, 0, none⟩) a0.fi.length a0.fi.length, .slice (some ⟨x0b, 0, none⟩) a0.nx.length a0.nx.length] 28)
  clear XB0
  have XB0 := XB0'
  clear XB0'
  clear al
  have z0_0 : (w4.alloc (.cells #[.int .i64 a0.st, .int .i64 a0.sa, .slice (some ⟨x0a, 0, none⟩) a0.fi.length a0.fi.length, .slice (some ⟨x0b, 0, none⟩) a0.nx.length a0.nx.length] 28)).cell? ⟨w4.heap.size, 0, none⟩ = some (.int .i64 a0.st) := by simp [go_sem]
  have z0_1 : (w4.alloc (.cells #[.int .i64 a0.st, .int .i64 a0.sa, .slice (some ⟨x0a, 0, none⟩) a0.fi.length a0.fi.length, .slice (some ⟨x0b, 0, none⟩) a0.nx.length a0.nx.length] 28)).cell? ⟨w4.heap.size, 1, none⟩ = some (.int .i64 a0.sa) := by simp [go_sem]
  have z0_2 : (w4.alloc (.cells #[.int .i64 a0.st, .int .i64 a0.sa, .slice (some ⟨x0a, 0, none⟩) a0.fi.length a0.fi.length, .slice (some ⟨x0b, 0, none⟩) a0.nx.length a0.nx.length] 28)).cell? ⟨w4.heap.size, 2, none⟩ = some (.slice (some ⟨x0a, 0, none⟩) a0.fi.length a0.fi.length) := by simp [go_sem]
  have z0_3 : (w4.alloc (.cells #[.int .i64 a0.st, .int .i64 a0.sa, .slice (some ⟨x0a, 0, none⟩) a0.fi.length a0.fi.length, .slice (some ⟨x0b, 0, none⟩) a0.nx.length a0.nx.length] 28)).cell? ⟨w4.heap.size, 3, none⟩ = some (.slice (some ⟨x0b, 0, none⟩) a0.nx.length a0.nx.length) := by simp [go_sem]
  have xf0a := auR_inI XF0
  have xf0b := auR_inT XF0
  have HHI0 := Lib.hid XB0.size
  have HLO_BZ_g := Lib.hid BZ.size
  have HLO_BW_g := Lib.hid BW.size
  clear XB0
  have BG0 := Below.refl (w4.alloc (.cells #[.int .i64 a0.st, .int .i64 a0.sa, .slice (some ⟨x0a, 0, none⟩) a0.fi.length a0.fi.length, .slice (some ⟨x0b, 0, none⟩) a0.nx.length a0.nx.length] 28)).heap.size (w4.alloc (.cells #[.int .i64 a0.st, .int .i64 a0.sa, .slice (some ⟨x0a, 0, none⟩) a0.fi.length a0.fi.length, .slice (some ⟨x0b, 0, none⟩) a0.nx.length a0.nx.length] 28))
  go_wp2_with fail
  refine (i_NotAuto _ _ a0 _ HSM0.out xf0a xf0b  ).mono ?_
  rintro e w5 ⟨uG, vG, vsG, rfl, GR, hb5⟩
  have XF0' := auR_after XF0 hb5
  clear XF0
  have XF0 := XF0'
  clear XF0'
  have z0_0' := cell_later hb5 z0_0
  clear z0_0
  have z0_0 := z0_0'
  clear z0_0'
  have z0_1' := cell_later hb5 z0_1
  clear z0_1
  have z0_1 := z0_1'
  clear z0_1'
  have z0_2' := cell_later hb5 z0_2
  clear z0_2
  have z0_2 := z0_2'
  clear z0_2'
  have z0_3' := cell_later hb5 z0_3
  clear z0_3
  have z0_3 := z0_3'
  clear z0_3'
  have xf0a' := inI_below xf0a hb5
  clear xf0a
  have xf0a := xf0a'
  clear xf0a'
  have xf0b' := inT_below xf0b hb5
  clear xf0b
  have xf0b := xf0b'
  clear xf0b'
  have BZ' := BZ.trans (hb5.mono BZ.size)
  clear BZ
  have BZ := BZ'
  clear BZ'
  have BW' := BW.trans (hb5.mono BW.size)
  clear BW
  have BW := BW'
  clear BW'
  have BG0' := BG0.trans (hb5.mono BG0.size)
  clear BG0
  have BG0 := BG0'
  clear BG0'
  clear hb5
  obtain ⟨uaG, ucG, rfl⟩ := inI_sl (auR_inI GR)
  obtain ⟨vaG, vcG, rfl⟩ := inT_sl (auR_inT GR)
  have HGH := Lib.hid (auR_hi GR)
  have HGX := Lib.hid BG0.size
  clear BG0
  have al := (Below.refl _ w5).alloc (Nat.le_refl _) (.cells #[.int .i64 (naR a0).st, .int .i64 (naR a0).sa, .slice uaG (naR a0).fi.length ucG, .slice vaG (naR a0).nx.length vcG] 28)
  have XF0' := auR_after XF0 al
  clear XF0
  have XF0 := XF0'
  clear XF0'
  have z0_0' := cell_later al z0_0
  clear z0_0
  have z0_0 := z0_0'
  clear z0_0'
  have z0_1' := cell_later al z0_1
  clear z0_1
  have z0_1 := z0_1'
  clear z0_1'
  have z0_2' := cell_later al z0_2
  clear z0_2
  have z0_2 := z0_2'
  clear z0_2'
  have z0_3' := cell_later al z0_3
  clear z0_3
  have z0_3 := z0_3'
  clear z0_3'
  have xf0a' := inI_below xf0a al
  clear xf0a
  have xf0a := xf0a'
  clear xf0a'
  have xf0b' := inT_below xf0b al
  clear xf0b
  have xf0b := xf0b'
  clear xf0b'
  have BZ' := BZ.alloc BZ.size (.cells #[.int .i64 (naR a0).st, .int .i64 (naR a0).sa, .slice uaG (naR a0).fi.length ucG, .slice vaG (naR a0).nx.length vcG] 28)
  clear BZ
  have BZ := BZ'
  clear BZ'
  have BW' := BW.alloc BW.size (.cells #[.int .i64 (naR a0).st, .int .i64 (naR a0).sa, .slice uaG (naR a0).fi.length ucG, .slice vaG (naR a0).nx.length vcG] 28)
  clear BW
  have BW := BW'
  clear BW'
  have GR' := auR_after GR al
  clear GR
  have GR := GR'
  clear GR'
  clear al
  have zG0 : (w5.alloc (.cells #[.int .i64 (naR a0).st, .int .i64 (naR a0).sa, .slice uaG (naR a0).fi.length ucG, .slice vaG (naR a0).nx.length vcG] 28)).cell? ⟨w5.heap.size, 0, none⟩ = some (.int .i64 (naR a0).st) := by simp [go_sem]
  have zG1 : (w5.alloc (.cells #[.int .i64 (naR a0).st, .int .i64 (naR a0).sa, .slice uaG (naR a0).fi.length ucG, .slice vaG (naR a0).nx.length vcG] 28)).cell? ⟨w5.heap.size, 1, none⟩ = some (.int .i64 (naR a0).sa) := by simp [go_sem]
  have zG2 : (w5.alloc (.cells #[.int .i64 (naR a0).st, .int .i64 (naR a0).sa, .slice uaG (naR a0).fi.length ucG, .slice vaG (naR a0).nx.length vcG] 28)).cell? ⟨w5.heap.size, 2, none⟩ = some (.slice uaG (naR a0).fi.length ucG) := by simp [go_sem]
  have zG3 : (w5.alloc (.cells #[.int .i64 (naR a0).st, .int .i64 (naR a0).sa, .slice uaG (naR a0).fi.length ucG, .slice vaG (naR a0).nx.length vcG] 28)).cell? ⟨w5.heap.size, 3, none⟩ = some (.slice vaG (naR a0).nx.length vcG) := by simp [go_sem]
  have pW0 := cell_later BW HWB0.out
  have pW1 := cell_later BW HWB1.out
  have pW2 := cell_later BW HWB2.out
  have pW3 := cell_later BW HWB3.out
  go_wp2_with fail
  refine (l_eqAuto _ _ _ _ (naR a0) _ HRS.out (auR_inI GR) (auR_inT GR) (inI_below WI.out.1 BW) (inT_below WI.out.2 BW)).mono ?_
  rintro e w6 ⟨rfl, hb6⟩
  have XF0' := auR_after XF0 hb6
  clear XF0
  have XF0 := XF0'
  clear XF0'
  have z0_0' := cell_later hb6 z0_0
  clear z0_0
  have z0_0 := z0_0'
  clear z0_0'
  have z0_1' := cell_later hb6 z0_1
  clear z0_1
  have z0_1 := z0_1'
  clear z0_1'
  have z0_2' := cell_later hb6 z0_2
  clear z0_2
  have z0_2 := z0_2'
  clear z0_2'
  have z0_3' := cell_later hb6 z0_3
  clear z0_3
  have z0_3 := z0_3'
  clear z0_3'
  have xf0a' := inI_below xf0a hb6
  clear xf0a
  have xf0a := xf0a'
  clear xf0a'
  have xf0b' := inT_below xf0b hb6
  clear xf0b
  have xf0b := xf0b'
  clear xf0b'
  have zG0' := cell_later hb6 zG0
  clear zG0
  have zG0 := zG0'
  clear zG0'
  have zG1' := cell_later hb6 zG1
  clear zG1
  have zG1 := zG1'
  clear zG1'
  have zG2' := cell_later hb6 zG2
  clear zG2
  have zG2 := zG2'
  clear zG2'
  have zG3' := cell_later hb6 zG3
  clear zG3
  have zG3 := zG3'
  clear zG3'
  have GR' := auR_after GR hb6
  clear GR
  have GR := GR'
  clear GR'
  have BZ' := BZ.trans (hb6.mono BZ.size)
  clear BZ
  have BZ := BZ'
  clear BZ'
  have BW' := BW.trans (hb6.mono BW.size)
  clear BW
  have BW := BW'
  clear BW'
  clear hb6 pW0 pW1 pW2 pW3
  go_wp2
  have c0_0 := cell_later BZ b0_0
  have c0_1 := cell_later BZ b0_1
  have c0_2 := cell_later BZ b0_2
  have c0_3 := cell_later BZ b0_3
  have k0_0 := inI_below m0_0 BZ
  have k0_1 := inT_below m0_1 BZ
  go_region_held3 (fun w' => Below w6.heap.size w6 w' ∧ w'.cell? ⟨w.heap.size, 0, none⟩ = some (.int .i64 a0.st) ∧ w'.cell? ⟨w.heap.size, 1, none⟩ = some (.int .i64 a0.sa) ∧ w'.cell? ⟨w.heap.size, 2, none⟩ = some (p0a) ∧ w'.cell? ⟨w.heap.size, 3, none⟩ = some (p0b) ∧ w'.cell? ⟨w4.heap.size, 0, none⟩ = some (.int .i64 a0.st) ∧ w'.cell? ⟨w4.heap.size, 1, none⟩ = some (.int .i64 a0.sa) ∧ w'.cell? ⟨w4.heap.size, 2, none⟩ = some (.slice (some ⟨x0a, 0, none⟩) a0.fi.length a0.fi.length) ∧ w'.cell? ⟨w4.heap.size, 3, none⟩ = some (.slice (some ⟨x0b, 0, none⟩) a0.nx.length a0.nx.length) ∧ InI w' (p0a) a0.fi ∧ InT w' (p0b) a0.nx ∧ InI w' (.slice (some ⟨x0a, 0, none⟩) a0.fi.length a0.fi.length) a0.fi ∧ InT w' (.slice (some ⟨x0b, 0, none⟩) a0.nx.length a0.nx.length) a0.nx) ((first | (go_split_ands; (repeat' apply And.intro) <;> first | assumption | exact Below.drew (Below.refl _ _) | exact Below.drew (by assumption) | exact inI_below (by assumption) (Below.drew (Below.refl _ _)) | exact inT_below (by assumption) (Below.drew (Below.refl _ _)) | exact cell_later hA0 (by assumption) | exact inI_below (by assumption) hA0 | exact inT_below (by assumption) hA0 | exact Below.trans ‹Below w6.heap.size w6 _› (hA0.mono (Below.size ‹Below w6.heap.size w6 _›)) | exact cell_later hF0 (by assumption) | exact inI_below (by assumption) hF0 | exact inT_below (by assumption) hF0 | exact Below.trans ‹Below w6.heap.size w6 _› (hF0.mono (Below.size ‹Below w6.heap.size w6 _›)) | (simp; assumption)))) (first | (go_at_call 19; with_reducible refine (l_toAuto2 _ _ a0 _ HSM0.out (by first | assumption | (go_split_ands; assumption)) (by first | assumption | (go_split_ands; assumption))).mono ?_; rintro e wA0 ⟨y0a, y0b, rfl, yf0a, yf0b, hA0⟩) | (go_at_call 21; with_reducible refine (l_eqAuto _ _ _ _ a0 _ HSM0.out (by first | exact xf0a | exact inI_below xf0a (Below.drew (Below.refl _ _)) | exact inI_below xf0a hA0 | exact inI_below (inI_below xf0a hA0) (Below.drew (Below.refl _ _)) | exact inI_below (inI_below xf0a (Below.drew (Below.refl _ _))) hA0 | exact inI_below (inI_below (inI_below xf0a (Below.drew (Below.refl _ _))) hA0) (Below.drew (Below.refl _ _))) (by first | exact xf0b | exact inT_below xf0b (Below.drew (Below.refl _ _)) | exact inT_below xf0b hA0 | exact inT_below (inT_below xf0b hA0) (Below.drew (Below.refl _ _)) | exact inT_below (inT_below xf0b (Below.drew (Below.refl _ _))) hA0 | exact inT_below (inT_below (inT_below xf0b (Below.drew (Below.refl _ _))) hA0) (Below.drew (Below.refl _ _))) (by first | exact yf0a | exact inI_below yf0a (Below.drew (Below.refl _ _))) (by first | exact yf0b | exact inT_below yf0b (Below.drew (Below.refl _ _)))).mono ?_; rintro e wF0 ⟨rfl, hF0⟩))
  rename_i hS
  clear c0_0 c0_1 c0_2 c0_3 k0_0 k0_1
  have XF0' := auR_after XF0 hS.1
  clear XF0
  have XF0 := XF0'
  clear XF0'
  have z0_0' := cell_later hS.1 z0_0
  clear z0_0
  have z0_0 := z0_0'
  clear z0_0'
  have z0_1' := cell_later hS.1 z0_1
  clear z0_1
  have z0_1 := z0_1'
  clear z0_1'
  have z0_2' := cell_later hS.1 z0_2
  clear z0_2
  have z0_2 := z0_2'
  clear z0_2'
  have z0_3' := cell_later hS.1 z0_3
  clear z0_3
  have z0_3 := z0_3'
  clear z0_3'
  have zG0' := cell_later hS.1 zG0
  clear zG0
  have zG0 := zG0'
  clear zG0'
  have zG1' := cell_later hS.1 zG1
  clear zG1
  have zG1 := zG1'
  clear zG1'
  have zG2' := cell_later hS.1 zG2
  clear zG2
  have zG2 := zG2'
  clear zG2'
  have zG3' := cell_later hS.1 zG3
  clear zG3
  have zG3 := zG3'
  clear zG3'
  have GR' := auR_after GR hS.1
  clear GR
  have GR := GR'
  clear GR'
  have BZ' := BZ.trans (hS.1.mono BZ.size)
  clear BZ
  have BZ := BZ'
  clear BZ'
  have BW' := BW.trans (hS.1.mono BW.size)
  clear BW
  have BW := BW'
  clear BW'
  clear hS hA0 hF0 yf0a yf0b xf0a xf0b
  go_wp2_with fail
  refine (l_markAuto _ _ _ _ _ a0 ((w3.alloc (.cells #[.int .i64 (naR a0).st, .int .i64 (naR a0).sa, .slice uaW (naR a0).fi.length ucW, .slice vaW (naR a0).nx.length vcW] 28)).heap.size) (w4.heap.size) _ HSM0.out XF0 HXH0.out).mono ?_
  rintro e w7 ⟨rfl, hM, gM⟩
  clear hM
  clear XF0 z0_0 z0_1 z0_2 z0_3
  have BZ' := below_gp BZ gM BZ.size (fun b hb => Nat.le_trans HLO_BZ_x0.out hb.1)
  clear BZ
  have BZ := BZ'
  clear BZ'
  have BW' := below_gp BW gM BW.size (fun b hb => Nat.le_trans HLO_BW_x0.out hb.1)
  clear BW
  have BW := BW'
  clear BW'
  have GR' := auR_gp GR gM (fun b hb h => by have := HHI0.out; have := h.2; omega)
  clear GR
  have GR := GR'
  clear GR'
  have zG0' := gM.cell zG0 (fun h => by have := HGX.out; have := HHI0.out; have := h.2; omega)
  clear zG0
  have zG0 := zG0'
  clear zG0'
  have zG1' := gM.cell zG1 (fun h => by have := HGX.out; have := HHI0.out; have := h.2; omega)
  clear zG1
  have zG1 := zG1'
  clear zG1'
  have zG2' := gM.cell zG2 (fun h => by have := HGX.out; have := HHI0.out; have := h.2; omega)
  clear zG2
  have zG2 := zG2'
  clear zG2'
  have zG3' := gM.cell zG3 (fun h => by have := HGX.out; have := HHI0.out; have := h.2; omega)
  clear zG3
  have zG3 := zG3'
  clear zG3'
  clear gM
  generalize 1 + auTs a0 = K at *
  have pW0 := cell_later BW HWB0.out
  have pW1 := cell_later BW HWB1.out
  have pW2 := cell_later BW HWB2.out
  have pW3 := cell_later BW HWB3.out
  go_wp2_with fail
  refine (l_eqAuto _ _ _ _ (naR a0) _ HRS.out (auR_inI GR) (auR_inT GR) (inI_below WI.out.1 BW) (inT_below WI.out.2 BW)).mono ?_
  rintro e w8 ⟨rfl, hb8⟩
  have zG0' := cell_later hb8 zG0
  clear zG0
  have zG0 := zG0'
  clear zG0'
  have zG1' := cell_later hb8 zG1
  clear zG1
  have zG1 := zG1'
  clear zG1'
  have zG2' := cell_later hb8 zG2
  clear zG2
  have zG2 := zG2'
  clear zG2'
  have zG3' := cell_later hb8 zG3
  clear zG3
  have zG3 := zG3'
  clear zG3'
  have GR' := auR_after GR hb8
  clear GR
  have GR := GR'
  clear GR'
  have BZ' := BZ.trans (hb8.mono BZ.size)
  clear BZ
  have BZ := BZ'
  clear BZ'
  have BW' := BW.trans (hb8.mono BW.size)
  clear BW
  have BW := BW'
  clear BW'
  clear hb8 pW0 pW1 pW2 pW3
  go_wp2_with fail
  refine (l_markAuto _ _ _ _ _ (naR a0) ((w4.alloc (.cells #[.int .i64 a0.st, .int .i64 a0.sa, .slice (some ⟨x0a, 0, none⟩) a0.fi.length a0.fi.length, .slice (some ⟨x0b, 0, none⟩) a0.nx.length a0.nx.length] 28)).heap.size) _ _ HRS.out GR HGH.out).mono ?_
  rintro e w9 ⟨rfl, GM, gM⟩
  have BZ' := below_gp BZ gM BZ.size (fun b hb => Nat.le_trans HLO_BZ_g.out (hb.1))
  clear BZ
  have BZ := BZ'
  clear BZ'
  have BW' := below_gp BW gM BW.size (fun b hb => Nat.le_trans HLO_BW_g.out (hb.1))
  clear BW
  have BW := BW'
  clear BW'
  have zG0' := gM.cell zG0 (fun h => by have := h.2; omega)
  clear zG0
  have zG0 := zG0'
  clear zG0'
  have zG1' := gM.cell zG1 (fun h => by have := h.2; omega)
  clear zG1
  have zG1 := zG1'
  clear zG1'
  have zG2' := gM.cell zG2 (fun h => by have := h.2; omega)
  clear zG2
  have zG2 := zG2'
  clear zG2'
  have zG3' := gM.cell zG3 (fun h => by have := h.2; omega)
  clear zG3
  have zG3 := zG3'
  clear zG3'
  clear gM GR
  have GR := GM
  clear GM
  go_wp2_with fail
  refine (l_heldAuto _ _ _ _ _ (naR a0) ((w4.alloc (.cells #[.int .i64 a0.st, .int .i64 a0.sa, .slice (some ⟨x0a, 0, none⟩) a0.fi.length a0.fi.length, .slice (some ⟨x0b, 0, none⟩) a0.nx.length a0.nx.length] 28)).heap.size) _ HRS.out GR).mono ?_
  rintro e w10 ⟨rfl, hb10⟩
  have zG0' := cell_later hb10 zG0
  clear zG0
  have zG0 := zG0'
  clear zG0'
  have zG1' := cell_later hb10 zG1
  clear zG1
  have zG1 := zG1'
  clear zG1'
  have zG2' := cell_later hb10 zG2
  clear zG2
  have zG2 := zG2'
  clear zG2'
  have zG3' := cell_later hb10 zG3
  clear zG3
  have zG3 := zG3'
  clear zG3'
  have GR' := auR_after GR hb10
  clear GR
  have GR := GR'
  clear GR'
  have BZ' := BZ.trans (hb10.mono BZ.size)
  clear BZ
  have BZ := BZ'
  clear BZ'
  have BW' := BW.trans (hb10.mono BW.size)
  clear BW
  have BW := BW'
  clear BW'
  clear hb10
  have c0_0 := cell_later BZ b0_0
  have c0_1 := cell_later BZ b0_1
  have c0_2 := cell_later BZ b0_2
  have c0_3 := cell_later BZ b0_3
  have k0_0 := inI_below m0_0 BZ
  have k0_1 := inT_below m0_1 BZ
  go_wp2_with fail
  refine (l_toAuto2 _ _ a0 _ HSM0.out k0_0 k0_1).mono ?_
  rintro e w11 ⟨s0a, s0b, rfl, sf0a, sf0b, hb11⟩
  clear c0_0 c0_1 c0_2 c0_3 k0_0 k0_1
  have zG0' := cell_later hb11 zG0
  clear zG0
  have zG0 := zG0'
  clear zG0'
  have zG1' := cell_later hb11 zG1
  clear zG1
  have zG1 := zG1'
  clear zG1'
  have zG2' := cell_later hb11 zG2
  clear zG2
  have zG2 := zG2'
  clear zG2'
  have zG3' := cell_later hb11 zG3
  clear zG3
  have zG3 := zG3'
  clear zG3'
  have GR' := auR_after GR hb11
  clear GR
  have GR := GR'
  clear GR'
  have BZ' := BZ.trans (hb11.mono BZ.size)
  clear BZ
  have BZ := BZ'
  clear BZ'
  have BW' := BW.trans (hb11.mono BW.size)
  clear BW
  have BW := BW'
  clear BW'
  clear hb11
  go_wp2_with fail
  refine (i_NotAuto _ _ a0 _ HSM0.out sf0a sf0b  ).mono ?_
  rintro e w12 ⟨uH, vH, vsH, rfl, HR, hb12⟩
  have zG0' := cell_later hb12 zG0
  clear zG0
  have zG0 := zG0'
  clear zG0'
  have zG1' := cell_later hb12 zG1
  clear zG1
  have zG1 := zG1'
  clear zG1'
  have zG2' := cell_later hb12 zG2
  clear zG2
  have zG2 := zG2'
  clear zG2'
  have zG3' := cell_later hb12 zG3
  clear zG3
  have zG3 := zG3'
  clear zG3'
  have GR' := auR_after GR hb12
  clear GR
  have GR := GR'
  clear GR'
  have BZ' := BZ.trans (hb12.mono BZ.size)
  clear BZ
  have BZ := BZ'
  clear BZ'
  have BW' := BW.trans (hb12.mono BW.size)
  clear BW
  have BW := BW'
  clear BW'
  clear hb12 sf0a sf0b
  obtain ⟨uaH, ucH, rfl⟩ := inI_sl (auR_inI HR)
  obtain ⟨vaH, vcH, rfl⟩ := inT_sl (auR_inT HR)
  have al := (Below.refl _ w12).alloc (Nat.le_refl _) (.cells #[.int .i64 (naR a0).st, .int .i64 (naR a0).sa, .slice uaH (naR a0).fi.length ucH, .slice vaH (naR a0).nx.length vcH] 28)
  have zG0' := cell_later al zG0
  clear zG0
  have zG0 := zG0'
  clear zG0'
  have zG1' := cell_later al zG1
  clear zG1
  have zG1 := zG1'
  clear zG1'
  have zG2' := cell_later al zG2
  clear zG2
  have zG2 := zG2'
  clear zG2'
  have zG3' := cell_later al zG3
  clear zG3
  have zG3 := zG3'
  clear zG3'
  have GR' := auR_after GR al
  clear GR
  have GR := GR'
  clear GR'
  have BZ' := BZ.alloc BZ.size (.cells #[.int .i64 (naR a0).st, .int .i64 (naR a0).sa, .slice uaH (naR a0).fi.length ucH, .slice vaH (naR a0).nx.length vcH] 28)
  clear BZ
  have BZ := BZ'
  clear BZ'
  have BW' := BW.alloc BW.size (.cells #[.int .i64 (naR a0).st, .int .i64 (naR a0).sa, .slice uaH (naR a0).fi.length ucH, .slice vaH (naR a0).nx.length vcH] 28)
  clear BW
  have BW := BW'
  clear BW'
  have HR' := auR_after HR al
  clear HR
  have HR := HR'
  clear HR'
  clear al
  have pW0 := cell_later BW HWB0.out
  have pW1 := cell_later BW HWB1.out
  have pW2 := cell_later BW HWB2.out
  have pW3 := cell_later BW HWB3.out
  go_wp2_with fail
  refine (l_eqAuto _ _ _ _ (naR a0) _ HRS.out (auR_inI HR) (auR_inT HR) (inI_below WI.out.1 BW) (inT_below WI.out.2 BW)).mono ?_
  rintro e w13 ⟨rfl, hb13⟩
  have zG0' := cell_later hb13 zG0
  clear zG0
  have zG0 := zG0'
  clear zG0'
  have zG1' := cell_later hb13 zG1
  clear zG1
  have zG1 := zG1'
  clear zG1'
  have zG2' := cell_later hb13 zG2
  clear zG2
  have zG2 := zG2'
  clear zG2'
  have zG3' := cell_later hb13 zG3
  clear zG3
  have zG3 := zG3'
  clear zG3'
  have GR' := auR_after GR hb13
  clear GR
  have GR := GR'
  clear GR'
  have HR' := auR_after HR hb13
  clear HR
  have HR := HR'
  clear HR'
  have BZ' := BZ.trans (hb13.mono BZ.size)
  clear BZ
  have BZ := BZ'
  clear BZ'
  have BW' := BW.trans (hb13.mono BW.size)
  clear BW
  have BW := BW'
  clear BW'
  clear hb13 pW0 pW1 pW2 pW3
  go_wp2_with fail
  refine (l_heldAuto _ _ _ _ _ (naR a0) ((w4.alloc (.cells #[.int .i64 a0.st, .int .i64 a0.sa, .slice (some ⟨x0a, 0, none⟩) a0.fi.length a0.fi.length, .slice (some ⟨x0b, 0, none⟩) a0.nx.length a0.nx.length] 28)).heap.size) _ HRS.out GR).mono ?_
  rintro e w14 ⟨rfl, hb14⟩
  have zG0' := cell_later hb14 zG0
  clear zG0
  have zG0 := zG0'
  clear zG0'
  have zG1' := cell_later hb14 zG1
  clear zG1
  have zG1 := zG1'
  clear zG1'
  have zG2' := cell_later hb14 zG2
  clear zG2
  have zG2 := zG2'
  clear zG2'
  have zG3' := cell_later hb14 zG3
  clear zG3
  have zG3 := zG3'
  clear zG3'
  have GR' := auR_after GR hb14
  clear GR
  have GR := GR'
  clear GR'
  have HR' := auR_after HR hb14
  clear HR
  have HR := HR'
  clear HR'
  have BZ' := BZ.trans (hb14.mono BZ.size)
  clear BZ
  have BZ := BZ'
  clear BZ'
  have BW' := BW.trans (hb14.mono BW.size)
  clear BW
  have BW := BW'
  clear BW'
  clear hb14
  have BF := HBX.out _ BZ
  clear BZ BW GR HR b0_0 b0_1 b0_2 b0_3 m0_0 m0_1
  go_wp2
  go_ret
  exact ⟨rfl, BF⟩
end Go.Proofs.Ytefcdkgfabaffaa

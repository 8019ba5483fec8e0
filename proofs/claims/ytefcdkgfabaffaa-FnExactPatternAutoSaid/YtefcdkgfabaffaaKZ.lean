/- The law of PatternAuto. -/
import Derived.Test.YtefcdkgfabaffaaKY
namespace Go.Proofs.Ytefcdkgfabaffaa
open Go.ChangeShapes Go.WideShapes Go.RowKit
set_option linter.unusedVariables false
set_option linter.unusedSimpArgs false
set_option maxHeartbeats 4000000
set_option maxRecDepth 100000
theorem walk_FnExactPatternAuto (t0 : ByteArray) (h0 : t0.size ≤ 9223372036854775807) (w : World) :
    Calls Try.prog 5 #[.string t0] w fun e w' => e = .returned (.bool true) ∧ Below w.heap.size w w' := by
  have hbx := (Below.refl w.heap.size w)
  have HBX : Hid (∀ w', Below w.heap.size w w' → Below w.heap.size w w') := fun w' h => h
  clear hbx 
  rcases Nat.lt_or_ge 1048576 t0.size with hz0 | hz0
  · have hg0 : decide ((1048576 : Int) < (t0.size : Int)) = true := by rw [decide_eq_true_iff]; omega
    go_enter Try.func5, Try.ntmps5
    go_wp2
    go_ret
    exact ⟨rfl, HBX.out _ (Below.refl _ _)⟩
  have hg0 : decide ((1048576 : Int) < (t0.size : Int)) = false := by rw [decide_eq_false_iff_not]; omega
  go_enter Try.func5, Try.ntmps5
  have HRS := Lib.hid (pcR_sm t0)
  have BZ := Below.refl w.heap.size w
  go_wp2_with fail
  refine (s_PatternAuto t0 _ hz0 ).mono ?_
  rintro e w1 ⟨uW, vW, vsW, rfl, WR, hb1⟩
  have BZ' := BZ.trans (hb1.mono BZ.size)
  clear BZ
  have BZ := BZ'
  clear BZ'
  clear hb1
  obtain ⟨uaW, ucW, rfl⟩ := inI_sl (auR_inI WR)
  obtain ⟨vaW, vcW, rfl⟩ := inT_sl (auR_inT WR)
  have al := (Below.refl _ w1).alloc (Nat.le_refl _) (.cells #[.int .i64 (pcR t0).st, .int .i64 (pcR t0).sa, .slice uaW (pcR t0).fi.length ucW, .slice vaW (pcR t0).nx.length vcW] 28)
  have BZ' := BZ.alloc BZ.size (.cells #[.int .i64 (pcR t0).st, .int .i64 (pcR t0).sa, .slice uaW (pcR t0).fi.length ucW, .slice vaW (pcR t0).nx.length vcW] 28)
  clear BZ
  have BZ := BZ'
  clear BZ'
  have WR' := auR_after WR al
  clear WR
  have WR := WR'
  clear WR'
  clear al
  have HWB0 : Hid ((w1.alloc (.cells #[.int .i64 (pcR t0).st, .int .i64 (pcR t0).sa, .slice uaW (pcR t0).fi.length ucW, .slice vaW (pcR t0).nx.length vcW] 28)).cell? ⟨w1.heap.size, 0, none⟩ = some (.int .i64 (pcR t0).st)) := by show (w1.alloc (.cells #[.int .i64 (pcR t0).st, .int .i64 (pcR t0).sa, .slice uaW (pcR t0).fi.length ucW, .slice vaW (pcR t0).nx.length vcW] 28)).cell? ⟨w1.heap.size, 0, none⟩ = some (.int .i64 (pcR t0).st); simp [go_sem]
  have HWB1 : Hid ((w1.alloc (.cells #[.int .i64 (pcR t0).st, .int .i64 (pcR t0).sa, .slice uaW (pcR t0).fi.length ucW, .slice vaW (pcR t0).nx.length vcW] 28)).cell? ⟨w1.heap.size, 1, none⟩ = some (.int .i64 (pcR t0).sa)) := by show (w1.alloc (.cells #[.int .i64 (pcR t0).st, .int .i64 (pcR t0).sa, .slice uaW (pcR t0).fi.length ucW, .slice vaW (pcR t0).nx.length vcW] 28)).cell? ⟨w1.heap.size, 1, none⟩ = some (.int .i64 (pcR t0).sa); simp [go_sem]
  have HWB2 : Hid ((w1.alloc (.cells #[.int .i64 (pcR t0).st, .int .i64 (pcR t0).sa, .slice uaW (pcR t0).fi.length ucW, .slice vaW (pcR t0).nx.length vcW] 28)).cell? ⟨w1.heap.size, 2, none⟩ = some (.slice uaW (pcR t0).fi.length ucW)) := by show (w1.alloc (.cells #[.int .i64 (pcR t0).st, .int .i64 (pcR t0).sa, .slice uaW (pcR t0).fi.length ucW, .slice vaW (pcR t0).nx.length vcW] 28)).cell? ⟨w1.heap.size, 2, none⟩ = some (.slice uaW (pcR t0).fi.length ucW); simp [go_sem]
  have HWB3 : Hid ((w1.alloc (.cells #[.int .i64 (pcR t0).st, .int .i64 (pcR t0).sa, .slice uaW (pcR t0).fi.length ucW, .slice vaW (pcR t0).nx.length vcW] 28)).cell? ⟨w1.heap.size, 3, none⟩ = some (.slice vaW (pcR t0).nx.length vcW)) := by show (w1.alloc (.cells #[.int .i64 (pcR t0).st, .int .i64 (pcR t0).sa, .slice uaW (pcR t0).fi.length ucW, .slice vaW (pcR t0).nx.length vcW] 28)).cell? ⟨w1.heap.size, 3, none⟩ = some (.slice vaW (pcR t0).nx.length vcW); simp [go_sem]
  have WI := Lib.hid (show InI _ _ _ ∧ InT _ _ _ from ⟨auR_inI WR, auR_inT WR⟩)
  clear WR
  have BW := Below.refl (w1.alloc (.cells #[.int .i64 (pcR t0).st, .int .i64 (pcR t0).sa, .slice uaW (pcR t0).fi.length ucW, .slice vaW (pcR t0).nx.length vcW] 28)).heap.size (w1.alloc (.cells #[.int .i64 (pcR t0).st, .int .i64 (pcR t0).sa, .slice uaW (pcR t0).fi.length ucW, .slice vaW (pcR t0).nx.length vcW] 28))
  have HLO_BZ_g := Lib.hid BZ.size
  have HLO_BW_g := Lib.hid BW.size
  have BG0 := Below.refl (w1.alloc (.cells #[.int .i64 (pcR t0).st, .int .i64 (pcR t0).sa, .slice uaW (pcR t0).fi.length ucW, .slice vaW (pcR t0).nx.length vcW] 28)).heap.size (w1.alloc (.cells #[.int .i64 (pcR t0).st, .int .i64 (pcR t0).sa, .slice uaW (pcR t0).fi.length ucW, .slice vaW (pcR t0).nx.length vcW] 28))
  go_wp2_with fail
  refine (i_PatternAuto t0 _ hz0 ).mono ?_
  rintro e w2 ⟨uG, vG, vsG, rfl, GR, hb2⟩
  have BZ' := BZ.trans (hb2.mono BZ.size)
  clear BZ
  have BZ := BZ'
  clear BZ'
  have BW' := BW.trans (hb2.mono BW.size)
  clear BW
  have BW := BW'
  clear BW'
  have BG0' := BG0.trans (hb2.mono BG0.size)
  clear BG0
  have BG0 := BG0'
  clear BG0'
  clear hb2
  obtain ⟨uaG, ucG, rfl⟩ := inI_sl (auR_inI GR)
  obtain ⟨vaG, vcG, rfl⟩ := inT_sl (auR_inT GR)
  have HGH := Lib.hid (auR_hi GR)
  have HGX := Lib.hid BG0.size
  clear BG0
  have al := (Below.refl _ w2).alloc (Nat.le_refl _) (.cells #[.int .i64 (pcR t0).st, .int .i64 (pcR t0).sa, .slice uaG (pcR t0).fi.length ucG, .slice vaG (pcR t0).nx.length vcG] 28)
  have BZ' := BZ.alloc BZ.size (.cells #[.int .i64 (pcR t0).st, .int .i64 (pcR t0).sa, .slice uaG (pcR t0).fi.length ucG, .slice vaG (pcR t0).nx.length vcG] 28)
  clear BZ
  have BZ := BZ'
  clear BZ'
  have BW' := BW.alloc BW.size (.cells #[.int .i64 (pcR t0).st, .int .i64 (pcR t0).sa, .slice uaG (pcR t0).fi.length ucG, .slice vaG (pcR t0).nx.length vcG] 28)
  clear BW
  have BW := BW'
  clear BW'
  have GR' := auR_after GR al
  clear GR
  have GR := GR'
  clear GR'
  clear al
  have zG0 : (w2.alloc (.cells #[.int .i64 (pcR t0).st, .int .i64 (pcR t0).sa, .slice uaG (pcR t0).fi.length ucG, .slice vaG (pcR t0).nx.length vcG] 28)).cell? ⟨w2.heap.size, 0, none⟩ = some (.int .i64 (pcR t0).st) := by simp [go_sem]
  have zG1 : (w2.alloc (.cells #[.int .i64 (pcR t0).st, .int .i64 (pcR t0).sa, .slice uaG (pcR t0).fi.length ucG, .slice vaG (pcR t0).nx.length vcG] 28)).cell? ⟨w2.heap.size, 1, none⟩ = some (.int .i64 (pcR t0).sa) := by simp [go_sem]
  have zG2 : (w2.alloc (.cells #[.int .i64 (pcR t0).st, .int .i64 (pcR t0).sa, .slice uaG (pcR t0).fi.length ucG, .slice vaG (pcR t0).nx.length vcG] 28)).cell? ⟨w2.heap.size, 2, none⟩ = some (.slice uaG (pcR t0).fi.length ucG) := by simp [go_sem]
  have zG3 : (w2.alloc (.cells #[.int .i64 (pcR t0).st, .int .i64 (pcR t0).sa, .slice uaG (pcR t0).fi.length ucG, .slice vaG (pcR t0).nx.length vcG] 28)).cell? ⟨w2.heap.size, 3, none⟩ = some (.slice vaG (pcR t0).nx.length vcG) := by simp [go_sem]
  have pW0 := cell_later BW HWB0.out
  have pW1 := cell_later BW HWB1.out
  have pW2 := cell_later BW HWB2.out
  have pW3 := cell_later BW HWB3.out
  go_wp2_with fail
  refine (l_eqAuto _ _ _ _ (pcR t0) _ HRS.out (auR_inI GR) (auR_inT GR) (inI_below WI.out.1 BW) (inT_below WI.out.2 BW)).mono ?_
  rintro e w3 ⟨rfl, hb3⟩
  have zG0' := cell_later hb3 zG0
  clear zG0
  have zG0 := zG0'
  clear zG0'
  have zG1' := cell_later hb3 zG1
  clear zG1
  have zG1 := zG1'
  clear zG1'
  have zG2' := cell_later hb3 zG2
  clear zG2
  have zG2 := zG2'
  clear zG2'
  have zG3' := cell_later hb3 zG3
  clear zG3
  have zG3 := zG3'
  clear zG3'
  have GR' := auR_after GR hb3
  clear GR
  have GR := GR'
  clear GR'
  have BZ' := BZ.trans (hb3.mono BZ.size)
  clear BZ
  have BZ := BZ'
  clear BZ'
  have BW' := BW.trans (hb3.mono BW.size)
  clear BW
  have BW := BW'
  clear BW'
  clear hb3 pW0 pW1 pW2 pW3
  go_wp2_with fail
  refine (l_markAuto _ _ _ _ _ (pcR t0) ((w1.alloc (.cells #[.int .i64 (pcR t0).st, .int .i64 (pcR t0).sa, .slice uaW (pcR t0).fi.length ucW, .slice vaW (pcR t0).nx.length vcW] 28)).heap.size) _ _ HRS.out GR HGH.out).mono ?_
  rintro e w4 ⟨rfl, GM, gM⟩
  have BZ' := below_gp BZ gM BZ.size (fun b hb => Nat.le_trans HLO_BZ_g.out (hb.1))
  clear BZ
  have BZ := BZ'
  clear BZ'
  have BW' := below_gp BW gM BW.size (fun b hb => Nat.le_trans HLO_BW_g.out (hb.1))
  clear BW
  have BW := BW'
  clear BW'
  have zG0' := gM.cell zG0 (fun h => by have := h.2; omega)
  clear zG0
  have zG0 := zG0'
  clear zG0'
  have zG1' := gM.cell zG1 (fun h => by have := h.2; omega)
  clear zG1
  have zG1 := zG1'
  clear zG1'
  have zG2' := gM.cell zG2 (fun h => by have := h.2; omega)
  clear zG2
  have zG2 := zG2'
  clear zG2'
  have zG3' := gM.cell zG3 (fun h => by have := h.2; omega)
  clear zG3
  have zG3 := zG3'
  clear zG3'
  clear gM GR
  have GR := GM
  clear GM
  go_wp2_with fail
  refine (l_heldAuto _ _ _ _ _ (pcR t0) ((w1.alloc (.cells #[.int .i64 (pcR t0).st, .int .i64 (pcR t0).sa, .slice uaW (pcR t0).fi.length ucW, .slice vaW (pcR t0).nx.length vcW] 28)).heap.size) _ HRS.out GR).mono ?_
  rintro e w5 ⟨rfl, hb5⟩
  have zG0' := cell_later hb5 zG0
  clear zG0
  have zG0 := zG0'
  clear zG0'
  have zG1' := cell_later hb5 zG1
  clear zG1
  have zG1 := zG1'
  clear zG1'
  have zG2' := cell_later hb5 zG2
  clear zG2
  have zG2 := zG2'
  clear zG2'
  have zG3' := cell_later hb5 zG3
  clear zG3
  have zG3 := zG3'
  clear zG3'
  have GR' := auR_after GR hb5
  clear GR
  have GR := GR'
  clear GR'
  have BZ' := BZ.trans (hb5.mono BZ.size)
  clear BZ
  have BZ := BZ'
  clear BZ'
  have BW' := BW.trans (hb5.mono BW.size)
  clear BW
  have BW := BW'
  clear BW'
  clear hb5
  go_wp2_with fail
  refine (i_PatternAuto t0 _ hz0 ).mono ?_
  rintro e w6 ⟨uH, vH, vsH, rfl, HR, hb6⟩
  have zG0' := cell_later hb6 zG0
  clear zG0
  have zG0 := zG0'
  clear zG0'
  have zG1' := cell_later hb6 zG1
  clear zG1
  have zG1 := zG1'
  clear zG1'
  have zG2' := cell_later hb6 zG2
  clear zG2
  have zG2 := zG2'
  clear zG2'
  have zG3' := cell_later hb6 zG3
  clear zG3
  have zG3 := zG3'
  clear zG3'
  have GR' := auR_after GR hb6
  clear GR
  have GR := GR'
  clear GR'
  have BZ' := BZ.trans (hb6.mono BZ.size)
  clear BZ
  have BZ := BZ'
  clear BZ'
  have BW' := BW.trans (hb6.mono BW.size)
  clear BW
  have BW := BW'
  clear BW'
  clear hb6
  obtain ⟨uaH, ucH, rfl⟩ := inI_sl (auR_inI HR)
  obtain ⟨vaH, vcH, rfl⟩ := inT_sl (auR_inT HR)
  have al := (Below.refl _ w6).alloc (Nat.le_refl _) (.cells #[.int .i64 (pcR t0).st, .int .i64 (pcR t0).sa, .slice uaH (pcR t0).fi.length ucH, .slice vaH (pcR t0).nx.length vcH] 28)
  have zG0' := cell_later al zG0
  clear zG0
  have zG0 := zG0'
  clear zG0'
  have zG1' := cell_later al zG1
  clear zG1
  have zG1 := zG1'
  clear zG1'
  have zG2' := cell_later al zG2
  clear zG2
  have zG2 := zG2'
  clear zG2'
  have zG3' := cell_later al zG3
  clear zG3
  have zG3 := zG3'
  clear zG3'
  have GR' := auR_after GR al
  clear GR
  have GR := GR'
  clear GR'
  have BZ' := BZ.alloc BZ.size (.cells #[.int .i64 (pcR t0).st, .int .i64 (pcR t0).sa, .slice uaH (pcR t0).fi.length ucH, .slice vaH (pcR t0).nx.length vcH] 28)
  clear BZ
  have BZ := BZ'
  clear BZ'
  have BW' := BW.alloc BW.size (.cells #[.int .i64 (pcR t0).st, .int .i64 (pcR t0).sa, .slice uaH (pcR t0).fi.length ucH, .slice vaH (pcR t0).nx.length vcH] 28)
  clear BW
  have BW := BW'
  clear BW'
  have HR' := auR_after HR al
  clear HR
  have HR := HR'
  clear HR'
  clear al
  have pW0 := cell_later BW HWB0.out
  have pW1 := cell_later BW HWB1.out
  have pW2 := cell_later BW HWB2.out
  have pW3 := cell_later BW HWB3.out
  go_wp2_with fail
  refine (l_eqAuto _ _ _ _ (pcR t0) _ HRS.out (auR_inI HR) (auR_inT HR) (inI_below WI.out.1 BW) (inT_below WI.out.2 BW)).mono ?_
  rintro e w7 ⟨rfl, hb7⟩
  have zG0' := cell_later hb7 zG0
  clear zG0
  have zG0 := zG0'
  clear zG0'
  have zG1' := cell_later hb7 zG1
  clear zG1
  have zG1 := zG1'
  clear zG1'
  have zG2' := cell_later hb7 zG2
  clear zG2
  have zG2 := zG2'
  clear zG2'
  have zG3' := cell_later hb7 zG3
  clear zG3
  have zG3 := zG3'
  clear zG3'
  have GR' := auR_after GR hb7
  clear GR
  have GR := GR'
  clear GR'
  have HR' := auR_after HR hb7
  clear HR
  have HR := HR'
  clear HR'
  have BZ' := BZ.trans (hb7.mono BZ.size)
  clear BZ
  have BZ := BZ'
  clear BZ'
  have BW' := BW.trans (hb7.mono BW.size)
  clear BW
  have BW := BW'
  clear BW'
  clear hb7 pW0 pW1 pW2 pW3
  go_wp2_with fail
  refine (l_heldAuto _ _ _ _ _ (pcR t0) ((w1.alloc (.cells #[.int .i64 (pcR t0).st, .int .i64 (pcR t0).sa, .slice uaW (pcR t0).fi.length ucW, .slice vaW (pcR t0).nx.length vcW] 28)).heap.size) _ HRS.out GR).mono ?_
  rintro e w8 ⟨rfl, hb8⟩
  have zG0' := cell_later hb8 zG0
  clear zG0
  have zG0 := zG0'
  clear zG0'
  have zG1' := cell_later hb8 zG1
  clear zG1
  have zG1 := zG1'
  clear zG1'
  have zG2' := cell_later hb8 zG2
  clear zG2
  have zG2 := zG2'
  clear zG2'
  have zG3' := cell_later hb8 zG3
  clear zG3
  have zG3 := zG3'
  clear zG3'
  have GR' := auR_after GR hb8
  clear GR
  have GR := GR'
  clear GR'
  have HR' := auR_after HR hb8
  clear HR
  have HR := HR'
  clear HR'
  have BZ' := BZ.trans (hb8.mono BZ.size)
  clear BZ
  have BZ := BZ'
  clear BZ'
  have BW' := BW.trans (hb8.mono BW.size)
  clear BW
  have BW := BW'
  clear BW'
  clear hb8
  have BF := HBX.out _ BZ
  clear BZ BW GR HR 
  go_wp2
  go_ret
  exact ⟨rfl, BF⟩
end Go.Proofs.Ytefcdkgfabaffaa

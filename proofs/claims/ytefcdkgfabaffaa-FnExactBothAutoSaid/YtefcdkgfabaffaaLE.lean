/- The law of BothAuto. -/
import Derived.Test.YtefcdkgfabaffaaLD
namespace Go.Proofs.Ytefcdkgfabaffaa
open Go.ChangeShapes Go.WideShapes Go.RowKit
set_option linter.unusedVariables false
set_option linter.unusedSimpArgs false
set_option maxHeartbeats 1500000
set_option maxRecDepth 100000
theorem walk_FnExactBothAuto (v0 : Value) (a0 : Au) (v1 : Value) (a1 : Au) (w : World) (h0 : InAu w v0 a0) (h0b : a0.fi.length ≤ 9223372036854775807 ∧ a0.nx.length ≤ 9223372036854775807) (h0c : ∀ r ∈ a0.nx, r.length ≤ 9223372036854775807) (h1 : InAu w v1 a1) (h1b : a1.fi.length ≤ 9223372036854775807 ∧ a1.nx.length ≤ 9223372036854775807) (h1c : ∀ r ∈ a1.nx, r.length ≤ 9223372036854775807) :
    Calls Try.prog 7 #[v0, v1] w fun e w' => e = .returned (.bool true) ∧ Below w.heap.size w w' := by
  obtain ⟨p0a, p0b, rfl, im0, jm0⟩ := h0
  obtain ⟨p1a, p1b, rfl, im1, jm1⟩ := h1
  have hbx := (((Below.refl w.heap.size w).alloc (by first | exact Nat.le_refl _ | (simp; done) | (simp; omega)) (.cells #[.int .i64 a0.st, .int .i64 a0.sa, p0a, p0b] 25)).alloc (by first | exact Nat.le_refl _ | (simp; done) | (simp; omega)) (.cells #[.int .i64 a1.st, .int .i64 a1.sa, p1a, p1b] 25))
  have b0_0 : ((w.alloc (.cells #[.int .i64 a0.st, .int .i64 a0.sa, p0a, p0b] 25)).alloc (.cells #[.int .i64 a1.st, .int .i64 a1.sa, p1a, p1b] 25)).cell? ⟨w.heap.size, 0, none⟩ = some (.int .i64 a0.st) := by simp [go_sem]
  have b0_1 : ((w.alloc (.cells #[.int .i64 a0.st, .int .i64 a0.sa, p0a, p0b] 25)).alloc (.cells #[.int .i64 a1.st, .int .i64 a1.sa, p1a, p1b] 25)).cell? ⟨w.heap.size, 1, none⟩ = some (.int .i64 a0.sa) := by simp [go_sem]
  have b0_2 : ((w.alloc (.cells #[.int .i64 a0.st, .int .i64 a0.sa, p0a, p0b] 25)).alloc (.cells #[.int .i64 a1.st, .int .i64 a1.sa, p1a, p1b] 25)).cell? ⟨w.heap.size, 2, none⟩ = some (p0a) := by simp [go_sem]
  have b0_3 : ((w.alloc (.cells #[.int .i64 a0.st, .int .i64 a0.sa, p0a, p0b] 25)).alloc (.cells #[.int .i64 a1.st, .int .i64 a1.sa, p1a, p1b] 25)).cell? ⟨w.heap.size, 3, none⟩ = some (p0b) := by simp [go_sem]
  have m0_0 := inI_below im0 hbx
  have m0_1 := inT_below jm0 hbx
  have b1_0 : ((w.alloc (.cells #[.int .i64 a0.st, .int .i64 a0.sa, p0a, p0b] 25)).alloc (.cells #[.int .i64 a1.st, .int .i64 a1.sa, p1a, p1b] 25)).cell? ⟨(w.heap.size + 1), 0, none⟩ = some (.int .i64 a1.st) := by simp [go_sem]
  have b1_1 : ((w.alloc (.cells #[.int .i64 a0.st, .int .i64 a0.sa, p0a, p0b] 25)).alloc (.cells #[.int .i64 a1.st, .int .i64 a1.sa, p1a, p1b] 25)).cell? ⟨(w.heap.size + 1), 1, none⟩ = some (.int .i64 a1.sa) := by simp [go_sem]
  have b1_2 : ((w.alloc (.cells #[.int .i64 a0.st, .int .i64 a0.sa, p0a, p0b] 25)).alloc (.cells #[.int .i64 a1.st, .int .i64 a1.sa, p1a, p1b] 25)).cell? ⟨(w.heap.size + 1), 2, none⟩ = some (p1a) := by simp [go_sem]
  have b1_3 : ((w.alloc (.cells #[.int .i64 a0.st, .int .i64 a0.sa, p0a, p0b] 25)).alloc (.cells #[.int .i64 a1.st, .int .i64 a1.sa, p1a, p1b] 25)).cell? ⟨(w.heap.size + 1), 3, none⟩ = some (p1b) := by simp [go_sem]
  have m1_0 := inI_below im1 hbx
  have m1_1 := inT_below jm1 hbx
  have HBX : Hid (∀ w', Below ((w.alloc (.cells #[.int .i64 a0.st, .int .i64 a0.sa, p0a, p0b] 25)).alloc (.cells #[.int .i64 a1.st, .int .i64 a1.sa, p1a, p1b] 25)).heap.size ((w.alloc (.cells #[.int .i64 a0.st, .int .i64 a0.sa, p0a, p0b] 25)).alloc (.cells #[.int .i64 a1.st, .int .i64 a1.sa, p1a, p1b] 25)) w' → Below w.heap.size w w') := fun w' h => (below_box (below_box h))
  clear hbx im0 jm0 im1 jm1
  go_enter Try.func7, Try.ntmps7
  go_wp2_with fail
  refine (l_szAutoT _ _ a0 1048576 _ (by omega) m0_0 m0_1 h0b.1 h0b.2 h0c).mono ?_
  rintro e w1 ⟨hb1, rfl | ⟨q1, rfl, hq1, hs0, ht0⟩⟩
  · have hbb := HBX.out _ hb1
    clear hb1 b0_0 b0_1 b0_2 b0_3 m0_0 m0_1 b1_0 b1_1 b1_2 b1_3 m1_0 m1_1 
    go_wp2
    go_ret
    exact ⟨rfl, hbb⟩
  have B1 := hb1
  clear hb1
  have HSM0 := Lib.hid hs0
  clear hs0
  have HTS0 := Lib.hid ht0
  clear ht0
  have c1_0 := cell_later B1 b1_0
  have c1_1 := cell_later B1 b1_1
  have c1_2 := cell_later B1 b1_2
  have c1_3 := cell_later B1 b1_3
  have k1_0 := inI_below m1_0 B1
  have k1_1 := inT_below m1_1 B1
  go_wp2_with fail
  refine (l_szAutoT _ _ a1 q1 _ hq1 k1_0 k1_1 h1b.1 h1b.2 h1c).mono ?_
  rintro e w2 ⟨hb2, rfl | ⟨q2, rfl, hq2, hs1, ht1⟩⟩
  · have hbb := HBX.out _ (B1.trans (hb2.mono B1.size))
    clear hb2 b0_0 b0_1 b0_2 b0_3 m0_0 m0_1 b1_0 b1_1 b1_2 b1_3 m1_0 m1_1 B1
    clear c1_0 c1_1 c1_2 c1_3 k1_0 k1_1
    go_wp2
    go_ret
    exact ⟨rfl, hbb⟩
  clear c1_0 c1_1 c1_2 c1_3 k1_0 k1_1
  have B2 := B1.trans (hb2.mono B1.size)
  clear hb2 B1
  have HSM1 := Lib.hid hs1
  clear hs1
  have HTS1 := Lib.hid ht1
  clear ht1
  clear h0b h0c h1b h1c
  have HRS := Lib.hid (boR_sm a0 a1)
  have BZ := B2
  clear B2
  have c0_0 := cell_later BZ b0_0
  have c0_1 := cell_later BZ b0_1
  have c0_2 := cell_later BZ b0_2
  have c0_3 := cell_later BZ b0_3
  have k0_0 := inI_below m0_0 BZ
  have k0_1 := inT_below m0_1 BZ
  have c1_0 := cell_later BZ b1_0
  have c1_1 := cell_later BZ b1_1
  have c1_2 := cell_later BZ b1_2
  have c1_3 := cell_later BZ b1_3
  have k1_0 := inI_below m1_0 BZ
  have k1_1 := inT_below m1_1 BZ
  go_wp2
  have HSS0 : ∀ w', Below w2.heap.size w2 w' → (Below w2.heap.size w2 w' ∧ w'.cell? ⟨w.heap.size, 0, none⟩ = some (.int .i64 a0.st) ∧ w'.cell? ⟨w.heap.size, 1, none⟩ = some (.int .i64 a0.sa) ∧ w'.cell? ⟨w.heap.size, 2, none⟩ = some (p0a) ∧ w'.cell? ⟨w.heap.size, 3, none⟩ = some (p0b) ∧ InI w' (p0a) a0.fi ∧ InT w' (p0b) a0.nx ∧ w'.cell? ⟨(w.heap.size + 1), 0, none⟩ = some (.int .i64 a1.st) ∧ w'.cell? ⟨(w.heap.size + 1), 1, none⟩ = some (.int .i64 a1.sa) ∧ w'.cell? ⟨(w.heap.size + 1), 2, none⟩ = some (p1a) ∧ w'.cell? ⟨(w.heap.size + 1), 3, none⟩ = some (p1b) ∧ InI w' (p1a) a1.fi ∧ InT w' (p1b) a1.nx) := fun w' h => ⟨h, cell_later h c0_0, cell_later h c0_1, cell_later h c0_2, cell_later h c0_3, inI_below k0_0 h, inT_below k0_1 h, cell_later h c1_0, cell_later h c1_1, cell_later h c1_2, cell_later h c1_3, inI_below k1_0 h, inT_below k1_1 h⟩
  apply share_both (fun bx1 wz1 uaW ucW vaW vcW vsW => Below w2.heap.size w2 wz1 ∧ (wz1.cell? ⟨bx1, 0, none⟩ = some (.int .i64 (boR a0 a1).st) ∧ wz1.cell? ⟨bx1, 1, none⟩ = some (.int .i64 (boR a0 a1).sa) ∧ wz1.cell? ⟨bx1, 2, none⟩ = some (.slice uaW (boR a0 a1).fi.length ucW) ∧ wz1.cell? ⟨bx1, 3, none⟩ = some (.slice vaW (boR a0 a1).nx.length vcW)) ∧ AuR 0 wz1 (.slice uaW (boR a0 a1).fi.length ucW) (.slice vaW (boR a0 a1).nx.length vcW) vsW (boR a0 a1))
  · intro REST0
    have REST := Lib.hid REST0
    clear REST0
    go_region_held3 (fun w' => Below w2.heap.size w2 w' ∧ w'.cell? ⟨w.heap.size, 0, none⟩ = some (.int .i64 a0.st) ∧ w'.cell? ⟨w.heap.size, 1, none⟩ = some (.int .i64 a0.sa) ∧ w'.cell? ⟨w.heap.size, 2, none⟩ = some (p0a) ∧ w'.cell? ⟨w.heap.size, 3, none⟩ = some (p0b) ∧ InI w' (p0a) a0.fi ∧ InT w' (p0b) a0.nx ∧ w'.cell? ⟨(w.heap.size + 1), 0, none⟩ = some (.int .i64 a1.st) ∧ w'.cell? ⟨(w.heap.size + 1), 1, none⟩ = some (.int .i64 a1.sa) ∧ w'.cell? ⟨(w.heap.size + 1), 2, none⟩ = some (p1a) ∧ w'.cell? ⟨(w.heap.size + 1), 3, none⟩ = some (p1b) ∧ InI w' (p1a) a1.fi ∧ InT w' (p1b) a1.nx) ((exact HSS0 _ (by (repeat (first | exact Below.refl _ _ | apply Below.drew | apply bl_alloc | apply bl_set | (refine bl_tr ?_ hTS) | (refine bl_tr ?_ hT1) | (refine bl_tr ?_ hT0))); done))) (first | (go_at_call 19; with_reducible refine (l_toAuto2 _ _ a0 _ HSM0.out (by first | assumption | (go_split_ands; assumption)) (by first | assumption | (go_split_ands; assumption))).mono ?_; rintro e wT10 ⟨s0a, s0b, rfl, sf0a, sf0b, hT0⟩) | (go_at_call 19; with_reducible refine (l_toAuto2 _ _ a1 _ HSM1.out (by first | assumption | (go_split_ands; assumption)) (by first | assumption | (go_split_ands; assumption))).mono ?_; rintro e wT11 ⟨s1a, s1b, rfl, sf1a, sf1b, hT1⟩) | (go_at_call 33; with_reducible refine (s_BothAuto _ _ _ _ a0 a1 _ HSM0.out HSM1.out (inI_below sf0a (by (repeat (first | exact Below.refl _ _ | apply Below.drew | apply bl_alloc | apply bl_set | (refine bl_tr ?_ hTS) | (refine bl_tr ?_ hT1) | (refine bl_tr ?_ hT0))); done)) (inT_below sf0b (by (repeat (first | exact Below.refl _ _ | apply Below.drew | apply bl_alloc | apply bl_set | (refine bl_tr ?_ hTS) | (refine bl_tr ?_ hT1) | (refine bl_tr ?_ hT0))); done)) (inI_below sf1a (by (repeat (first | exact Below.refl _ _ | apply Below.drew | apply bl_alloc | apply bl_set | (refine bl_tr ?_ hTS) | (refine bl_tr ?_ hT1) | (refine bl_tr ?_ hT0))); done)) (inT_below sf1b (by (repeat (first | exact Below.refl _ _ | apply Below.drew | apply bl_alloc | apply bl_set | (refine bl_tr ?_ hTS) | (refine bl_tr ?_ hT1) | (refine bl_tr ?_ hT0))); done))  ).mono ?_; rintro e wS1 ⟨uW, vW, vsW, rfl, WR, hTS⟩; refine bl_hv (P := Below (wT11.alloc (.cells #[.int .i64 0, .int .i64 0, .slice none 0 0, .slice none 0 0] 28)).heap.size (wT11.alloc (.cells #[.int .i64 0, .int .i64 0, .slice none 0 0, .slice none 0 0] 28)) wS1) ?_ (fun hLB => ?_); (focus ((repeat (first | exact Below.refl _ _ | apply Below.drew | apply bl_alloc | apply bl_set | (refine bl_tr ?_ hTS) | (refine bl_tr ?_ hT1) | (refine bl_tr ?_ hT0))); done)); have y0 : wS1.cell? ⟨wT11.heap.size, 0, none⟩ = some (.int .i64 0) := cell_later hLB (by simp [go_sem]); have y1 : wS1.cell? ⟨wT11.heap.size, 1, none⟩ = some (.int .i64 0) := cell_later hLB (by simp [go_sem]); have y2 : wS1.cell? ⟨wT11.heap.size, 2, none⟩ = some (.slice none 0 0) := cell_later hLB (by simp [go_sem]); have y3 : wS1.cell? ⟨wT11.heap.size, 3, none⟩ = some (.slice none 0 0) := cell_later hLB (by simp [go_sem]); have fy : ∀ j, wS1.frozen? ⟨wT11.heap.size, j, none⟩ = false := (fun j => by rw [hLB.frozen (by simp)]; simp [go_sem]); have hWR := auR_weak (base' := wT11.heap.size + 1) WR (Nat.le_trans (by simp : wT11.heap.size + 1 ≤ (wT11.alloc (.cells #[.int .i64 0, .int .i64 0, .slice none 0 0, .slice none 0 0] 28)).heap.size) (bl_size (w := (wT11.alloc (.cells #[.int .i64 0, .int .i64 0, .slice none 0 0, .slice none 0 0] 28))) (by (repeat (first | exact Below.refl _ _ | apply Below.drew | apply bl_alloc | apply bl_set | (refine bl_tr ?_ hTS) | (refine bl_tr ?_ hT1) | (refine bl_tr ?_ hT0))); done))); clear WR; have WR := hWR; clear hWR hLB; obtain ⟨bb, hbb⟩ : ∃ b, b = wT11.heap.size := ⟨_, rfl⟩; obtain ⟨uaW, ucW, rfl⟩ := inI_sl (auR_inI WR); obtain ⟨vaW, vcW, rfl⟩ := inT_sl (auR_inT WR)) | (go_at_call 33; with_reducible refine (s_BothAuto _ _ _ _ a0 a1 _ HSM0.out HSM1.out (inI_below sf0a (by (repeat (first | exact Below.refl _ _ | apply Below.drew | apply bl_alloc | apply bl_set | (refine bl_tr ?_ hTS) | (refine bl_tr ?_ hT1) | (refine bl_tr ?_ hT0))); done)) (inT_below sf0b (by (repeat (first | exact Below.refl _ _ | apply Below.drew | apply bl_alloc | apply bl_set | (refine bl_tr ?_ hTS) | (refine bl_tr ?_ hT1) | (refine bl_tr ?_ hT0))); done)) (inI_below sf1a (by (repeat (first | exact Below.refl _ _ | apply Below.drew | apply bl_alloc | apply bl_set | (refine bl_tr ?_ hTS) | (refine bl_tr ?_ hT1) | (refine bl_tr ?_ hT0))); done)) (inT_below sf1b (by (repeat (first | exact Below.refl _ _ | apply Below.drew | apply bl_alloc | apply bl_set | (refine bl_tr ?_ hTS) | (refine bl_tr ?_ hT1) | (refine bl_tr ?_ hT0))); done))  ).mono ?_; rintro e wS1 ⟨uW, vW, vsW, rfl, WR, hTS⟩; refine bl_hv (P := Below (wT11.drew.alloc (.cells #[.int .i64 0, .int .i64 0, .slice none 0 0, .slice none 0 0] 28)).heap.size (wT11.drew.alloc (.cells #[.int .i64 0, .int .i64 0, .slice none 0 0, .slice none 0 0] 28)) wS1) ?_ (fun hLB => ?_); (focus ((repeat (first | exact Below.refl _ _ | apply Below.drew | apply bl_alloc | apply bl_set | (refine bl_tr ?_ hTS) | (refine bl_tr ?_ hT1) | (refine bl_tr ?_ hT0))); done)); have y0 : wS1.cell? ⟨wT11.heap.size, 0, none⟩ = some (.int .i64 0) := cell_later hLB (by simp [go_sem]); have y1 : wS1.cell? ⟨wT11.heap.size, 1, none⟩ = some (.int .i64 0) := cell_later hLB (by simp [go_sem]); have y2 : wS1.cell? ⟨wT11.heap.size, 2, none⟩ = some (.slice none 0 0) := cell_later hLB (by simp [go_sem]); have y3 : wS1.cell? ⟨wT11.heap.size, 3, none⟩ = some (.slice none 0 0) := cell_later hLB (by simp [go_sem]); have fy : ∀ j, wS1.frozen? ⟨wT11.heap.size, j, none⟩ = false := (fun j => by rw [hLB.frozen (by simp)]; simp [go_sem]); have hWR := auR_weak (base' := wT11.heap.size + 1) WR (Nat.le_trans (by simp : wT11.heap.size + 1 ≤ (wT11.drew.alloc (.cells #[.int .i64 0, .int .i64 0, .slice none 0 0, .slice none 0 0] 28)).heap.size) (bl_size (w := (wT11.drew.alloc (.cells #[.int .i64 0, .int .i64 0, .slice none 0 0, .slice none 0 0] 28))) (by (repeat (first | exact Below.refl _ _ | apply Below.drew | apply bl_alloc | apply bl_set | (refine bl_tr ?_ hTS) | (refine bl_tr ?_ hT1) | (refine bl_tr ?_ hT0))); done))); clear WR; have WR := hWR; clear hWR hLB; obtain ⟨bb, hbb⟩ : ∃ b, b = wT11.heap.size := ⟨_, rfl⟩; obtain ⟨uaW, ucW, rfl⟩ := inI_sl (auR_inI WR); obtain ⟨vaW, vcW, rfl⟩ := inT_sl (auR_inT WR)) | (go_at_call 33; with_reducible refine (s_BothAuto _ _ _ _ a0 a1 _ HSM0.out HSM1.out (inI_below sf0a (by (repeat (first | exact Below.refl _ _ | apply Below.drew | apply bl_alloc | apply bl_set | (refine bl_tr ?_ hTS) | (refine bl_tr ?_ hT1) | (refine bl_tr ?_ hT0))); done)) (inT_below sf0b (by (repeat (first | exact Below.refl _ _ | apply Below.drew | apply bl_alloc | apply bl_set | (refine bl_tr ?_ hTS) | (refine bl_tr ?_ hT1) | (refine bl_tr ?_ hT0))); done)) (inI_below sf1a (by (repeat (first | exact Below.refl _ _ | apply Below.drew | apply bl_alloc | apply bl_set | (refine bl_tr ?_ hTS) | (refine bl_tr ?_ hT1) | (refine bl_tr ?_ hT0))); done)) (inT_below sf1b (by (repeat (first | exact Below.refl _ _ | apply Below.drew | apply bl_alloc | apply bl_set | (refine bl_tr ?_ hTS) | (refine bl_tr ?_ hT1) | (refine bl_tr ?_ hT0))); done))  ).mono ?_; rintro e wS1 ⟨uW, vW, vsW, rfl, WR, hTS⟩; refine bl_hv (P := Below (wT10.alloc (.cells #[.int .i64 0, .int .i64 0, .slice none 0 0, .slice none 0 0] 28)).heap.size (wT10.alloc (.cells #[.int .i64 0, .int .i64 0, .slice none 0 0, .slice none 0 0] 28)) wS1) ?_ (fun hLB => ?_); (focus ((repeat (first | exact Below.refl _ _ | apply Below.drew | apply bl_alloc | apply bl_set | (refine bl_tr ?_ hTS) | (refine bl_tr ?_ hT1) | (refine bl_tr ?_ hT0))); done)); have y0 : wS1.cell? ⟨wT10.heap.size, 0, none⟩ = some (.int .i64 0) := cell_later hLB (by simp [go_sem]); have y1 : wS1.cell? ⟨wT10.heap.size, 1, none⟩ = some (.int .i64 0) := cell_later hLB (by simp [go_sem]); have y2 : wS1.cell? ⟨wT10.heap.size, 2, none⟩ = some (.slice none 0 0) := cell_later hLB (by simp [go_sem]); have y3 : wS1.cell? ⟨wT10.heap.size, 3, none⟩ = some (.slice none 0 0) := cell_later hLB (by simp [go_sem]); have fy : ∀ j, wS1.frozen? ⟨wT10.heap.size, j, none⟩ = false := (fun j => by rw [hLB.frozen (by simp)]; simp [go_sem]); have hWR := auR_weak (base' := wT10.heap.size + 1) WR (Nat.le_trans (by simp : wT10.heap.size + 1 ≤ (wT10.alloc (.cells #[.int .i64 0, .int .i64 0, .slice none 0 0, .slice none 0 0] 28)).heap.size) (bl_size (w := (wT10.alloc (.cells #[.int .i64 0, .int .i64 0, .slice none 0 0, .slice none 0 0] 28))) (by (repeat (first | exact Below.refl _ _ | apply Below.drew | apply bl_alloc | apply bl_set | (refine bl_tr ?_ hTS) | (refine bl_tr ?_ hT1) | (refine bl_tr ?_ hT0))); done))); clear WR; have WR := hWR; clear hWR hLB; obtain ⟨bb, hbb⟩ : ∃ b, b = wT10.heap.size := ⟨_, rfl⟩; obtain ⟨uaW, ucW, rfl⟩ := inI_sl (auR_inI WR); obtain ⟨vaW, vcW, rfl⟩ := inT_sl (auR_inT WR)) | (go_at_call 33; with_reducible refine (s_BothAuto _ _ _ _ a0 a1 _ HSM0.out HSM1.out (inI_below sf0a (by (repeat (first | exact Below.refl _ _ | apply Below.drew | apply bl_alloc | apply bl_set | (refine bl_tr ?_ hTS) | (refine bl_tr ?_ hT1) | (refine bl_tr ?_ hT0))); done)) (inT_below sf0b (by (repeat (first | exact Below.refl _ _ | apply Below.drew | apply bl_alloc | apply bl_set | (refine bl_tr ?_ hTS) | (refine bl_tr ?_ hT1) | (refine bl_tr ?_ hT0))); done)) (inI_below sf1a (by (repeat (first | exact Below.refl _ _ | apply Below.drew | apply bl_alloc | apply bl_set | (refine bl_tr ?_ hTS) | (refine bl_tr ?_ hT1) | (refine bl_tr ?_ hT0))); done)) (inT_below sf1b (by (repeat (first | exact Below.refl _ _ | apply Below.drew | apply bl_alloc | apply bl_set | (refine bl_tr ?_ hTS) | (refine bl_tr ?_ hT1) | (refine bl_tr ?_ hT0))); done))  ).mono ?_; rintro e wS1 ⟨uW, vW, vsW, rfl, WR, hTS⟩; refine bl_hv (P := Below (wT10.drew.alloc (.cells #[.int .i64 0, .int .i64 0, .slice none 0 0, .slice none 0 0] 28)).heap.size (wT10.drew.alloc (.cells #[.int .i64 0, .int .i64 0, .slice none 0 0, .slice none 0 0] 28)) wS1) ?_ (fun hLB => ?_); (focus ((repeat (first | exact Below.refl _ _ | apply Below.drew | apply bl_alloc | apply bl_set | (refine bl_tr ?_ hTS) | (refine bl_tr ?_ hT1) | (refine bl_tr ?_ hT0))); done)); have y0 : wS1.cell? ⟨wT10.heap.size, 0, none⟩ = some (.int .i64 0) := cell_later hLB (by simp [go_sem]); have y1 : wS1.cell? ⟨wT10.heap.size, 1, none⟩ = some (.int .i64 0) := cell_later hLB (by simp [go_sem]); have y2 : wS1.cell? ⟨wT10.heap.size, 2, none⟩ = some (.slice none 0 0) := cell_later hLB (by simp [go_sem]); have y3 : wS1.cell? ⟨wT10.heap.size, 3, none⟩ = some (.slice none 0 0) := cell_later hLB (by simp [go_sem]); have fy : ∀ j, wS1.frozen? ⟨wT10.heap.size, j, none⟩ = false := (fun j => by rw [hLB.frozen (by simp)]; simp [go_sem]); have hWR := auR_weak (base' := wT10.heap.size + 1) WR (Nat.le_trans (by simp : wT10.heap.size + 1 ≤ (wT10.drew.alloc (.cells #[.int .i64 0, .int .i64 0, .slice none 0 0, .slice none 0 0] 28)).heap.size) (bl_size (w := (wT10.drew.alloc (.cells #[.int .i64 0, .int .i64 0, .slice none 0 0, .slice none 0 0] 28))) (by (repeat (first | exact Below.refl _ _ | apply Below.drew | apply bl_alloc | apply bl_set | (refine bl_tr ?_ hTS) | (refine bl_tr ?_ hT1) | (refine bl_tr ?_ hT0))); done))); clear WR; have WR := hWR; clear hWR hLB; obtain ⟨bb, hbb⟩ : ∃ b, b = wT10.heap.size := ⟨_, rfl⟩; obtain ⟨uaW, ucW, rfl⟩ := inI_sl (auR_inI WR); obtain ⟨vaW, vcW, rfl⟩ := inT_sl (auR_inT WR)) | (go_at_call 33; with_reducible refine (s_BothAuto _ _ _ _ a0 a1 _ HSM0.out HSM1.out (inI_below sf0a (by (repeat (first | exact Below.refl _ _ | apply Below.drew | apply bl_alloc | apply bl_set | (refine bl_tr ?_ hTS) | (refine bl_tr ?_ hT1) | (refine bl_tr ?_ hT0))); done)) (inT_below sf0b (by (repeat (first | exact Below.refl _ _ | apply Below.drew | apply bl_alloc | apply bl_set | (refine bl_tr ?_ hTS) | (refine bl_tr ?_ hT1) | (refine bl_tr ?_ hT0))); done)) (inI_below sf1a (by (repeat (first | exact Below.refl _ _ | apply Below.drew | apply bl_alloc | apply bl_set | (refine bl_tr ?_ hTS) | (refine bl_tr ?_ hT1) | (refine bl_tr ?_ hT0))); done)) (inT_below sf1b (by (repeat (first | exact Below.refl _ _ | apply Below.drew | apply bl_alloc | apply bl_set | (refine bl_tr ?_ hTS) | (refine bl_tr ?_ hT1) | (refine bl_tr ?_ hT0))); done))  ).mono ?_; rintro e wS1 ⟨uW, vW, vsW, rfl, WR, hTS⟩; refine bl_hv (P := Below (w2.alloc (.cells #[.int .i64 0, .int .i64 0, .slice none 0 0, .slice none 0 0] 28)).heap.size (w2.alloc (.cells #[.int .i64 0, .int .i64 0, .slice none 0 0, .slice none 0 0] 28)) wS1) ?_ (fun hLB => ?_); (focus ((repeat (first | exact Below.refl _ _ | apply Below.drew | apply bl_alloc | apply bl_set | (refine bl_tr ?_ hTS) | (refine bl_tr ?_ hT1) | (refine bl_tr ?_ hT0))); done)); have y0 : wS1.cell? ⟨w2.heap.size, 0, none⟩ = some (.int .i64 0) := cell_later hLB (by simp [go_sem]); have y1 : wS1.cell? ⟨w2.heap.size, 1, none⟩ = some (.int .i64 0) := cell_later hLB (by simp [go_sem]); have y2 : wS1.cell? ⟨w2.heap.size, 2, none⟩ = some (.slice none 0 0) := cell_later hLB (by simp [go_sem]); have y3 : wS1.cell? ⟨w2.heap.size, 3, none⟩ = some (.slice none 0 0) := cell_later hLB (by simp [go_sem]); have fy : ∀ j, wS1.frozen? ⟨w2.heap.size, j, none⟩ = false := (fun j => by rw [hLB.frozen (by simp)]; simp [go_sem]); have hWR := auR_weak (base' := w2.heap.size + 1) WR (Nat.le_trans (by simp : w2.heap.size + 1 ≤ (w2.alloc (.cells #[.int .i64 0, .int .i64 0, .slice none 0 0, .slice none 0 0] 28)).heap.size) (bl_size (w := (w2.alloc (.cells #[.int .i64 0, .int .i64 0, .slice none 0 0, .slice none 0 0] 28))) (by (repeat (first | exact Below.refl _ _ | apply Below.drew | apply bl_alloc | apply bl_set | (refine bl_tr ?_ hTS) | (refine bl_tr ?_ hT1) | (refine bl_tr ?_ hT0))); done))); clear WR; have WR := hWR; clear hWR hLB; obtain ⟨bb, hbb⟩ : ∃ b, b = w2.heap.size := ⟨_, rfl⟩; obtain ⟨uaW, ucW, rfl⟩ := inI_sl (auR_inI WR); obtain ⟨vaW, vcW, rfl⟩ := inT_sl (auR_inT WR)) | (go_at_call 33; with_reducible refine (s_BothAuto _ _ _ _ a0 a1 _ HSM0.out HSM1.out (inI_below sf0a (by (repeat (first | exact Below.refl _ _ | apply Below.drew | apply bl_alloc | apply bl_set | (refine bl_tr ?_ hTS) | (refine bl_tr ?_ hT1) | (refine bl_tr ?_ hT0))); done)) (inT_below sf0b (by (repeat (first | exact Below.refl _ _ | apply Below.drew | apply bl_alloc | apply bl_set | (refine bl_tr ?_ hTS) | (refine bl_tr ?_ hT1) | (refine bl_tr ?_ hT0))); done)) (inI_below sf1a (by (repeat (first | exact Below.refl _ _ | apply Below.drew | apply bl_alloc | apply bl_set | (refine bl_tr ?_ hTS) | (refine bl_tr ?_ hT1) | (refine bl_tr ?_ hT0))); done)) (inT_below sf1b (by (repeat (first | exact Below.refl _ _ | apply Below.drew | apply bl_alloc | apply bl_set | (refine bl_tr ?_ hTS) | (refine bl_tr ?_ hT1) | (refine bl_tr ?_ hT0))); done))  ).mono ?_; rintro e wS1 ⟨uW, vW, vsW, rfl, WR, hTS⟩; refine bl_hv (P := Below (w2.drew.alloc (.cells #[.int .i64 0, .int .i64 0, .slice none 0 0, .slice none 0 0] 28)).heap.size (w2.drew.alloc (.cells #[.int .i64 0, .int .i64 0, .slice none 0 0, .slice none 0 0] 28)) wS1) ?_ (fun hLB => ?_); (focus ((repeat (first | exact Below.refl _ _ | apply Below.drew | apply bl_alloc | apply bl_set | (refine bl_tr ?_ hTS) | (refine bl_tr ?_ hT1) | (refine bl_tr ?_ hT0))); done)); have y0 : wS1.cell? ⟨w2.heap.size, 0, none⟩ = some (.int .i64 0) := cell_later hLB (by simp [go_sem]); have y1 : wS1.cell? ⟨w2.heap.size, 1, none⟩ = some (.int .i64 0) := cell_later hLB (by simp [go_sem]); have y2 : wS1.cell? ⟨w2.heap.size, 2, none⟩ = some (.slice none 0 0) := cell_later hLB (by simp [go_sem]); have y3 : wS1.cell? ⟨w2.heap.size, 3, none⟩ = some (.slice none 0 0) := cell_later hLB (by simp [go_sem]); have fy : ∀ j, wS1.frozen? ⟨w2.heap.size, j, none⟩ = false := (fun j => by rw [hLB.frozen (by simp)]; simp [go_sem]); have hWR := auR_weak (base' := w2.heap.size + 1) WR (Nat.le_trans (by simp : w2.heap.size + 1 ≤ (w2.drew.alloc (.cells #[.int .i64 0, .int .i64 0, .slice none 0 0, .slice none 0 0] 28)).heap.size) (bl_size (w := (w2.drew.alloc (.cells #[.int .i64 0, .int .i64 0, .slice none 0 0, .slice none 0 0] 28))) (by (repeat (first | exact Below.refl _ _ | apply Below.drew | apply bl_alloc | apply bl_set | (refine bl_tr ?_ hTS) | (refine bl_tr ?_ hT1) | (refine bl_tr ?_ hT0))); done))); clear WR; have WR := hWR; clear hWR hLB; obtain ⟨bb, hbb⟩ : ∃ b, b = w2.heap.size := ⟨_, rfl⟩; obtain ⟨uaW, ucW, rfl⟩ := inI_sl (auR_inI WR); obtain ⟨vaW, vcW, rfl⟩ := inT_sl (auR_inT WR)) | (go_at_call 33; with_reducible refine (s_BothAuto _ _ _ _ a0 a1 _ HSM0.out HSM1.out (inI_below sf0a (by (repeat (first | exact Below.refl _ _ | apply Below.drew | apply bl_alloc | apply bl_set | (refine bl_tr ?_ hTS) | (refine bl_tr ?_ hT1) | (refine bl_tr ?_ hT0))); done)) (inT_below sf0b (by (repeat (first | exact Below.refl _ _ | apply Below.drew | apply bl_alloc | apply bl_set | (refine bl_tr ?_ hTS) | (refine bl_tr ?_ hT1) | (refine bl_tr ?_ hT0))); done)) (inI_below sf1a (by (repeat (first | exact Below.refl _ _ | apply Below.drew | apply bl_alloc | apply bl_set | (refine bl_tr ?_ hTS) | (refine bl_tr ?_ hT1) | (refine bl_tr ?_ hT0))); done)) (inT_below sf1b (by (repeat (first | exact Below.refl _ _ | apply Below.drew | apply bl_alloc | apply bl_set | (refine bl_tr ?_ hTS) | (refine bl_tr ?_ hT1) | (refine bl_tr ?_ hT0))); done))  ).mono ?_; rintro e wS1 ⟨uW, vW, vsW, rfl, WR, hTS⟩; obtain ⟨bb, hbb⟩ : ∃ b, b = wS1.heap.size := ⟨_, rfl⟩; obtain ⟨uaW, ucW, rfl⟩ := inI_sl (auR_inI WR); obtain ⟨vaW, vcW, rfl⟩ := inT_sl (auR_inT WR)))
    all_goals rename_i hS
    all_goals first | (have hP := put4 (.int .i64 (boR a0 a1).st) (.int .i64 (boR a0 a1).sa) (.slice uaW (boR a0 a1).fi.length ucW) (.slice vaW (boR a0 a1).nx.length vcW) y0 y1 y2 y3; rw [← hbb] at hP hS WR ⊢; refine gen_then (fun wz1 => Below w2.heap.size w2 wz1 ∧ (wz1.cell? ⟨bb, 0, none⟩ = some (.int .i64 (boR a0 a1).st) ∧ wz1.cell? ⟨bb, 1, none⟩ = some (.int .i64 (boR a0 a1).sa) ∧ wz1.cell? ⟨bb, 2, none⟩ = some (.slice uaW (boR a0 a1).fi.length ucW) ∧ wz1.cell? ⟨bb, 3, none⟩ = some (.slice vaW (boR a0 a1).nx.length vcW)) ∧ AuR 0 wz1 (.slice uaW (boR a0 a1).fi.length ucW) (.slice vaW (boR a0 a1).nx.length vcW) vsW (boR a0 a1)) ⟨hS.1, hP, auR_weak (auR_set (auR_set (auR_set (auR_set WR (Nat.lt_succ_self _)) (Nat.lt_succ_self _)) (Nat.lt_succ_self _)) (Nat.lt_succ_self _)) (Nat.zero_le _)⟩ ?_; intro wz1 hz1; exact REST.out s0a s0b s1a s1b bb wz1 uaW ucW vaW vcW vsW hz1) | (have hP := put4 (.int .i64 (boR a0 a1).st) (.int .i64 (boR a0 a1).sa) (.slice uaW (boR a0 a1).fi.length ucW) (.slice vaW (boR a0 a1).nx.length vcW) y0 y1 y2 y3; rw [← hbb] at hP hS WR ⊢; refine gen_then (fun wz1 => Below w2.heap.size w2 wz1 ∧ (wz1.cell? ⟨bb, 0, none⟩ = some (.int .i64 (boR a0 a1).st) ∧ wz1.cell? ⟨bb, 1, none⟩ = some (.int .i64 (boR a0 a1).sa) ∧ wz1.cell? ⟨bb, 2, none⟩ = some (.slice uaW (boR a0 a1).fi.length ucW) ∧ wz1.cell? ⟨bb, 3, none⟩ = some (.slice vaW (boR a0 a1).nx.length vcW)) ∧ AuR 0 wz1 (.slice uaW (boR a0 a1).fi.length ucW) (.slice vaW (boR a0 a1).nx.length vcW) vsW (boR a0 a1)) ⟨below_eq hbb hS.1, hP, auR_weak (auR_set (auR_set (auR_set (auR_set WR (Nat.lt_succ_self _)) (Nat.lt_succ_self _)) (Nat.lt_succ_self _)) (Nat.lt_succ_self _)) (Nat.zero_le _)⟩ ?_; intro wz1 hz1; exact REST.out s0a s0b s1a s1b bb wz1 uaW ucW vaW vcW vsW hz1) | (rw [← hbb]; refine gen_then (fun wz1 => Below w2.heap.size w2 wz1 ∧ (wz1.cell? ⟨bb, 0, none⟩ = some (.int .i64 (boR a0 a1).st) ∧ wz1.cell? ⟨bb, 1, none⟩ = some (.int .i64 (boR a0 a1).sa) ∧ wz1.cell? ⟨bb, 2, none⟩ = some (.slice uaW (boR a0 a1).fi.length ucW) ∧ wz1.cell? ⟨bb, 3, none⟩ = some (.slice vaW (boR a0 a1).nx.length vcW)) ∧ AuR 0 wz1 (.slice uaW (boR a0 a1).fi.length ucW) (.slice vaW (boR a0 a1).nx.length vcW) vsW (boR a0 a1)) ⟨hS.1, put4n _ (.int .i64 (boR a0 a1).st) (.int .i64 (boR a0 a1).sa) (.slice uaW (boR a0 a1).fi.length ucW) (.slice vaW (boR a0 a1).nx.length vcW) hbb, auR_weak (auR_after WR ((Below.refl _ _).alloc (Nat.le_refl _) _)) (Nat.zero_le _)⟩ ?_; intro wz1 hz1; exact REST.out s0a s0b s1a s1b bb wz1 uaW ucW vaW vcW vsW hz1)
  · intro s0a s0b s1a s1b bx1 wz1 uaW ucW vaW vcW vsW hz1
    clear c0_0 c0_1 c0_2 c0_3 k0_0 k0_1 c1_0 c1_1 c1_2 c1_3 k1_0 k1_1
    clear HSS0
    obtain ⟨hzB, ⟨hzc0, hzc1, hzc2, hzc3⟩, WR⟩ := hz1
    have BZ' := BZ.trans (hzB.mono BZ.size)
    clear BZ
    have BZ := BZ'
    clear BZ'
    clear hzB
    have HWB0 := Lib.hid hzc0
    have HWB1 := Lib.hid hzc1
    have HWB2 := Lib.hid hzc2
    have HWB3 := Lib.hid hzc3
    clear hzc0 hzc1 hzc2 hzc3
    have WI := Lib.hid (show InI _ _ _ ∧ InT _ _ _ from ⟨auR_inI WR, auR_inT WR⟩)
    clear WR
    have BW := Below.refl wz1.heap.size wz1
    have c0_0 := cell_later BZ b0_0
    have c0_1 := cell_later BZ b0_1
    have c0_2 := cell_later BZ b0_2
    have c0_3 := cell_later BZ b0_3
    have k0_0 := inI_below m0_0 BZ
    have k0_1 := inT_below m0_1 BZ
    go_wp2_with fail
    refine (l_toAuto3 _ _ a0 _ HSM0.out k0_0 k0_1).mono ?_
    rintro e w3 ⟨x0a, x0b, vx0, rfl, XF0, hb3⟩
    clear c0_0 c0_1 c0_2 c0_3 k0_0 k0_1
    have HLO_BZ_x0 := Lib.hid BZ.size
    have HLO_BW_x0 := Lib.hid BW.size
    have HXH0 := Lib.hid (auR_hi XF0)
    have BZ' := BZ.trans (hb3.mono BZ.size)
    clear BZ
    have BZ := BZ'
    clear BZ'
    have BW' := BW.trans (hb3.mono BW.size)
    clear BW
    have BW := BW'
    clear BW'
    clear hb3
    have al := (Below.refl _ w3).alloc (Nat.le_refl _) (.cells #[.int .i64 a0.st, .int .i64 a0.sa, .slice (some ⟨x0a, 0, none⟩) a0.fi.length a0.fi.length, .slice (some ⟨x0b, 0, none⟩) a0.nx.length a0.nx.length] 28)
    have XB0 := Below.refl w3.heap.size w3
    have XF0' := auR_after XF0 al
    clear XF0
    have XF0 := XF0'
    clear XF0'
    have BZ' := BZ.alloc BZ.size (.cells #[.int .i64 a0.st, .int .i64 a0.sa, .slice (some ⟨x0a, 0, none⟩) a0.fi.length a0.fi.length, .slice (some ⟨x0b, 0, none⟩) a0.nx.length a0.nx.length] 28)
    clear BZ
    have BZ := BZ'
    clear BZ'
    have BW' := BW.alloc BW.size (.cells #[.int .i64 a0.st, .int .i64 a0.sa, .slice (some ⟨x0a, 0, none⟩) a0.fi.length a0.fi.length, .slice (some ⟨x0b, 0, none⟩) a0.nx.length a0.nx.length] 28)
    clear BW
    have BW := BW'
    clear BW'
    have XB0' := XB0.alloc XB0.size (.cells #[.int .i64 a0.st, .int .i64 a0.sa, .slice (some ⟨x0a, 0, none⟩) a0.fi.length a0.fi.length, .slice (some ⟨x0b, 0, none⟩) a0.nx.length a0.nx.length] 28)
    clear XB0
    have XB0 := XB0'
    clear XB0'
    clear al
    have z0_0 : (w3.alloc (.cells #[.int .i64 a0.st, .int .i64 a0.sa, .slice (some ⟨x0a, 0, none⟩) a0.fi.length a0.fi.length, .slice (some ⟨x0b, 0, none⟩) a0.nx.length a0.nx.length] 28)).cell? ⟨w3.heap.size, 0, none⟩ = some (.int .i64 a0.st) := by simp [go_sem]
    have z0_1 : (w3.alloc (.cells #[.int .i64 a0.st, .int .i64 a0.sa, .slice (some ⟨x0a, 0, none⟩) a0.fi.length a0.fi.length, .slice (some ⟨x0b, 0, none⟩) a0.nx.length a0.nx.length] 28)).cell? ⟨w3.heap.size, 1, none⟩ = some (.int .i64 a0.sa) := by simp [go_sem]
    have z0_2 : (w3.alloc (.cells #[.int .i64 a0.st, .int .i64 a0.sa, .slice (some ⟨x0a, 0, none⟩) a0.fi.length a0.fi.length, .slice (some ⟨x0b, 0, none⟩) a0.nx.length a0.nx.length] 28)).cell? ⟨w3.heap.size, 2, none⟩ = some (.slice (some ⟨x0a, 0, none⟩) a0.fi.length a0.fi.length) := by simp [go_sem]
    have z0_3 : (w3.alloc (.cells #[.int .i64 a0.st, .int .i64 a0.sa, .slice (some ⟨x0a, 0, none⟩) a0.fi.length a0.fi.length, .slice (some ⟨x0b, 0, none⟩) a0.nx.length a0.nx.length] 28)).cell? ⟨w3.heap.size, 3, none⟩ = some (.slice (some ⟨x0b, 0, none⟩) a0.nx.length a0.nx.length) := by simp [go_sem]
    have xf0a := auR_inI XF0
    have xf0b := auR_inT XF0
    have c1_0 := cell_later BZ b1_0
    have c1_1 := cell_later BZ b1_1
    have c1_2 := cell_later BZ b1_2
    have c1_3 := cell_later BZ b1_3
    have k1_0 := inI_below m1_0 BZ
    have k1_1 := inT_below m1_1 BZ
    go_wp2_with fail
    refine (l_toAuto3 _ _ a1 _ HSM1.out k1_0 k1_1).mono ?_
    rintro e w4 ⟨x1a, x1b, vx1, rfl, XF1, hb4⟩
    clear c1_0 c1_1 c1_2 c1_3 k1_0 k1_1
    have HLO_BZ_x1 := Lib.hid BZ.size
    have HLO_BW_x1 := Lib.hid BW.size
    have HLO_XB0_x1 := Lib.hid XB0.size
    have HXH1 := Lib.hid (auR_hi XF1)
    have XF0' := auR_after XF0 hb4
    clear XF0
    have XF0 := XF0'
    clear XF0'
    have z0_0' := cell_later hb4 z0_0
    clear z0_0
    have z0_0 := z0_0'
    clear z0_0'
    have z0_1' := cell_later hb4 z0_1
    clear z0_1
    have z0_1 := z0_1'
    clear z0_1'
    have z0_2' := cell_later hb4 z0_2
    clear z0_2
    have z0_2 := z0_2'
    clear z0_2'
    have z0_3' := cell_later hb4 z0_3
    clear z0_3
    have z0_3 := z0_3'
    clear z0_3'
    have xf0a' := inI_below xf0a hb4
    clear xf0a
    have xf0a := xf0a'
    clear xf0a'
    have xf0b' := inT_below xf0b hb4
    clear xf0b
    have xf0b := xf0b'
    clear xf0b'
    have BZ' := BZ.trans (hb4.mono BZ.size)
    clear BZ
    have BZ := BZ'
    clear BZ'
    have BW' := BW.trans (hb4.mono BW.size)
    clear BW
    have BW := BW'
    clear BW'
    have XB0' := XB0.trans (hb4.mono XB0.size)
    clear XB0
    have XB0 := XB0'
    clear XB0'
    clear hb4
    have HXX_XB0_x1 := Lib.hid XB0.size
    have al := (Below.refl _ w4).alloc (Nat.le_refl _) (.cells #[.int .i64 a1.st, .int .i64 a1.sa, .slice (some ⟨x1a, 0, none⟩) a1.fi.length a1.fi.length, .slice (some ⟨x1b, 0, none⟩) a1.nx.length a1.nx.length] 28)
    have XB1 := Below.refl w4.heap.size w4
    have XF0' := auR_after XF0 al
    clear XF0
    have XF0 := XF0'
    clear XF0'
    have z0_0' := cell_later al z0_0
    clear z0_0
    have z0_0 := z0_0'
    clear z0_0'
    have z0_1' := cell_later al z0_1
    clear z0_1
    have z0_1 := z0_1'
    clear z0_1'
    have z0_2' := cell_later al z0_2
    clear z0_2
    have z0_2 := z0_2'
    clear z0_2'
    have z0_3' := cell_later al z0_3
    clear z0_3
    have z0_3 := z0_3'
    clear z0_3'
    have xf0a' := inI_below xf0a al
    clear xf0a
    have xf0a := xf0a'
    clear xf0a'
    have xf0b' := inT_below xf0b al
    clear xf0b
    have xf0b := xf0b'
    clear xf0b'
    have XF1' := auR_after XF1 al
    clear XF1
    have XF1 := XF1'
    clear XF1'
    have BZ' := BZ.alloc BZ.size (.cells #[.int .i64 a1.st, .int .i64 a1.sa, .slice (some ⟨x1a, 0, none⟩) a1.fi.length a1.fi.length, .slice (some ⟨x1b, 0, none⟩) a1.nx.length a1.nx.length] 28)
    clear BZ
    have BZ := BZ'
    clear BZ'
    have BW' := BW.alloc BW.size (.cells #[.int .i64 a1.st, .int .i64 a1.sa, .slice (some ⟨x1a, 0, none⟩) a1.fi.length a1.fi.length, .slice (some ⟨x1b, 0, none⟩) a1.nx.length a1.nx.length] 28)
    clear BW
    have BW := BW'
    clear BW'
    have XB0' := XB0.alloc XB0.size (.cells #[.int .i64 a1.st, .int .i64 a1.sa, .slice (some ⟨x1a, 0, none⟩) a1.fi.length a1.fi.length, .slice (some ⟨x1b, 0, none⟩) a1.nx.length a1.nx.length] 28)
    clear XB0
    have XB0 := XB0'
    clear XB0'
    have XB1' := XB1.alloc XB1.size (.cells #[.int .i64 a1.st, .int .i64 a1.sa, .slice (some ⟨x1a, 0, none⟩) a1.fi.length a1.fi.length, .slice (some ⟨x1b, 0, none⟩) a1.nx.length a1.nx.length] 28)
    clear XB1
    have XB1 := XB1'
    clear XB1'
    clear al
    have z1_0 : (w4.alloc (.cells #[.int .i64 a1.st, .int .i64 a1.sa, .slice (some ⟨x1a, 0, none⟩) a1.fi.length a1.fi.length, .slice (some ⟨x1b, 0, none⟩) a1.nx.length a1.nx.length] 28)).cell? ⟨w4.heap.size, 0, none⟩ = some (.int .i64 a1.st) := by simp [go_sem]
    have z1_1 : (w4.alloc (.cells #[.int .i64 a1.st, .int .i64 a1.sa, .slice (some ⟨x1a, 0, none⟩) a1.fi.length a1.fi.length, .slice (some ⟨x1b, 0, none⟩) a1.nx.length a1.nx.length] 28)).cell? ⟨w4.heap.size, 1, none⟩ = some (.int .i64 a1.sa) := by simp [go_sem]
    have z1_2 : (w4.alloc (.cells #[.int .i64 a1.st, .int .i64 a1.sa, .slice (some ⟨x1a, 0, none⟩) a1.fi.length a1.fi.length, .slice (some ⟨x1b, 0, none⟩) a1.nx.length a1.nx.length] 28)).cell? ⟨w4.heap.size, 2, none⟩ = some (.slice (some ⟨x1a, 0, none⟩) a1.fi.length a1.fi.length) := by simp [go_sem]
    have z1_3 : (w4.alloc (.cells #[.int .i64 a1.st, .int .i64 a1.sa, .slice (some ⟨x1a, 0, none⟩) a1.fi.length a1.fi.length, .slice (some ⟨x1b, 0, none⟩) a1.nx.length a1.nx.length] 28)).cell? ⟨w4.heap.size, 3, none⟩ = some (.slice (some ⟨x1b, 0, none⟩) a1.nx.length a1.nx.length) := by simp [go_sem]
    have xf1a := auR_inI XF1
    have xf1b := auR_inT XF1
    have HHI0 := Lib.hid XB0.size
    have HHI1 := Lib.hid XB1.size
    have HLO_BZ_g := Lib.hid BZ.size
    have HLO_BW_g := Lib.hid BW.size
    clear XB0 XB1
    have BG0 := Below.refl (w4.alloc (.cells #[.int .i64 a1.st, .int .i64 a1.sa, .slice (some ⟨x1a, 0, none⟩) a1.fi.length a1.fi.length, .slice (some ⟨x1b, 0, none⟩) a1.nx.length a1.nx.length] 28)).heap.size (w4.alloc (.cells #[.int .i64 a1.st, .int .i64 a1.sa, .slice (some ⟨x1a, 0, none⟩) a1.fi.length a1.fi.length, .slice (some ⟨x1b, 0, none⟩) a1.nx.length a1.nx.length] 28))
    go_wp2_with fail
    refine (i_BothAuto _ _ _ _ a0 a1 _ HSM0.out HSM1.out xf0a xf0b xf1a xf1b  ).mono ?_
    rintro e w5 ⟨uG, vG, vsG, rfl, GR, hb5⟩
    have XF0' := auR_after XF0 hb5
    clear XF0
    have XF0 := XF0'
    clear XF0'
    have z0_0' := cell_later hb5 z0_0
    clear z0_0
    have z0_0 := z0_0'
    clear z0_0'
    have z0_1' := cell_later hb5 z0_1
    clear z0_1
    have z0_1 := z0_1'
    clear z0_1'
    have z0_2' := cell_later hb5 z0_2
    clear z0_2
    have z0_2 := z0_2'
    clear z0_2'
    have z0_3' := cell_later hb5 z0_3
    clear z0_3
    have z0_3 := z0_3'
    clear z0_3'
    have xf0a' := inI_below xf0a hb5
    clear xf0a
    have xf0a := xf0a'
    clear xf0a'
    have xf0b' := inT_below xf0b hb5
    clear xf0b
    have xf0b := xf0b'
    clear xf0b'
    have XF1' := auR_after XF1 hb5
    clear XF1
    have XF1 := XF1'
    clear XF1'
    have z1_0' := cell_later hb5 z1_0
    clear z1_0
    have z1_0 := z1_0'
    clear z1_0'
    have z1_1' := cell_later hb5 z1_1
    clear z1_1
    have z1_1 := z1_1'
    clear z1_1'
    have z1_2' := cell_later hb5 z1_2
    clear z1_2
    have z1_2 := z1_2'
    clear z1_2'
    have z1_3' := cell_later hb5 z1_3
    clear z1_3
    have z1_3 := z1_3'
    clear z1_3'
    have xf1a' := inI_below xf1a hb5
    clear xf1a
    have xf1a := xf1a'
    clear xf1a'
    have xf1b' := inT_below xf1b hb5
    clear xf1b
    have xf1b := xf1b'
    clear xf1b'
    have BZ' := BZ.trans (hb5.mono BZ.size)
    clear BZ
    have BZ := BZ'
    clear BZ'
    have BW' := BW.trans (hb5.mono BW.size)
    clear BW
    have BW := BW'
    clear BW'
    have BG0' := BG0.trans (hb5.mono BG0.size)
    clear BG0
    have BG0 := BG0'
    clear BG0'
    clear hb5
    obtain ⟨uaG, ucG, rfl⟩ := inI_sl (auR_inI GR)
    obtain ⟨vaG, vcG, rfl⟩ := inT_sl (auR_inT GR)
    have HGH := Lib.hid (auR_hi GR)
    have HGX := Lib.hid BG0.size
    clear BG0
    have al := (Below.refl _ w5).alloc (Nat.le_refl _) (.cells #[.int .i64 (boR a0 a1).st, .int .i64 (boR a0 a1).sa, .slice uaG (boR a0 a1).fi.length ucG, .slice vaG (boR a0 a1).nx.length vcG] 28)
    have XF0' := auR_after XF0 al
    clear XF0
    have XF0 := XF0'
    clear XF0'
    have z0_0' := cell_later al z0_0
    clear z0_0
    have z0_0 := z0_0'
    clear z0_0'
    have z0_1' := cell_later al z0_1
    clear z0_1
    have z0_1 := z0_1'
    clear z0_1'
    have z0_2' := cell_later al z0_2
    clear z0_2
    have z0_2 := z0_2'
    clear z0_2'
    have z0_3' := cell_later al z0_3
    clear z0_3
    have z0_3 := z0_3'
    clear z0_3'
    have xf0a' := inI_below xf0a al
    clear xf0a
    have xf0a := xf0a'
    clear xf0a'
    have xf0b' := inT_below xf0b al
    clear xf0b
    have xf0b := xf0b'
    clear xf0b'
    have XF1' := auR_after XF1 al
    clear XF1
    have XF1 := XF1'
    clear XF1'
    have z1_0' := cell_later al z1_0
    clear z1_0
    have z1_0 := z1_0'
    clear z1_0'
    have z1_1' := cell_later al z1_1
    clear z1_1
    have z1_1 := z1_1'
    clear z1_1'
    have z1_2' := cell_later al z1_2
    clear z1_2
    have z1_2 := z1_2'
    clear z1_2'
    have z1_3' := cell_later al z1_3
    clear z1_3
    have z1_3 := z1_3'
    clear z1_3'
    have xf1a' := inI_below xf1a al
    clear xf1a
    have xf1a := xf1a'
    clear xf1a'
    have xf1b' := inT_below xf1b al
    clear xf1b
    have xf1b := xf1b'
    clear xf1b'
    have BZ' := BZ.alloc BZ.size (.cells #[.int .i64 (boR a0 a1).st, .int .i64 (boR a0 a1).sa, .slice uaG (boR a0 a1).fi.length ucG, .slice vaG (boR a0 a1).nx.length vcG] 28)
    clear BZ
    have BZ := BZ'
    clear BZ'
    have BW' := BW.alloc BW.size (.cells #[.int .i64 (boR a0 a1).st, .int .i64 (boR a0 a1).sa, .slice uaG (boR a0 a1).fi.length ucG, .slice vaG (boR a0 a1).nx.length vcG] 28)
    clear BW
    have BW := BW'
    clear BW'
    have GR' := auR_after GR al
    clear GR
    have GR := GR'
    clear GR'
    clear al
    have zG0 : (w5.alloc (.cells #[.int .i64 (boR a0 a1).st, .int .i64 (boR a0 a1).sa, .slice uaG (boR a0 a1).fi.length ucG, .slice vaG (boR a0 a1).nx.length vcG] 28)).cell? ⟨w5.heap.size, 0, none⟩ = some (.int .i64 (boR a0 a1).st) := by simp [go_sem]
    have zG1 : (w5.alloc (.cells #[.int .i64 (boR a0 a1).st, .int .i64 (boR a0 a1).sa, .slice uaG (boR a0 a1).fi.length ucG, .slice vaG (boR a0 a1).nx.length vcG] 28)).cell? ⟨w5.heap.size, 1, none⟩ = some (.int .i64 (boR a0 a1).sa) := by simp [go_sem]
    have zG2 : (w5.alloc (.cells #[.int .i64 (boR a0 a1).st, .int .i64 (boR a0 a1).sa, .slice uaG (boR a0 a1).fi.length ucG, .slice vaG (boR a0 a1).nx.length vcG] 28)).cell? ⟨w5.heap.size, 2, none⟩ = some (.slice uaG (boR a0 a1).fi.length ucG) := by simp [go_sem]
    have zG3 : (w5.alloc (.cells #[.int .i64 (boR a0 a1).st, .int .i64 (boR a0 a1).sa, .slice uaG (boR a0 a1).fi.length ucG, .slice vaG (boR a0 a1).nx.length vcG] 28)).cell? ⟨w5.heap.size, 3, none⟩ = some (.slice vaG (boR a0 a1).nx.length vcG) := by simp [go_sem]
    have pW0 := cell_later BW HWB0.out
    have pW1 := cell_later BW HWB1.out
    have pW2 := cell_later BW HWB2.out
    have pW3 := cell_later BW HWB3.out
    go_wp2_with fail
    refine (l_eqAuto _ _ _ _ (boR a0 a1) _ HRS.out (auR_inI GR) (auR_inT GR) (inI_below WI.out.1 BW) (inT_below WI.out.2 BW)).mono ?_
    rintro e w6 ⟨rfl, hb6⟩
    have XF0' := auR_after XF0 hb6
    clear XF0
    have XF0 := XF0'
    clear XF0'
    have z0_0' := cell_later hb6 z0_0
    clear z0_0
    have z0_0 := z0_0'
    clear z0_0'
    have z0_1' := cell_later hb6 z0_1
    clear z0_1
    have z0_1 := z0_1'
    clear z0_1'
    have z0_2' := cell_later hb6 z0_2
    clear z0_2
    have z0_2 := z0_2'
    clear z0_2'
    have z0_3' := cell_later hb6 z0_3
    clear z0_3
    have z0_3 := z0_3'
    clear z0_3'
    have xf0a' := inI_below xf0a hb6
    clear xf0a
    have xf0a := xf0a'
    clear xf0a'
    have xf0b' := inT_below xf0b hb6
    clear xf0b
    have xf0b := xf0b'
    clear xf0b'
    have XF1' := auR_after XF1 hb6
    clear XF1
    have XF1 := XF1'
    clear XF1'
    have z1_0' := cell_later hb6 z1_0
    clear z1_0
    have z1_0 := z1_0'
    clear z1_0'
    have z1_1' := cell_later hb6 z1_1
    clear z1_1
    have z1_1 := z1_1'
    clear z1_1'
    have z1_2' := cell_later hb6 z1_2
    clear z1_2
    have z1_2 := z1_2'
    clear z1_2'
    have z1_3' := cell_later hb6 z1_3
    clear z1_3
    have z1_3 := z1_3'
    clear z1_3'
    have xf1a' := inI_below xf1a hb6
    clear xf1a
    have xf1a := xf1a'
    clear xf1a'
    have xf1b' := inT_below xf1b hb6
    clear xf1b
    have xf1b := xf1b'
    clear xf1b'
    have zG0' := cell_later hb6 zG0
    clear zG0
    have zG0 := zG0'
    clear zG0'
    have zG1' := cell_later hb6 zG1
    clear zG1
    have zG1 := zG1'
    clear zG1'
    have zG2' := cell_later hb6 zG2
    clear zG2
    have zG2 := zG2'
    clear zG2'
    have zG3' := cell_later hb6 zG3
    clear zG3
    have zG3 := zG3'
    clear zG3'
    have GR' := auR_after GR hb6
    clear GR
    have GR := GR'
    clear GR'
    have BZ' := BZ.trans (hb6.mono BZ.size)
    clear BZ
    have BZ := BZ'
    clear BZ'
    have BW' := BW.trans (hb6.mono BW.size)
    clear BW
    have BW := BW'
    clear BW'
    clear hb6 pW0 pW1 pW2 pW3
    go_wp2
    have c0_0 := cell_later BZ b0_0
    have c0_1 := cell_later BZ b0_1
    have c0_2 := cell_later BZ b0_2
    have c0_3 := cell_later BZ b0_3
    have k0_0 := inI_below m0_0 BZ
    have k0_1 := inT_below m0_1 BZ
    go_region_held3 (fun w' => Below w6.heap.size w6 w' ∧ w'.cell? ⟨w.heap.size, 0, none⟩ = some (.int .i64 a0.st) ∧ w'.cell? ⟨w.heap.size, 1, none⟩ = some (.int .i64 a0.sa) ∧ w'.cell? ⟨w.heap.size, 2, none⟩ = some (p0a) ∧ w'.cell? ⟨w.heap.size, 3, none⟩ = some (p0b) ∧ w'.cell? ⟨w3.heap.size, 0, none⟩ = some (.int .i64 a0.st) ∧ w'.cell? ⟨w3.heap.size, 1, none⟩ = some (.int .i64 a0.sa) ∧ w'.cell? ⟨w3.heap.size, 2, none⟩ = some (.slice (some ⟨x0a, 0, none⟩) a0.fi.length a0.fi.length) ∧ w'.cell? ⟨w3.heap.size, 3, none⟩ = some (.slice (some ⟨x0b, 0, none⟩) a0.nx.length a0.nx.length) ∧ InI w' (p0a) a0.fi ∧ InT w' (p0b) a0.nx ∧ InI w' (.slice (some ⟨x0a, 0, none⟩) a0.fi.length a0.fi.length) a0.fi ∧ InT w' (.slice (some ⟨x0b, 0, none⟩) a0.nx.length a0.nx.length) a0.nx) ((first | (go_split_ands; (repeat' apply And.intro) <;> first | assumption | exact Below.drew (Below.refl _ _) | exact Below.drew (by assumption) | exact inI_below (by assumption) (Below.drew (Below.refl _ _)) | exact inT_below (by assumption) (Below.drew (Below.refl _ _)) | exact cell_later hA0 (by assumption) | exact inI_below (by assumption) hA0 | exact inT_below (by assumption) hA0 | exact Below.trans ‹Below w6.heap.size w6 _› (hA0.mono (Below.size ‹Below w6.heap.size w6 _›)) | exact cell_later hF0 (by assumption) | exact inI_below (by assumption) hF0 | exact inT_below (by assumption) hF0 | exact Below.trans ‹Below w6.heap.size w6 _› (hF0.mono (Below.size ‹Below w6.heap.size w6 _›)) | (simp; assumption)))) (first | (go_at_call 19; with_reducible refine (l_toAuto2 _ _ a0 _ HSM0.out (by first | assumption | (go_split_ands; assumption)) (by first | assumption | (go_split_ands; assumption))).mono ?_; rintro e wA0 ⟨y0a, y0b, rfl, yf0a, yf0b, hA0⟩) | (go_at_call 21; with_reducible refine (l_eqAuto _ _ _ _ a0 _ HSM0.out (by first | exact xf0a | exact inI_below xf0a (Below.drew (Below.refl _ _)) | exact inI_below xf0a hA0 | exact inI_below (inI_below xf0a hA0) (Below.drew (Below.refl _ _)) | exact inI_below (inI_below xf0a (Below.drew (Below.refl _ _))) hA0 | exact inI_below (inI_below (inI_below xf0a (Below.drew (Below.refl _ _))) hA0) (Below.drew (Below.refl _ _))) (by first | exact xf0b | exact inT_below xf0b (Below.drew (Below.refl _ _)) | exact inT_below xf0b hA0 | exact inT_below (inT_below xf0b hA0) (Below.drew (Below.refl _ _)) | exact inT_below (inT_below xf0b (Below.drew (Below.refl _ _))) hA0 | exact inT_below (inT_below (inT_below xf0b (Below.drew (Below.refl _ _))) hA0) (Below.drew (Below.refl _ _))) (by first | exact yf0a | exact inI_below yf0a (Below.drew (Below.refl _ _))) (by first | exact yf0b | exact inT_below yf0b (Below.drew (Below.refl _ _)))).mono ?_; rintro e wF0 ⟨rfl, hF0⟩))
    rename_i hS
    clear c0_0 c0_1 c0_2 c0_3 k0_0 k0_1
    have XF0' := auR_after XF0 hS.1
    clear XF0
    have XF0 := XF0'
    clear XF0'
    have z0_0' := cell_later hS.1 z0_0
    clear z0_0
    have z0_0 := z0_0'
    clear z0_0'
    have z0_1' := cell_later hS.1 z0_1
    clear z0_1
    have z0_1 := z0_1'
    clear z0_1'
    have z0_2' := cell_later hS.1 z0_2
    clear z0_2
    have z0_2 := z0_2'
    clear z0_2'
    have z0_3' := cell_later hS.1 z0_3
    clear z0_3
    have z0_3 := z0_3'
    clear z0_3'
    have XF1' := auR_after XF1 hS.1
    clear XF1
    have XF1 := XF1'
    clear XF1'
    have z1_0' := cell_later hS.1 z1_0
    clear z1_0
    have z1_0 := z1_0'
    clear z1_0'
    have z1_1' := cell_later hS.1 z1_1
    clear z1_1
    have z1_1 := z1_1'
    clear z1_1'
    have z1_2' := cell_later hS.1 z1_2
    clear z1_2
    have z1_2 := z1_2'
    clear z1_2'
    have z1_3' := cell_later hS.1 z1_3
    clear z1_3
    have z1_3 := z1_3'
    clear z1_3'
    have xf1a' := inI_below xf1a hS.1
    clear xf1a
    have xf1a := xf1a'
    clear xf1a'
    have xf1b' := inT_below xf1b hS.1
    clear xf1b
    have xf1b := xf1b'
    clear xf1b'
    have zG0' := cell_later hS.1 zG0
    clear zG0
    have zG0 := zG0'
    clear zG0'
    have zG1' := cell_later hS.1 zG1
    clear zG1
    have zG1 := zG1'
    clear zG1'
    have zG2' := cell_later hS.1 zG2
    clear zG2
    have zG2 := zG2'
    clear zG2'
    have zG3' := cell_later hS.1 zG3
    clear zG3
    have zG3 := zG3'
    clear zG3'
    have GR' := auR_after GR hS.1
    clear GR
    have GR := GR'
    clear GR'
    have BZ' := BZ.trans (hS.1.mono BZ.size)
    clear BZ
    have BZ := BZ'
    clear BZ'
    have BW' := BW.trans (hS.1.mono BW.size)
    clear BW
    have BW := BW'
    clear BW'
    clear hS hA0 hF0 yf0a yf0b xf0a xf0b
    go_wp2
    have c1_0 := cell_later BZ b1_0
    have c1_1 := cell_later BZ b1_1
    have c1_2 := cell_later BZ b1_2
    have c1_3 := cell_later BZ b1_3
    have k1_0 := inI_below m1_0 BZ
    have k1_1 := inT_below m1_1 BZ
    go_region_held3 (fun w' => Below wF0.heap.size wF0 w' ∧ w'.cell? ⟨(w.heap.size + 1), 0, none⟩ = some (.int .i64 a1.st) ∧ w'.cell? ⟨(w.heap.size + 1), 1, none⟩ = some (.int .i64 a1.sa) ∧ w'.cell? ⟨(w.heap.size + 1), 2, none⟩ = some (p1a) ∧ w'.cell? ⟨(w.heap.size + 1), 3, none⟩ = some (p1b) ∧ w'.cell? ⟨w4.heap.size, 0, none⟩ = some (.int .i64 a1.st) ∧ w'.cell? ⟨w4.heap.size, 1, none⟩ = some (.int .i64 a1.sa) ∧ w'.cell? ⟨w4.heap.size, 2, none⟩ = some (.slice (some ⟨x1a, 0, none⟩) a1.fi.length a1.fi.length) ∧ w'.cell? ⟨w4.heap.size, 3, none⟩ = some (.slice (some ⟨x1b, 0, none⟩) a1.nx.length a1.nx.length) ∧ InI w' (p1a) a1.fi ∧ InT w' (p1b) a1.nx ∧ InI w' (.slice (some ⟨x1a, 0, none⟩) a1.fi.length a1.fi.length) a1.fi ∧ InT w' (.slice (some ⟨x1b, 0, none⟩) a1.nx.length a1.nx.length) a1.nx) ((first | (go_split_ands; (repeat' apply And.intro) <;> first | assumption | exact Below.drew (Below.refl _ _) | exact Below.drew (by assumption) | exact inI_below (by assumption) (Below.drew (Below.refl _ _)) | exact inT_below (by assumption) (Below.drew (Below.refl _ _)) | exact cell_later hA1 (by assumption) | exact inI_below (by assumption) hA1 | exact inT_below (by assumption) hA1 | exact Below.trans ‹Below wF0.heap.size wF0 _› (hA1.mono (Below.size ‹Below wF0.heap.size wF0 _›)) | exact cell_later hF1 (by assumption) | exact inI_below (by assumption) hF1 | exact inT_below (by assumption) hF1 | exact Below.trans ‹Below wF0.heap.size wF0 _› (hF1.mono (Below.size ‹Below wF0.heap.size wF0 _›)) | (simp; assumption)))) (first | (go_at_call 19; with_reducible refine (l_toAuto2 _ _ a1 _ HSM1.out (by first | assumption | (go_split_ands; assumption)) (by first | assumption | (go_split_ands; assumption))).mono ?_; rintro e wA1 ⟨y1a, y1b, rfl, yf1a, yf1b, hA1⟩) | (go_at_call 21; with_reducible refine (l_eqAuto _ _ _ _ a1 _ HSM1.out (by first | exact xf1a | exact inI_below xf1a (Below.drew (Below.refl _ _)) | exact inI_below xf1a hA1 | exact inI_below (inI_below xf1a hA1) (Below.drew (Below.refl _ _)) | exact inI_below (inI_below xf1a (Below.drew (Below.refl _ _))) hA1 | exact inI_below (inI_below (inI_below xf1a (Below.drew (Below.refl _ _))) hA1) (Below.drew (Below.refl _ _))) (by first | exact xf1b | exact inT_below xf1b (Below.drew (Below.refl _ _)) | exact inT_below xf1b hA1 | exact inT_below (inT_below xf1b hA1) (Below.drew (Below.refl _ _)) | exact inT_below (inT_below xf1b (Below.drew (Below.refl _ _))) hA1 | exact inT_below (inT_below (inT_below xf1b (Below.drew (Below.refl _ _))) hA1) (Below.drew (Below.refl _ _))) (by first | exact yf1a | exact inI_below yf1a (Below.drew (Below.refl _ _))) (by first | exact yf1b | exact inT_below yf1b (Below.drew (Below.refl _ _)))).mono ?_; rintro e wF1 ⟨rfl, hF1⟩))
    rename_i hS
    clear c1_0 c1_1 c1_2 c1_3 k1_0 k1_1
    have XF0' := auR_after XF0 hS.1
    clear XF0
    have XF0 := XF0'
    clear XF0'
    have z0_0' := cell_later hS.1 z0_0
    clear z0_0
    have z0_0 := z0_0'
    clear z0_0'
    have z0_1' := cell_later hS.1 z0_1
    clear z0_1
    have z0_1 := z0_1'
    clear z0_1'
    have z0_2' := cell_later hS.1 z0_2
    clear z0_2
    have z0_2 := z0_2'
    clear z0_2'
    have z0_3' := cell_later hS.1 z0_3
    clear z0_3
    have z0_3 := z0_3'
    clear z0_3'
    have XF1' := auR_after XF1 hS.1
    clear XF1
    have XF1 := XF1'
    clear XF1'
    have z1_0' := cell_later hS.1 z1_0
    clear z1_0
    have z1_0 := z1_0'
    clear z1_0'
    have z1_1' := cell_later hS.1 z1_1
    clear z1_1
    have z1_1 := z1_1'
    clear z1_1'
    have z1_2' := cell_later hS.1 z1_2
    clear z1_2
    have z1_2 := z1_2'
    clear z1_2'
    have z1_3' := cell_later hS.1 z1_3
    clear z1_3
    have z1_3 := z1_3'
    clear z1_3'
    have zG0' := cell_later hS.1 zG0
    clear zG0
    have zG0 := zG0'
    clear zG0'
    have zG1' := cell_later hS.1 zG1
    clear zG1
    have zG1 := zG1'
    clear zG1'
    have zG2' := cell_later hS.1 zG2
    clear zG2
    have zG2 := zG2'
    clear zG2'
    have zG3' := cell_later hS.1 zG3
    clear zG3
    have zG3 := zG3'
    clear zG3'
    have GR' := auR_after GR hS.1
    clear GR
    have GR := GR'
    clear GR'
    have BZ' := BZ.trans (hS.1.mono BZ.size)
    clear BZ
    have BZ := BZ'
    clear BZ'
    have BW' := BW.trans (hS.1.mono BW.size)
    clear BW
    have BW := BW'
    clear BW'
    clear hS hA1 hF1 yf1a yf1b xf1a xf1b
    go_wp2_with fail
    refine (l_markAuto _ _ _ _ _ a0 (wz1.heap.size) (w3.heap.size) _ HSM0.out XF0 HXH0.out).mono ?_
    rintro e w7 ⟨rfl, hM, gM⟩
    clear hM
    clear XF0 z0_0 z0_1 z0_2 z0_3
    have BZ' := below_gp BZ gM BZ.size (fun b hb => Nat.le_trans HLO_BZ_x0.out hb.1)
    clear BZ
    have BZ := BZ'
    clear BZ'
    have BW' := below_gp BW gM BW.size (fun b hb => Nat.le_trans HLO_BW_x0.out hb.1)
    clear BW
    have BW := BW'
    clear BW'
    have GR' := auR_gp GR gM (fun b hb h => by have := HHI0.out; have := h.2; omega)
    clear GR
    have GR := GR'
    clear GR'
    have zG0' := gM.cell zG0 (fun h => by have := HGX.out; have := HHI0.out; have := h.2; omega)
    clear zG0
    have zG0 := zG0'
    clear zG0'
    have zG1' := gM.cell zG1 (fun h => by have := HGX.out; have := HHI0.out; have := h.2; omega)
    clear zG1
    have zG1 := zG1'
    clear zG1'
    have zG2' := gM.cell zG2 (fun h => by have := HGX.out; have := HHI0.out; have := h.2; omega)
    clear zG2
    have zG2 := zG2'
    clear zG2'
    have zG3' := gM.cell zG3 (fun h => by have := HGX.out; have := HHI0.out; have := h.2; omega)
    clear zG3
    have zG3 := zG3'
    clear zG3'
    have z1_0' := gM.cell z1_0 (fun h => by have := HXX_XB0_x1.out; have := h.2; omega)
    clear z1_0
    have z1_0 := z1_0'
    clear z1_0'
    have z1_1' := gM.cell z1_1 (fun h => by have := HXX_XB0_x1.out; have := h.2; omega)
    clear z1_1
    have z1_1 := z1_1'
    clear z1_1'
    have z1_2' := gM.cell z1_2 (fun h => by have := HXX_XB0_x1.out; have := h.2; omega)
    clear z1_2
    have z1_2 := z1_2'
    clear z1_2'
    have z1_3' := gM.cell z1_3 (fun h => by have := HXX_XB0_x1.out; have := h.2; omega)
    clear z1_3
    have z1_3 := z1_3'
    clear z1_3'
    have XF1' := auR_gp XF1 gM (fun b hb h => by have h2 := HLO_XB0_x1.out; have h3 := h.2; omega)
    clear XF1
    have XF1 := XF1'
    clear XF1'
    clear gM
    go_wp2_with fail
    refine (l_markAutoK _ _ _ _ _ a1 (1 + auTs a0) ((w3.alloc (.cells #[.int .i64 a0.st, .int .i64 a0.sa, .slice (some ⟨x0a, 0, none⟩) a0.fi.length a0.fi.length, .slice (some ⟨x0b, 0, none⟩) a0.nx.length a0.nx.length] 28)).heap.size) (w4.heap.size) _ (by have := HTS0.out; omega) HSM1.out XF1 HXH1.out).mono ?_
    rintro e w8 ⟨rfl, hM, gM⟩
    clear hM
    clear XF1 z1_0 z1_1 z1_2 z1_3
    have BZ' := below_gp BZ gM BZ.size (fun b hb => Nat.le_trans HLO_BZ_x1.out hb.1)
    clear BZ
    have BZ := BZ'
    clear BZ'
    have BW' := below_gp BW gM BW.size (fun b hb => Nat.le_trans HLO_BW_x1.out hb.1)
    clear BW
    have BW := BW'
    clear BW'
    have GR' := auR_gp GR gM (fun b hb h => by have := HHI1.out; have := h.2; omega)
    clear GR
    have GR := GR'
    clear GR'
    have zG0' := gM.cell zG0 (fun h => by have := HGX.out; have := HHI1.out; have := h.2; omega)
    clear zG0
    have zG0 := zG0'
    clear zG0'
    have zG1' := gM.cell zG1 (fun h => by have := HGX.out; have := HHI1.out; have := h.2; omega)
    clear zG1
    have zG1 := zG1'
    clear zG1'
    have zG2' := gM.cell zG2 (fun h => by have := HGX.out; have := HHI1.out; have := h.2; omega)
    clear zG2
    have zG2 := zG2'
    clear zG2'
    have zG3' := gM.cell zG3 (fun h => by have := HGX.out; have := HHI1.out; have := h.2; omega)
    clear zG3
    have zG3 := zG3'
    clear zG3'
    clear gM
    generalize 1 + auTs a0 + auTs a1 = K at *
    have pW0 := cell_later BW HWB0.out
    have pW1 := cell_later BW HWB1.out
    have pW2 := cell_later BW HWB2.out
    have pW3 := cell_later BW HWB3.out
    go_wp2_with fail
    refine (l_eqAuto _ _ _ _ (boR a0 a1) _ HRS.out (auR_inI GR) (auR_inT GR) (inI_below WI.out.1 BW) (inT_below WI.out.2 BW)).mono ?_
    rintro e w9 ⟨rfl, hb9⟩
    have zG0' := cell_later hb9 zG0
    clear zG0
    have zG0 := zG0'
    clear zG0'
    have zG1' := cell_later hb9 zG1
    clear zG1
    have zG1 := zG1'
    clear zG1'
    have zG2' := cell_later hb9 zG2
    clear zG2
    have zG2 := zG2'
    clear zG2'
    have zG3' := cell_later hb9 zG3
    clear zG3
    have zG3 := zG3'
    clear zG3'
    have GR' := auR_after GR hb9
    clear GR
    have GR := GR'
    clear GR'
    have BZ' := BZ.trans (hb9.mono BZ.size)
    clear BZ
    have BZ := BZ'
    clear BZ'
    have BW' := BW.trans (hb9.mono BW.size)
    clear BW
    have BW := BW'
    clear BW'
    clear hb9 pW0 pW1 pW2 pW3
    go_wp2_with fail
    refine (l_markAuto _ _ _ _ _ (boR a0 a1) ((w4.alloc (.cells #[.int .i64 a1.st, .int .i64 a1.sa, .slice (some ⟨x1a, 0, none⟩) a1.fi.length a1.fi.length, .slice (some ⟨x1b, 0, none⟩) a1.nx.length a1.nx.length] 28)).heap.size) _ _ HRS.out GR HGH.out).mono ?_
    rintro e w10 ⟨rfl, GM, gM⟩
    have BZ' := below_gp BZ gM BZ.size (fun b hb => Nat.le_trans HLO_BZ_g.out (hb.1))
    clear BZ
    have BZ := BZ'
    clear BZ'
    have BW' := below_gp BW gM BW.size (fun b hb => Nat.le_trans HLO_BW_g.out (hb.1))
    clear BW
    have BW := BW'
    clear BW'
    have zG0' := gM.cell zG0 (fun h => by have := h.2; omega)
    clear zG0
    have zG0 := zG0'
    clear zG0'
    have zG1' := gM.cell zG1 (fun h => by have := h.2; omega)
    clear zG1
    have zG1 := zG1'
    clear zG1'
    have zG2' := gM.cell zG2 (fun h => by have := h.2; omega)
    clear zG2
    have zG2 := zG2'
    clear zG2'
    have zG3' := gM.cell zG3 (fun h => by have := h.2; omega)
    clear zG3
    have zG3 := zG3'
    clear zG3'
    clear gM GR
    have GR := GM
    clear GM
    go_wp2_with fail
    refine (l_heldAuto _ _ _ _ _ (boR a0 a1) ((w4.alloc (.cells #[.int .i64 a1.st, .int .i64 a1.sa, .slice (some ⟨x1a, 0, none⟩) a1.fi.length a1.fi.length, .slice (some ⟨x1b, 0, none⟩) a1.nx.length a1.nx.length] 28)).heap.size) _ HRS.out GR).mono ?_
    rintro e w11 ⟨rfl, hb11⟩
    have zG0' := cell_later hb11 zG0
    clear zG0
    have zG0 := zG0'
    clear zG0'
    have zG1' := cell_later hb11 zG1
    clear zG1
    have zG1 := zG1'
    clear zG1'
    have zG2' := cell_later hb11 zG2
    clear zG2
    have zG2 := zG2'
    clear zG2'
    have zG3' := cell_later hb11 zG3
    clear zG3
    have zG3 := zG3'
    clear zG3'
    have GR' := auR_after GR hb11
    clear GR
    have GR := GR'
    clear GR'
    have BZ' := BZ.trans (hb11.mono BZ.size)
    clear BZ
    have BZ := BZ'
    clear BZ'
    have BW' := BW.trans (hb11.mono BW.size)
    clear BW
    have BW := BW'
    clear BW'
    clear hb11
    have c0_0 := cell_later BZ b0_0
    have c0_1 := cell_later BZ b0_1
    have c0_2 := cell_later BZ b0_2
    have c0_3 := cell_later BZ b0_3
    have k0_0 := inI_below m0_0 BZ
    have k0_1 := inT_below m0_1 BZ
    have c1_0 := cell_later BZ b1_0
    have c1_1 := cell_later BZ b1_1
    have c1_2 := cell_later BZ b1_2
    have c1_3 := cell_later BZ b1_3
    have k1_0 := inI_below m1_0 BZ
    have k1_1 := inT_below m1_1 BZ
    go_wp2
    have HSS0 : ∀ w', Below w11.heap.size w11 w' → (Below w11.heap.size w11 w' ∧ w'.cell? ⟨w.heap.size, 0, none⟩ = some (.int .i64 a0.st) ∧ w'.cell? ⟨w.heap.size, 1, none⟩ = some (.int .i64 a0.sa) ∧ w'.cell? ⟨w.heap.size, 2, none⟩ = some (p0a) ∧ w'.cell? ⟨w.heap.size, 3, none⟩ = some (p0b) ∧ InI w' (p0a) a0.fi ∧ InT w' (p0b) a0.nx ∧ w'.cell? ⟨(w.heap.size + 1), 0, none⟩ = some (.int .i64 a1.st) ∧ w'.cell? ⟨(w.heap.size + 1), 1, none⟩ = some (.int .i64 a1.sa) ∧ w'.cell? ⟨(w.heap.size + 1), 2, none⟩ = some (p1a) ∧ w'.cell? ⟨(w.heap.size + 1), 3, none⟩ = some (p1b) ∧ InI w' (p1a) a1.fi ∧ InT w' (p1b) a1.nx) := fun w' h => ⟨h, cell_later h c0_0, cell_later h c0_1, cell_later h c0_2, cell_later h c0_3, inI_below k0_0 h, inT_below k0_1 h, cell_later h c1_0, cell_later h c1_1, cell_later h c1_2, cell_later h c1_3, inI_below k1_0 h, inT_below k1_1 h⟩
    apply share_both (fun bx2 wz2 uaH ucH vaH vcH vsH => Below w11.heap.size w11 wz2 ∧ (wz2.cell? ⟨bx2, 0, none⟩ = some (.int .i64 (boR a0 a1).st) ∧ wz2.cell? ⟨bx2, 1, none⟩ = some (.int .i64 (boR a0 a1).sa) ∧ wz2.cell? ⟨bx2, 2, none⟩ = some (.slice uaH (boR a0 a1).fi.length ucH) ∧ wz2.cell? ⟨bx2, 3, none⟩ = some (.slice vaH (boR a0 a1).nx.length vcH)) ∧ AuR 0 wz2 (.slice uaH (boR a0 a1).fi.length ucH) (.slice vaH (boR a0 a1).nx.length vcH) vsH (boR a0 a1))
    · intro REST0
      have REST := Lib.hid REST0
      clear REST0
      go_region_held3 (fun w' => Below w11.heap.size w11 w' ∧ w'.cell? ⟨w.heap.size, 0, none⟩ = some (.int .i64 a0.st) ∧ w'.cell? ⟨w.heap.size, 1, none⟩ = some (.int .i64 a0.sa) ∧ w'.cell? ⟨w.heap.size, 2, none⟩ = some (p0a) ∧ w'.cell? ⟨w.heap.size, 3, none⟩ = some (p0b) ∧ InI w' (p0a) a0.fi ∧ InT w' (p0b) a0.nx ∧ w'.cell? ⟨(w.heap.size + 1), 0, none⟩ = some (.int .i64 a1.st) ∧ w'.cell? ⟨(w.heap.size + 1), 1, none⟩ = some (.int .i64 a1.sa) ∧ w'.cell? ⟨(w.heap.size + 1), 2, none⟩ = some (p1a) ∧ w'.cell? ⟨(w.heap.size + 1), 3, none⟩ = some (p1b) ∧ InI w' (p1a) a1.fi ∧ InT w' (p1b) a1.nx) ((exact HSS0 _ (by (repeat (first | exact Below.refl _ _ | apply Below.drew | apply bl_alloc | apply bl_set | (refine bl_tr ?_ hTS) | (refine bl_tr ?_ hT1) | (refine bl_tr ?_ hT0))); done))) (first | (go_at_call 19; with_reducible refine (l_toAuto2 _ _ a0 _ HSM0.out (by first | assumption | (go_split_ands; assumption)) (by first | assumption | (go_split_ands; assumption))).mono ?_; rintro e wT20 ⟨s0a, s0b, rfl, sf0a, sf0b, hT0⟩) | (go_at_call 19; with_reducible refine (l_toAuto2 _ _ a1 _ HSM1.out (by first | assumption | (go_split_ands; assumption)) (by first | assumption | (go_split_ands; assumption))).mono ?_; rintro e wT21 ⟨s1a, s1b, rfl, sf1a, sf1b, hT1⟩) | (go_at_call 34; with_reducible refine (i_BothAuto _ _ _ _ a0 a1 _ HSM0.out HSM1.out (inI_below sf0a (by (repeat (first | exact Below.refl _ _ | apply Below.drew | apply bl_alloc | apply bl_set | (refine bl_tr ?_ hTS) | (refine bl_tr ?_ hT1) | (refine bl_tr ?_ hT0))); done)) (inT_below sf0b (by (repeat (first | exact Below.refl _ _ | apply Below.drew | apply bl_alloc | apply bl_set | (refine bl_tr ?_ hTS) | (refine bl_tr ?_ hT1) | (refine bl_tr ?_ hT0))); done)) (inI_below sf1a (by (repeat (first | exact Below.refl _ _ | apply Below.drew | apply bl_alloc | apply bl_set | (refine bl_tr ?_ hTS) | (refine bl_tr ?_ hT1) | (refine bl_tr ?_ hT0))); done)) (inT_below sf1b (by (repeat (first | exact Below.refl _ _ | apply Below.drew | apply bl_alloc | apply bl_set | (refine bl_tr ?_ hTS) | (refine bl_tr ?_ hT1) | (refine bl_tr ?_ hT0))); done))  ).mono ?_; rintro e wS2 ⟨uH, vH, vsH, rfl, HR, hTS⟩; refine bl_hv (P := Below (wT21.alloc (.cells #[.int .i64 0, .int .i64 0, .slice none 0 0, .slice none 0 0] 28)).heap.size (wT21.alloc (.cells #[.int .i64 0, .int .i64 0, .slice none 0 0, .slice none 0 0] 28)) wS2) ?_ (fun hLB => ?_); (focus ((repeat (first | exact Below.refl _ _ | apply Below.drew | apply bl_alloc | apply bl_set | (refine bl_tr ?_ hTS) | (refine bl_tr ?_ hT1) | (refine bl_tr ?_ hT0))); done)); have y0 : wS2.cell? ⟨wT21.heap.size, 0, none⟩ = some (.int .i64 0) := cell_later hLB (by simp [go_sem]); have y1 : wS2.cell? ⟨wT21.heap.size, 1, none⟩ = some (.int .i64 0) := cell_later hLB (by simp [go_sem]); have y2 : wS2.cell? ⟨wT21.heap.size, 2, none⟩ = some (.slice none 0 0) := cell_later hLB (by simp [go_sem]); have y3 : wS2.cell? ⟨wT21.heap.size, 3, none⟩ = some (.slice none 0 0) := cell_later hLB (by simp [go_sem]); have fy : ∀ j, wS2.frozen? ⟨wT21.heap.size, j, none⟩ = false := (fun j => by rw [hLB.frozen (by simp)]; simp [go_sem]); have hWR := auR_weak (base' := wT21.heap.size + 1) HR (Nat.le_trans (by simp : wT21.heap.size + 1 ≤ (wT21.alloc (.cells #[.int .i64 0, .int .i64 0, .slice none 0 0, .slice none 0 0] 28)).heap.size) (bl_size (w := (wT21.alloc (.cells #[.int .i64 0, .int .i64 0, .slice none 0 0, .slice none 0 0] 28))) (by (repeat (first | exact Below.refl _ _ | apply Below.drew | apply bl_alloc | apply bl_set | (refine bl_tr ?_ hTS) | (refine bl_tr ?_ hT1) | (refine bl_tr ?_ hT0))); done))); clear HR; have HR := hWR; clear hWR hLB; obtain ⟨bb, hbb⟩ : ∃ b, b = wT21.heap.size := ⟨_, rfl⟩; obtain ⟨uaH, ucH, rfl⟩ := inI_sl (auR_inI HR); obtain ⟨vaH, vcH, rfl⟩ := inT_sl (auR_inT HR)) | (go_at_call 34; with_reducible refine (i_BothAuto _ _ _ _ a0 a1 _ HSM0.out HSM1.out (inI_below sf0a (by (repeat (first | exact Below.refl _ _ | apply Below.drew | apply bl_alloc | apply bl_set | (refine bl_tr ?_ hTS) | (refine bl_tr ?_ hT1) | (refine bl_tr ?_ hT0))); done)) (inT_below sf0b (by (repeat (first | exact Below.refl _ _ | apply Below.drew | apply bl_alloc | apply bl_set | (refine bl_tr ?_ hTS) | (refine bl_tr ?_ hT1) | (refine bl_tr ?_ hT0))); done)) (inI_below sf1a (by (repeat (first | exact Below.refl _ _ | apply Below.drew | apply bl_alloc | apply bl_set | (refine bl_tr ?_ hTS) | (refine bl_tr ?_ hT1) | (refine bl_tr ?_ hT0))); done)) (inT_below sf1b (by (repeat (first | exact Below.refl _ _ | apply Below.drew | apply bl_alloc | apply bl_set | (refine bl_tr ?_ hTS) | (refine bl_tr ?_ hT1) | (refine bl_tr ?_ hT0))); done))  ).mono ?_; rintro e wS2 ⟨uH, vH, vsH, rfl, HR, hTS⟩; refine bl_hv (P := Below (wT21.drew.alloc (.cells #[.int .i64 0, .int .i64 0, .slice none 0 0, .slice none 0 0] 28)).heap.size (wT21.drew.alloc (.cells #[.int .i64 0, .int .i64 0, .slice none 0 0, .slice none 0 0] 28)) wS2) ?_ (fun hLB => ?_); (focus ((repeat (first | exact Below.refl _ _ | apply Below.drew | apply bl_alloc | apply bl_set | (refine bl_tr ?_ hTS) | (refine bl_tr ?_ hT1) | (refine bl_tr ?_ hT0))); done)); have y0 : wS2.cell? ⟨wT21.heap.size, 0, none⟩ = some (.int .i64 0) := cell_later hLB (by simp [go_sem]); have y1 : wS2.cell? ⟨wT21.heap.size, 1, none⟩ = some (.int .i64 0) := cell_later hLB (by simp [go_sem]); have y2 : wS2.cell? ⟨wT21.heap.size, 2, none⟩ = some (.slice none 0 0) := cell_later hLB (by simp [go_sem]); have y3 : wS2.cell? ⟨wT21.heap.size, 3, none⟩ = some (.slice none 0 0) := cell_later hLB (by simp [go_sem]); have fy : ∀ j, wS2.frozen? ⟨wT21.heap.size, j, none⟩ = false := (fun j => by rw [hLB.frozen (by simp)]; simp [go_sem]); have hWR := auR_weak (base' := wT21.heap.size + 1) HR (Nat.le_trans (by simp : wT21.heap.size + 1 ≤ (wT21.drew.alloc (.cells #[.int .i64 0, .int .i64 0, .slice none 0 0, .slice none 0 0] 28)).heap.size) (bl_size (w := (wT21.drew.alloc (.cells #[.int .i64 0, .int .i64 0, .slice none 0 0, .slice none 0 0] 28))) (by (repeat (first | exact Below.refl _ _ | apply Below.drew | apply bl_alloc | apply bl_set | (refine bl_tr ?_ hTS) | (refine bl_tr ?_ hT1) | (refine bl_tr ?_ hT0))); done))); clear HR; have HR := hWR; clear hWR hLB; obtain ⟨bb, hbb⟩ : ∃ b, b = wT21.heap.size := ⟨_, rfl⟩; obtain ⟨uaH, ucH, rfl⟩ := inI_sl (auR_inI HR); obtain ⟨vaH, vcH, rfl⟩ := inT_sl (auR_inT HR)) | (go_at_call 34; with_reducible refine (i_BothAuto _ _ _ _ a0 a1 _ HSM0.out HSM1.out (inI_below sf0a (by (repeat (first | exact Below.refl _ _ | apply Below.drew | apply bl_alloc | apply bl_set | (refine bl_tr ?_ hTS) | (refine bl_tr ?_ hT1) | (refine bl_tr ?_ hT0))); done)) (inT_below sf0b (by (repeat (first | exact Below.refl _ _ | apply Below.drew | apply bl_alloc | apply bl_set | (refine bl_tr ?_ hTS) | (refine bl_tr ?_ hT1) | (refine bl_tr ?_ hT0))); done)) (inI_below sf1a (by (repeat (first | exact Below.refl _ _ | apply Below.drew | apply bl_alloc | apply bl_set | (refine bl_tr ?_ hTS) | (refine bl_tr ?_ hT1) | (refine bl_tr ?_ hT0))); done)) (inT_below sf1b (by (repeat (first | exact Below.refl _ _ | apply Below.drew | apply bl_alloc | apply bl_set | (refine bl_tr ?_ hTS) | (refine bl_tr ?_ hT1) | (refine bl_tr ?_ hT0))); done))  ).mono ?_; rintro e wS2 ⟨uH, vH, vsH, rfl, HR, hTS⟩; refine bl_hv (P := Below (wT20.alloc (.cells #[.int .i64 0, .int .i64 0, .slice none 0 0, .slice none 0 0] 28)).heap.size (wT20.alloc (.cells #[.int .i64 0, .int .i64 0, .slice none 0 0, .slice none 0 0] 28)) wS2) ?_ (fun hLB => ?_); (focus ((repeat (first | exact Below.refl _ _ | apply Below.drew | apply bl_alloc | apply bl_set | (refine bl_tr ?_ hTS) | (refine bl_tr ?_ hT1) | (refine bl_tr ?_ hT0))); done)); have y0 : wS2.cell? ⟨wT20.heap.size, 0, none⟩ = some (.int .i64 0) := cell_later hLB (by simp [go_sem]); have y1 : wS2.cell? ⟨wT20.heap.size, 1, none⟩ = some (.int .i64 0) := cell_later hLB (by simp [go_sem]); have y2 : wS2.cell? ⟨wT20.heap.size, 2, none⟩ = some (.slice none 0 0) := cell_later hLB (by simp [go_sem]); have y3 : wS2.cell? ⟨wT20.heap.size, 3, none⟩ = some (.slice none 0 0) := cell_later hLB (by simp [go_sem]); have fy : ∀ j, wS2.frozen? ⟨wT20.heap.size, j, none⟩ = false := (fun j => by rw [hLB.frozen (by simp)]; simp [go_sem]); have hWR := auR_weak (base' := wT20.heap.size + 1) HR (Nat.le_trans (by simp : wT20.heap.size + 1 ≤ (wT20.alloc (.cells #[.int .i64 0, .int .i64 0, .slice none 0 0, .slice none 0 0] 28)).heap.size) (bl_size (w := (wT20.alloc (.cells #[.int .i64 0, .int .i64 0, .slice none 0 0, .slice none 0 0] 28))) (by (repeat (first | exact Below.refl _ _ | apply Below.drew | apply bl_alloc | apply bl_set | (refine bl_tr ?_ hTS) | (refine bl_tr ?_ hT1) | (refine bl_tr ?_ hT0))); done))); clear HR; have HR := hWR; clear hWR hLB; obtain ⟨bb, hbb⟩ : ∃ b, b = wT20.heap.size := ⟨_, rfl⟩; obtain ⟨uaH, ucH, rfl⟩ := inI_sl (auR_inI HR); obtain ⟨vaH, vcH, rfl⟩ := inT_sl (auR_inT HR)) | (go_at_call 34; with_reducible refine (i_BothAuto _ _ _ _ a0 a1 _ HSM0.out HSM1.out (inI_below sf0a (by (repeat (first | exact Below.refl _ _ | apply Below.drew | apply bl_alloc | apply bl_set | (refine bl_tr ?_ hTS) | (refine bl_tr ?_ hT1) | (refine bl_tr ?_ hT0))); done)) (inT_below sf0b (by (repeat (first | exact Below.refl _ _ | apply Below.drew | apply bl_alloc | apply bl_set | (refine bl_tr ?_ hTS) | (refine bl_tr ?_ hT1) | (refine bl_tr ?_ hT0))); done)) (inI_below sf1a (by (repeat (first | exact Below.refl _ _ | apply Below.drew | apply bl_alloc | apply bl_set | (refine bl_tr ?_ hTS) | (refine bl_tr ?_ hT1) | (refine bl_tr ?_ hT0))); done)) (inT_below sf1b (by (repeat (first | exact Below.refl _ _ | apply Below.drew | apply bl_alloc | apply bl_set | (refine bl_tr ?_ hTS) | (refine bl_tr ?_ hT1) | (refine bl_tr ?_ hT0))); done))  ).mono ?_; rintro e wS2 ⟨uH, vH, vsH, rfl, HR, hTS⟩; refine bl_hv (P := Below (wT20.drew.alloc (.cells #[.int .i64 0, .int .i64 0, .slice none 0 0, .slice none 0 0] 28)).heap.size (wT20.drew.alloc (.cells #[.int .i64 0, .int .i64 0, .slice none 0 0, .slice none 0 0] 28)) wS2) ?_ (fun hLB => ?_); (focus ((repeat (first | exact Below.refl _ _ | apply Below.drew | apply bl_alloc | apply bl_set | (refine bl_tr ?_ hTS) | (refine bl_tr ?_ hT1) | (refine bl_tr ?_ hT0))); done)); have y0 : wS2.cell? ⟨wT20.heap.size, 0, none⟩ = some (.int .i64 0) := cell_later hLB (by simp [go_sem]); have y1 : wS2.cell? ⟨wT20.heap.size, 1, none⟩ = some (.int .i64 0) := cell_later hLB (by simp [go_sem]); have y2 : wS2.cell? ⟨wT20.heap.size, 2, none⟩ = some (.slice none 0 0) := cell_later hLB (by simp [go_sem]); have y3 : wS2.cell? ⟨wT20.heap.size, 3, none⟩ = some (.slice none 0 0) := cell_later hLB (by simp [go_sem]); have fy : ∀ j, wS2.frozen? ⟨wT20.heap.size, j, none⟩ = false := (fun j => by rw [hLB.frozen (by simp)]; simp [go_sem]); have hWR := auR_weak (base' := wT20.heap.size + 1) HR (Nat.le_trans (by simp : wT20.heap.size + 1 ≤ (wT20.drew.alloc (.cells #[.int .i64 0, .int .i64 0, .slice none 0 0, .slice none 0 0] 28)).heap.size) (bl_size (w := (wT20.drew.alloc (.cells #[.int .i64 0, .int .i64 0, .slice none 0 0, .slice none 0 0] 28))) (by (repeat (first | exact Below.refl _ _ | apply Below.drew | apply bl_alloc | apply bl_set | (refine bl_tr ?_ hTS) | (refine bl_tr ?_ hT1) | (refine bl_tr ?_ hT0))); done))); clear HR; have HR := hWR; clear hWR hLB; obtain ⟨bb, hbb⟩ : ∃ b, b = wT20.heap.size := ⟨_, rfl⟩; obtain ⟨uaH, ucH, rfl⟩ := inI_sl (auR_inI HR); obtain ⟨vaH, vcH, rfl⟩ := inT_sl (auR_inT HR)) | (go_at_call 34; with_reducible refine (i_BothAuto _ _ _ _ a0 a1 _ HSM0.out HSM1.out (inI_below sf0a (by (repeat (first | exact Below.refl _ _ | apply Below.drew | apply bl_alloc | apply bl_set | (refine bl_tr ?_ hTS) | (refine bl_tr ?_ hT1) | (refine bl_tr ?_ hT0))); done)) (inT_below sf0b (by (repeat (first | exact Below.refl _ _ | apply Below.drew | apply bl_alloc | apply bl_set | (refine bl_tr ?_ hTS) | (refine bl_tr ?_ hT1) | (refine bl_tr ?_ hT0))); done)) (inI_below sf1a (by (repeat (first | exact Below.refl _ _ | apply Below.drew | apply bl_alloc | apply bl_set | (refine bl_tr ?_ hTS) | (refine bl_tr ?_ hT1) | (refine bl_tr ?_ hT0))); done)) (inT_below sf1b (by (repeat (first | exact Below.refl _ _ | apply Below.drew | apply bl_alloc | apply bl_set | (refine bl_tr ?_ hTS) | (refine bl_tr ?_ hT1) | (refine bl_tr ?_ hT0))); done))  ).mono ?_; rintro e wS2 ⟨uH, vH, vsH, rfl, HR, hTS⟩; refine bl_hv (P := Below (w11.alloc (.cells #[.int .i64 0, .int .i64 0, .slice none 0 0, .slice none 0 0] 28)).heap.size (w11.alloc (.cells #[.int .i64 0, .int .i64 0, .slice none 0 0, .slice none 0 0] 28)) wS2) ?_ (fun hLB => ?_); (focus ((repeat (first | exact Below.refl _ _ | apply Below.drew | apply bl_alloc | apply bl_set | (refine bl_tr ?_ hTS) | (refine bl_tr ?_ hT1) | (refine bl_tr ?_ hT0))); done)); have y0 : wS2.cell? ⟨w11.heap.size, 0, none⟩ = some (.int .i64 0) := cell_later hLB (by simp [go_sem]); have y1 : wS2.cell? ⟨w11.heap.size, 1, none⟩ = some (.int .i64 0) := cell_later hLB (by simp [go_sem]); have y2 : wS2.cell? ⟨w11.heap.size, 2, none⟩ = some (.slice none 0 0) := cell_later hLB (by simp [go_sem]); have y3 : wS2.cell? ⟨w11.heap.size, 3, none⟩ = some (.slice none 0 0) := cell_later hLB (by simp [go_sem]); have fy : ∀ j, wS2.frozen? ⟨w11.heap.size, j, none⟩ = false := (fun j => by rw [hLB.frozen (by simp)]; simp [go_sem]); have hWR := auR_weak (base' := w11.heap.size + 1) HR (Nat.le_trans (by simp : w11.heap.size + 1 ≤ (w11.alloc (.cells #[.int .i64 0, .int .i64 0, .slice none 0 0, .slice none 0 0] 28)).heap.size) (bl_size (w := (w11.alloc (.cells #[.int .i64 0, .int .i64 0, .slice none 0 0, .slice none 0 0] 28))) (by (repeat (first | exact Below.refl _ _ | apply Below.drew | apply bl_alloc | apply bl_set | (refine bl_tr ?_ hTS) | (refine bl_tr ?_ hT1) | (refine bl_tr ?_ hT0))); done))); clear HR; have HR := hWR; clear hWR hLB; obtain ⟨bb, hbb⟩ : ∃ b, b = w11.heap.size := ⟨_, rfl⟩; obtain ⟨uaH, ucH, rfl⟩ := inI_sl (auR_inI HR); obtain ⟨vaH, vcH, rfl⟩ := inT_sl (auR_inT HR)) | (go_at_call 34; with_reducible refine (i_BothAuto _ _ _ _ a0 a1 _ HSM0.out HSM1.out (inI_below sf0a (by (repeat (first | exact Below.refl _ _ | apply Below.drew | apply bl_alloc | apply bl_set | (refine bl_tr ?_ hTS) | (refine bl_tr ?_ hT1) | (refine bl_tr ?_ hT0))); done)) (inT_below sf0b (by (repeat (first | exact Below.refl _ _ | apply Below.drew | apply bl_alloc | apply bl_set | (refine bl_tr ?_ hTS) | (refine bl_tr ?_ hT1) | (refine bl_tr ?_ hT0))); done)) (inI_below sf1a (by (repeat (first | exact Below.refl _ _ | apply Below.drew | apply bl_alloc | apply bl_set | (refine bl_tr ?_ hTS) | (refine bl_tr ?_ hT1) | (refine bl_tr ?_ hT0))); done)) (inT_below sf1b (by (repeat (first | exact Below.refl _ _ | apply Below.drew | apply bl_alloc | apply bl_set | (refine bl_tr ?_ hTS) | (refine bl_tr ?_ hT1) | (refine bl_tr ?_ hT0))); done))  ).mono ?_; rintro e wS2 ⟨uH, vH, vsH, rfl, HR, hTS⟩; refine bl_hv (P := Below (w11.drew.alloc (.cells #[.int .i64 0, .int .i64 0, .slice none 0 0, .slice none 0 0] 28)).heap.size (w11.drew.alloc (.cells #[.int .i64 0, .int .i64 0, .slice none 0 0, .slice none 0 0] 28)) wS2) ?_ (fun hLB => ?_); (focus ((repeat (first | exact Below.refl _ _ | apply Below.drew | apply bl_alloc | apply bl_set | (refine bl_tr ?_ hTS) | (refine bl_tr ?_ hT1) | (refine bl_tr ?_ hT0))); done)); have y0 : wS2.cell? ⟨w11.heap.size, 0, none⟩ = some (.int .i64 0) := cell_later hLB (by simp [go_sem]); have y1 : wS2.cell? ⟨w11.heap.size, 1, none⟩ = some (.int .i64 0) := cell_later hLB (by simp [go_sem]); have y2 : wS2.cell? ⟨w11.heap.size, 2, none⟩ = some (.slice none 0 0) := cell_later hLB (by simp [go_sem]); have y3 : wS2.cell? ⟨w11.heap.size, 3, none⟩ = some (.slice none 0 0) := cell_later hLB (by simp [go_sem]); have fy : ∀ j, wS2.frozen? ⟨w11.heap.size, j, none⟩ = false := (fun j => by rw [hLB.frozen (by simp)]; simp [go_sem]); have hWR := auR_weak (base' := w11.heap.size + 1) HR (Nat.le_trans (by simp : w11.heap.size + 1 ≤ (w11.drew.alloc (.cells #[.int .i64 0, .int .i64 0, .slice none 0 0, .slice none 0 0] 28)).heap.size) (bl_size (w := (w11.drew.alloc (.cells #[.int .i64 0, .int .i64 0, .slice none 0 0, .slice none 0 0] 28))) (by (repeat (first | exact Below.refl _ _ | apply Below.drew | apply bl_alloc | apply bl_set | (refine bl_tr ?_ hTS) | (refine bl_tr ?_ hT1) | (refine bl_tr ?_ hT0))); done))); clear HR; have HR := hWR; clear hWR hLB; obtain ⟨bb, hbb⟩ : ∃ b, b = w11.heap.size := ⟨_, rfl⟩; obtain ⟨uaH, ucH, rfl⟩ := inI_sl (auR_inI HR); obtain ⟨vaH, vcH, rfl⟩ := inT_sl (auR_inT HR)) | (go_at_call 34; with_reducible refine (i_BothAuto _ _ _ _ a0 a1 _ HSM0.out HSM1.out (inI_below sf0a (by (repeat (first | exact Below.refl _ _ | apply Below.drew | apply bl_alloc | apply bl_set | (refine bl_tr ?_ hTS) | (refine bl_tr ?_ hT1) | (refine bl_tr ?_ hT0))); done)) (inT_below sf0b (by (repeat (first | exact Below.refl _ _ | apply Below.drew | apply bl_alloc | apply bl_set | (refine bl_tr ?_ hTS) | (refine bl_tr ?_ hT1) | (refine bl_tr ?_ hT0))); done)) (inI_below sf1a (by (repeat (first | exact Below.refl _ _ | apply Below.drew | apply bl_alloc | apply bl_set | (refine bl_tr ?_ hTS) | (refine bl_tr ?_ hT1) | (refine bl_tr ?_ hT0))); done)) (inT_below sf1b (by (repeat (first | exact Below.refl _ _ | apply Below.drew | apply bl_alloc | apply bl_set | (refine bl_tr ?_ hTS) | (refine bl_tr ?_ hT1) | (refine bl_tr ?_ hT0))); done))  ).mono ?_; rintro e wS2 ⟨uH, vH, vsH, rfl, HR, hTS⟩; obtain ⟨bb, hbb⟩ : ∃ b, b = wS2.heap.size := ⟨_, rfl⟩; obtain ⟨uaH, ucH, rfl⟩ := inI_sl (auR_inI HR); obtain ⟨vaH, vcH, rfl⟩ := inT_sl (auR_inT HR)))
      all_goals rename_i hS
      all_goals first | (have hP := put4 (.int .i64 (boR a0 a1).st) (.int .i64 (boR a0 a1).sa) (.slice uaH (boR a0 a1).fi.length ucH) (.slice vaH (boR a0 a1).nx.length vcH) y0 y1 y2 y3; rw [← hbb] at hP hS HR ⊢; refine gen_then (fun wz2 => Below w11.heap.size w11 wz2 ∧ (wz2.cell? ⟨bb, 0, none⟩ = some (.int .i64 (boR a0 a1).st) ∧ wz2.cell? ⟨bb, 1, none⟩ = some (.int .i64 (boR a0 a1).sa) ∧ wz2.cell? ⟨bb, 2, none⟩ = some (.slice uaH (boR a0 a1).fi.length ucH) ∧ wz2.cell? ⟨bb, 3, none⟩ = some (.slice vaH (boR a0 a1).nx.length vcH)) ∧ AuR 0 wz2 (.slice uaH (boR a0 a1).fi.length ucH) (.slice vaH (boR a0 a1).nx.length vcH) vsH (boR a0 a1)) ⟨hS.1, hP, auR_weak (auR_set (auR_set (auR_set (auR_set HR (Nat.lt_succ_self _)) (Nat.lt_succ_self _)) (Nat.lt_succ_self _)) (Nat.lt_succ_self _)) (Nat.zero_le _)⟩ ?_; intro wz2 hz2; exact REST.out s0a s0b s1a s1b bb wz2 uaH ucH vaH vcH vsH hz2) | (have hP := put4 (.int .i64 (boR a0 a1).st) (.int .i64 (boR a0 a1).sa) (.slice uaH (boR a0 a1).fi.length ucH) (.slice vaH (boR a0 a1).nx.length vcH) y0 y1 y2 y3; rw [← hbb] at hP hS HR ⊢; refine gen_then (fun wz2 => Below w11.heap.size w11 wz2 ∧ (wz2.cell? ⟨bb, 0, none⟩ = some (.int .i64 (boR a0 a1).st) ∧ wz2.cell? ⟨bb, 1, none⟩ = some (.int .i64 (boR a0 a1).sa) ∧ wz2.cell? ⟨bb, 2, none⟩ = some (.slice uaH (boR a0 a1).fi.length ucH) ∧ wz2.cell? ⟨bb, 3, none⟩ = some (.slice vaH (boR a0 a1).nx.length vcH)) ∧ AuR 0 wz2 (.slice uaH (boR a0 a1).fi.length ucH) (.slice vaH (boR a0 a1).nx.length vcH) vsH (boR a0 a1)) ⟨below_eq hbb hS.1, hP, auR_weak (auR_set (auR_set (auR_set (auR_set HR (Nat.lt_succ_self _)) (Nat.lt_succ_self _)) (Nat.lt_succ_self _)) (Nat.lt_succ_self _)) (Nat.zero_le _)⟩ ?_; intro wz2 hz2; exact REST.out s0a s0b s1a s1b bb wz2 uaH ucH vaH vcH vsH hz2) | (rw [← hbb]; refine gen_then (fun wz2 => Below w11.heap.size w11 wz2 ∧ (wz2.cell? ⟨bb, 0, none⟩ = some (.int .i64 (boR a0 a1).st) ∧ wz2.cell? ⟨bb, 1, none⟩ = some (.int .i64 (boR a0 a1).sa) ∧ wz2.cell? ⟨bb, 2, none⟩ = some (.slice uaH (boR a0 a1).fi.length ucH) ∧ wz2.cell? ⟨bb, 3, none⟩ = some (.slice vaH (boR a0 a1).nx.length vcH)) ∧ AuR 0 wz2 (.slice uaH (boR a0 a1).fi.length ucH) (.slice vaH (boR a0 a1).nx.length vcH) vsH (boR a0 a1)) ⟨hS.1, put4n _ (.int .i64 (boR a0 a1).st) (.int .i64 (boR a0 a1).sa) (.slice uaH (boR a0 a1).fi.length ucH) (.slice vaH (boR a0 a1).nx.length vcH) hbb, auR_weak (auR_after HR ((Below.refl _ _).alloc (Nat.le_refl _) _)) (Nat.zero_le _)⟩ ?_; intro wz2 hz2; exact REST.out s0a s0b s1a s1b bb wz2 uaH ucH vaH vcH vsH hz2)
    · intro s0a s0b s1a s1b bx2 wz2 uaH ucH vaH vcH vsH hz2
      clear c0_0 c0_1 c0_2 c0_3 k0_0 k0_1 c1_0 c1_1 c1_2 c1_3 k1_0 k1_1
      clear HSS0
      obtain ⟨hzB, ⟨hzc0, hzc1, hzc2, hzc3⟩, HR⟩ := hz2
      have zG0' := cell_later hzB zG0
      clear zG0
      have zG0 := zG0'
      clear zG0'
      have zG1' := cell_later hzB zG1
      clear zG1
      have zG1 := zG1'
      clear zG1'
      have zG2' := cell_later hzB zG2
      clear zG2
      have zG2 := zG2'
      clear zG2'
      have zG3' := cell_later hzB zG3
      clear zG3
      have zG3 := zG3'
      clear zG3'
      have GR' := auR_after GR hzB
      clear GR
      have GR := GR'
      clear GR'
      have BZ' := BZ.trans (hzB.mono BZ.size)
      clear BZ
      have BZ := BZ'
      clear BZ'
      have BW' := BW.trans (hzB.mono BW.size)
      clear BW
      have BW := BW'
      clear BW'
      clear hzB
      have pW0 := cell_later BW HWB0.out
      have pW1 := cell_later BW HWB1.out
      have pW2 := cell_later BW HWB2.out
      have pW3 := cell_later BW HWB3.out
      go_wp2_with fail
      refine (l_eqAuto _ _ _ _ (boR a0 a1) _ HRS.out (auR_inI HR) (auR_inT HR) (inI_below WI.out.1 BW) (inT_below WI.out.2 BW)).mono ?_
      rintro e w12 ⟨rfl, hb12⟩
      have zG0' := cell_later hb12 zG0
      clear zG0
      have zG0 := zG0'
      clear zG0'
      have zG1' := cell_later hb12 zG1
      clear zG1
      have zG1 := zG1'
      clear zG1'
      have zG2' := cell_later hb12 zG2
      clear zG2
      have zG2 := zG2'
      clear zG2'
      have zG3' := cell_later hb12 zG3
      clear zG3
      have zG3 := zG3'
      clear zG3'
      have GR' := auR_after GR hb12
      clear GR
      have GR := GR'
      clear GR'
      have HR' := auR_after HR hb12
      clear HR
      have HR := HR'
      clear HR'
      have BZ' := BZ.trans (hb12.mono BZ.size)
      clear BZ
      have BZ := BZ'
      clear BZ'
      have BW' := BW.trans (hb12.mono BW.size)
      clear BW
      have BW := BW'
      clear BW'
      clear hb12 pW0 pW1 pW2 pW3
      clear hzc0 hzc1 hzc2 hzc3
      go_wp2_with fail
      refine (l_heldAuto _ _ _ _ _ (boR a0 a1) ((w4.alloc (.cells #[.int .i64 a1.st, .int .i64 a1.sa, .slice (some ⟨x1a, 0, none⟩) a1.fi.length a1.fi.length, .slice (some ⟨x1b, 0, none⟩) a1.nx.length a1.nx.length] 28)).heap.size) _ HRS.out GR).mono ?_
      rintro e w13 ⟨rfl, hb13⟩
      have zG0' := cell_later hb13 zG0
      clear zG0
      have zG0 := zG0'
      clear zG0'
      have zG1' := cell_later hb13 zG1
      clear zG1
      have zG1 := zG1'
      clear zG1'
      have zG2' := cell_later hb13 zG2
      clear zG2
      have zG2 := zG2'
      clear zG2'
      have zG3' := cell_later hb13 zG3
      clear zG3
      have zG3 := zG3'
      clear zG3'
      have GR' := auR_after GR hb13
      clear GR
      have GR := GR'
      clear GR'
      have HR' := auR_after HR hb13
      clear HR
      have HR := HR'
      clear HR'
      have BZ' := BZ.trans (hb13.mono BZ.size)
      clear BZ
      have BZ := BZ'
      clear BZ'
      have BW' := BW.trans (hb13.mono BW.size)
      clear BW
      have BW := BW'
      clear BW'
      clear hb13
      have BF := HBX.out _ BZ
      clear BZ BW GR HR b0_0 b0_1 b0_2 b0_3 m0_0 m0_1 b1_0 b1_1 b1_2 b1_3 m1_0 m1_1
      go_wp2
      go_ret
      exact ⟨rfl, BF⟩
end Go.Proofs.Ytefcdkgfabaffaa

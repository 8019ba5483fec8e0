/- The law of ValidAuto. -/
import Derived.Test.YtefcdkgfabaffaaHF
namespace Go.Proofs.Ytefcdkgfabaffaa
open Go.ChangeShapes Go.WideShapes Go.RowKit
set_option linter.unusedVariables false
set_option linter.unusedSimpArgs false
set_option maxHeartbeats 4000000
set_option maxRecDepth 100000
theorem walk_FnExactValidAuto (v : Value) (a : Au) (w : World) (h0 : InAu w v a) (h0b : a.fi.length ≤ 9223372036854775807 ∧ a.nx.length ≤ 9223372036854775807) (h0c : ∀ r ∈ a.nx, r.length ≤ 9223372036854775807) :
    Calls Try.prog 4 #[v] w fun e w' => e = .returned (.bool true) ∧ Below w.heap.size w w' := by
  obtain ⟨u1, u2, rfl, hi1, hi2⟩ := h0
  have HS := Lib.hid (fun (u1 u2 : Value) w hs h1 h2 => s_ValidAuto u1 u2 a w hs h1 h2)
  have HI := Lib.hid (fun (u1 u2 : Value) w hs h1 h2 => i_ValidAuto u1 u2 a w hs h1 h2)
  have hbx := (Below.refl w.heap.size w).alloc (Nat.le_refl _) (.cells #[.int .i64 a.st, .int .i64 a.sa, u1, u2] 25)
  have b0 : (w.alloc (.cells #[.int .i64 a.st, .int .i64 a.sa, u1, u2] 25)).cell? ⟨w.heap.size, 0, none⟩ = some (.int .i64 a.st) := by simp [go_sem]
  have b1 : (w.alloc (.cells #[.int .i64 a.st, .int .i64 a.sa, u1, u2] 25)).cell? ⟨w.heap.size, 1, none⟩ = some (.int .i64 a.sa) := by simp [go_sem]
  have b2 : (w.alloc (.cells #[.int .i64 a.st, .int .i64 a.sa, u1, u2] 25)).cell? ⟨w.heap.size, 2, none⟩ = some (u1) := by simp [go_sem]
  have b3 : (w.alloc (.cells #[.int .i64 a.st, .int .i64 a.sa, u1, u2] 25)).cell? ⟨w.heap.size, 3, none⟩ = some (u2) := by simp [go_sem]
  have i1 := inI_below hi1 hbx
  have i2 := inT_below hi2 hbx
  have HBX : Hid (∀ w', Below (w.alloc (.cells #[.int .i64 a.st, .int .i64 a.sa, u1, u2] 25)).heap.size (w.alloc (.cells #[.int .i64 a.st, .int .i64 a.sa, u1, u2] 25)) w' → Below w.heap.size w w') := fun w' h => below_box h
  clear hi1 hi2 hbx
  go_enter Try.func4, Try.ntmps4
  go_wp2_with fail
  refine (l_szAuto u1 u2 a 1048576 _ (by omega) i1 i2 h0b.1 h0b.2 h0c).mono ?_
  rintro e w1 ⟨hb1, rfl | ⟨m1, rfl, hm1, hsa⟩⟩
  · clear h0b h0c b0 b1 b2 b3 i1 i2 HS HI
    have hbb := HBX.out _ hb1
    clear hb1
    go_wp2
    go_ret
    exact ⟨rfl, hbb⟩
  · have HSA := Lib.hid hsa
    have e0 := cell_later hb1 b0
    have e1 := cell_later hb1 b1
    have e2 := cell_later hb1 b2
    have e3 := cell_later hb1 b3
    have j1 := inI_below i1 hb1
    have j2 := inT_below i2 hb1
    clear h0b h0c hsa
    go_wp2_with fail
    refine (l_toAuto2 u1 u2 a w1 HSA.out j1 j2).mono ?_
    rintro e w2 ⟨p2, q2, rfl, p2i, q2t, hb2⟩
    have B2 := hb1.trans (hb2.mono hb1.size)
    have f0 := cell_later B2 b0
    have f1 := cell_later B2 b1
    have f2 := cell_later B2 b2
    have f3 := cell_later B2 b3
    clear e0 e1 e2 e3 j1 j2 hb1 hb2
    go_wp2_with fail
    refine (HS.out _ _ w2 HSA.out p2i q2t).mono ?_
    rintro e w3 ⟨rfl, hb3⟩
    have B3 := B2.trans (hb3.mono B2.size)
    have g0 := cell_later B3 b0
    have g1 := cell_later B3 b1
    have g2 := cell_later B3 b2
    have g3 := cell_later B3 b3
    have k1 := inI_below i1 B3
    have k2 := inT_below i2 B3
    clear f0 f1 f2 f3 p2i q2t hb3 B2
    go_wp2_with fail
    refine (l_toAuto2 u1 u2 a w3 HSA.out k1 k2).mono ?_
    rintro e w4 ⟨p3, q3, rfl, p3i, q3t, hb4⟩
    have B4 := B3.trans (hb4.mono B3.size)
    have a4 := (Below.refl _ w4).alloc (Nat.le_refl _) (.cells #[.int .i64 a.st, .int .i64 a.sa, .slice (some ⟨p3, 0, none⟩) a.fi.length a.fi.length, .slice (some ⟨q3, 0, none⟩) a.nx.length a.nx.length] 28)
    have B4' := B4.alloc B4.size (.cells #[.int .i64 a.st, .int .i64 a.sa, .slice (some ⟨p3, 0, none⟩) a.fi.length a.fi.length, .slice (some ⟨q3, 0, none⟩) a.nx.length a.nx.length] 28)
    have h0 := cell_later B4' b0
    have h1 := cell_later B4' b1
    have h2 := cell_later B4' b2
    have h3 := cell_later B4' b3
    have x0 : (w4.alloc (.cells #[.int .i64 a.st, .int .i64 a.sa, .slice (some ⟨p3, 0, none⟩) a.fi.length a.fi.length, .slice (some ⟨q3, 0, none⟩) a.nx.length a.nx.length] 28)).cell? ⟨w4.heap.size, 0, none⟩ = some (.int .i64 a.st) := by simp [go_sem]
    have x1 : (w4.alloc (.cells #[.int .i64 a.st, .int .i64 a.sa, .slice (some ⟨p3, 0, none⟩) a.fi.length a.fi.length, .slice (some ⟨q3, 0, none⟩) a.nx.length a.nx.length] 28)).cell? ⟨w4.heap.size, 1, none⟩ = some (.int .i64 a.sa) := by simp [go_sem]
    have x2 : (w4.alloc (.cells #[.int .i64 a.st, .int .i64 a.sa, .slice (some ⟨p3, 0, none⟩) a.fi.length a.fi.length, .slice (some ⟨q3, 0, none⟩) a.nx.length a.nx.length] 28)).cell? ⟨w4.heap.size, 2, none⟩ = some (.slice (some ⟨p3, 0, none⟩) a.fi.length a.fi.length) := by simp [go_sem]
    have x3 : (w4.alloc (.cells #[.int .i64 a.st, .int .i64 a.sa, .slice (some ⟨p3, 0, none⟩) a.fi.length a.fi.length, .slice (some ⟨q3, 0, none⟩) a.nx.length a.nx.length] 28)).cell? ⟨w4.heap.size, 3, none⟩ = some (.slice (some ⟨q3, 0, none⟩) a.nx.length a.nx.length) := by simp [go_sem]
    have xi := inI_below p3i a4
    have xt := inT_below q3t a4
    clear hb4 B4 B3 g0 g1 g2 g3 k1 k2 p3i q3t a4
    go_wp2_with fail
    refine (HI.out _ _ _ HSA.out xi xt).mono ?_
    rintro e w5 ⟨rfl, hb5⟩
    have B5 := B4'.trans (hb5.mono B4'.size)
    have c0 := cell_later B5 b0
    have z0 := cell_later hb5 x0
    have c1 := cell_later B5 b1
    have z1 := cell_later hb5 x1
    have c2 := cell_later B5 b2
    have z2 := cell_later hb5 x2
    have c3 := cell_later B5 b3
    have z3 := cell_later hb5 x3
    have k1 := inI_below i1 B5
    have k2 := inT_below i2 B5
    have zi := inI_below xi hb5
    have zt := inT_below xt hb5
    clear hb5 B4' h0 h1 h2 h3 x0 x1 x2 x3 xi xt
    generalize auOk a = rr at *
    have hrr : (rr != rr) = false := by simp
    go_wp2
    go_region_held3 (fun w' => Below w5.heap.size w5 w' ∧ w'.cell? ⟨w.heap.size, 0, none⟩ = some (.int .i64 a.st) ∧ w'.cell? ⟨w.heap.size, 1, none⟩ = some (.int .i64 a.sa) ∧ w'.cell? ⟨w.heap.size, 2, none⟩ = some (u1) ∧ w'.cell? ⟨w.heap.size, 3, none⟩ = some (u2) ∧ w'.cell? ⟨w4.heap.size, 0, none⟩ = some (.int .i64 a.st) ∧ w'.cell? ⟨w4.heap.size, 1, none⟩ = some (.int .i64 a.sa) ∧ w'.cell? ⟨w4.heap.size, 2, none⟩ = some (.slice (some ⟨p3, 0, none⟩) a.fi.length a.fi.length) ∧ w'.cell? ⟨w4.heap.size, 3, none⟩ = some (.slice (some ⟨q3, 0, none⟩) a.nx.length a.nx.length) ∧ InI w' u1 a.fi ∧ InT w' u2 a.nx ∧ InI w' (.slice (some ⟨p3, 0, none⟩) a.fi.length a.fi.length) a.fi ∧ InT w' (.slice (some ⟨q3, 0, none⟩) a.nx.length a.nx.length) a.nx) ((first | (go_split_ands; (repeat' apply And.intro) <;> first | assumption | exact Below.drew (Below.refl _ _) | exact Below.drew (by assumption) | exact inI_below (by assumption) (Below.drew (Below.refl _ _)) | exact inT_below (by assumption) (Below.drew (Below.refl _ _)) | exact cell_later hbA (by assumption) | exact inI_below (by assumption) hbA | exact inT_below (by assumption) hbA | exact Below.trans ‹Below w5.heap.size w5 _› (hbA.mono (Below.size ‹Below w5.heap.size w5 _›)) | exact cell_later hbF (by assumption) | exact inI_below (by assumption) hbF | exact inT_below (by assumption) hbF | exact Below.trans ‹Below w5.heap.size w5 _› (hbF.mono (Below.size ‹Below w5.heap.size w5 _›)) | (simp; assumption)))) (first | (go_at_call 19; with_reducible refine (l_toAuto2 u1 u2 a _ HSA.out (by first | assumption | (go_split_ands; assumption)) (by first | assumption | (go_split_ands; assumption))).mono ?_; rintro e wA ⟨pA, qA, rfl, iA, tA', hbA⟩) | (go_at_call 21; with_reducible refine (l_eqAuto _ _ _ _ a _ HSA.out (by first | exact zi | exact inI_below zi (Below.drew (Below.refl _ _)) | exact inI_below zi hbA | exact inI_below (inI_below zi hbA) (Below.drew (Below.refl _ _)) | exact inI_below (inI_below zi (Below.drew (Below.refl _ _))) hbA | exact inI_below (inI_below (inI_below zi (Below.drew (Below.refl _ _))) hbA) (Below.drew (Below.refl _ _))) (by first | exact zt | exact inT_below zt (Below.drew (Below.refl _ _)) | exact inT_below zt hbA | exact inT_below (inT_below zt hbA) (Below.drew (Below.refl _ _)) | exact inT_below (inT_below zt (Below.drew (Below.refl _ _))) hbA | exact inT_below (inT_below (inT_below zt (Below.drew (Below.refl _ _))) hbA) (Below.drew (Below.refl _ _))) (by first | exact iA | exact inI_below iA (Below.drew (Below.refl _ _))) (by first | exact tA' | exact inT_below tA' (Below.drew (Below.refl _ _)))).mono ?_; rintro e wF ⟨rfl, hbF⟩))
    rename_i hS
    have BF := HBX.out _ (B5.trans (hS.1.mono B5.size))
    clear hS hbF hbA iA tA' c0 c1 c2 c3 z0 z1 z2 z3 k1 k2 zi zt B5
    go_wp2
    go_ret
    exact ⟨rfl, BF⟩
end Go.Proofs.Ytefcdkgfabaffaa

/- The law of SameAuto. -/
import Derived.Test.YtefcdkgfabaffaaHC
namespace Go.Proofs.Ytefcdkgfabaffaa
open Go.ChangeShapes Go.WideShapes Go.RowKit
set_option linter.unusedVariables false
set_option linter.unusedSimpArgs false
set_option maxHeartbeats 4000000
set_option maxRecDepth 100000
theorem l_toAuto2 (u1 u2 : Value) (a : Au) (w : World) (hs : auSm a) (h1 : InI w u1 a.fi) (h2 : InT w u2 a.nx) :
    Calls Try.prog 19 #[.agg #[.int .i64 a.st, .int .i64 a.sa, u1, u2]] w fun e w' => ∃ g1 g2, e = .returned (.agg #[.int .i64 a.st, .int .i64 a.sa, .slice (some ⟨g1, 0, none⟩) a.fi.length a.fi.length, .slice (some ⟨g2, 0, none⟩) a.nx.length a.nx.length]) ∧ InI w' (.slice (some ⟨g1, 0, none⟩) a.fi.length a.fi.length) a.fi ∧ InT w' (.slice (some ⟨g2, 0, none⟩) a.nx.length a.nx.length) a.nx ∧ Below w.heap.size w w' := by
  refine (l_toAuto u1 u2 a w hs h1 h2).mono ?_
  rintro e w' ⟨g1, g2, rfl, h3, h4, _, hb⟩
  exact ⟨_, _, rfl, inI_own h3, ownT_in h4, hb⟩
theorem walk_FnExactSameAuto (v : Value) (a : Au) (v2 : Value) (b : Au) (w : World) (h0 : InAu w v a) (h0b : a.fi.length ≤ 9223372036854775807 ∧ a.nx.length ≤ 9223372036854775807) (h0c : ∀ r ∈ a.nx, r.length ≤ 9223372036854775807) (h1 : InAu w v2 b) (h1b : b.fi.length ≤ 9223372036854775807 ∧ b.nx.length ≤ 9223372036854775807) (h1c : ∀ r ∈ b.nx, r.length ≤ 9223372036854775807) :
    Calls Try.prog 3 #[v, v2] w fun e w' => e = .returned (.bool true) ∧ Below w.heap.size w w' := by
  obtain ⟨u1, u2, rfl, hi1, hi2⟩ := h0
  obtain ⟨y1, y2, rfl, hi3, hi4⟩ := h1
  have hbx := ((Below.refl w.heap.size w).alloc (Nat.le_refl _) (.cells #[.int .i64 a.st, .int .i64 a.sa, u1, u2] 25)).alloc (by simp) (.cells #[.int .i64 b.st, .int .i64 b.sa, y1, y2] 25)
  have b0 : ((w.alloc (.cells #[.int .i64 a.st, .int .i64 a.sa, u1, u2] 25)).alloc (.cells #[.int .i64 b.st, .int .i64 b.sa, y1, y2] 25)).cell? ⟨w.heap.size, 0, none⟩ = some (.int .i64 a.st) := by simp [go_sem]
  have b1 : ((w.alloc (.cells #[.int .i64 a.st, .int .i64 a.sa, u1, u2] 25)).alloc (.cells #[.int .i64 b.st, .int .i64 b.sa, y1, y2] 25)).cell? ⟨w.heap.size, 1, none⟩ = some (.int .i64 a.sa) := by simp [go_sem]
  have b2 : ((w.alloc (.cells #[.int .i64 a.st, .int .i64 a.sa, u1, u2] 25)).alloc (.cells #[.int .i64 b.st, .int .i64 b.sa, y1, y2] 25)).cell? ⟨w.heap.size, 2, none⟩ = some (u1) := by simp [go_sem]
  have b3 : ((w.alloc (.cells #[.int .i64 a.st, .int .i64 a.sa, u1, u2] 25)).alloc (.cells #[.int .i64 b.st, .int .i64 b.sa, y1, y2] 25)).cell? ⟨w.heap.size, 3, none⟩ = some (u2) := by simp [go_sem]
  have d0 : ((w.alloc (.cells #[.int .i64 a.st, .int .i64 a.sa, u1, u2] 25)).alloc (.cells #[.int .i64 b.st, .int .i64 b.sa, y1, y2] 25)).cell? ⟨(w.heap.size + 1), 0, none⟩ = some (.int .i64 b.st) := by simp [go_sem]
  have d1 : ((w.alloc (.cells #[.int .i64 a.st, .int .i64 a.sa, u1, u2] 25)).alloc (.cells #[.int .i64 b.st, .int .i64 b.sa, y1, y2] 25)).cell? ⟨(w.heap.size + 1), 1, none⟩ = some (.int .i64 b.sa) := by simp [go_sem]
  have d2 : ((w.alloc (.cells #[.int .i64 a.st, .int .i64 a.sa, u1, u2] 25)).alloc (.cells #[.int .i64 b.st, .int .i64 b.sa, y1, y2] 25)).cell? ⟨(w.heap.size + 1), 2, none⟩ = some (y1) := by simp [go_sem]
  have d3 : ((w.alloc (.cells #[.int .i64 a.st, .int .i64 a.sa, u1, u2] 25)).alloc (.cells #[.int .i64 b.st, .int .i64 b.sa, y1, y2] 25)).cell? ⟨(w.heap.size + 1), 3, none⟩ = some (y2) := by simp [go_sem]
  have i1 := inI_below hi1 hbx
  have i2 := inT_below hi2 hbx
  have i3 := inI_below hi3 hbx
  have i4 := inT_below hi4 hbx
  have HBX : Hid (∀ w', Below ((w.alloc (.cells #[.int .i64 a.st, .int .i64 a.sa, u1, u2] 25)).alloc (.cells #[.int .i64 b.st, .int .i64 b.sa, y1, y2] 25)).heap.size ((w.alloc (.cells #[.int .i64 a.st, .int .i64 a.sa, u1, u2] 25)).alloc (.cells #[.int .i64 b.st, .int .i64 b.sa, y1, y2] 25)) w' → Below w.heap.size w w') := fun w' h => below_box (below_box h)
  clear hi1 hi2 hi3 hi4 hbx
  go_enter Try.func3, Try.ntmps3
  go_wp2_with fail
  refine (l_szAuto u1 u2 a 1048576 _ (by omega) i1 i2 h0b.1 h0b.2 h0c).mono ?_
  rintro e w1 ⟨hb1, rfl | ⟨m1, rfl, hm1, hsa⟩⟩
  · clear h0b h0c h1b h1c b0 b1 b2 b3 d0 d1 d2 d3 i1 i2 i3 i4
    have hbb := HBX.out _ hb1
    clear hb1
    go_wp2
    go_ret
    exact ⟨rfl, hbb⟩
  · have HSA := Lib.hid hsa
    have e0 := cell_later hb1 d0
    have e1 := cell_later hb1 d1
    have e2 := cell_later hb1 d2
    have e3 := cell_later hb1 d3
    have j3 := inI_below i3 hb1
    have j4 := inT_below i4 hb1
    clear h0b h0c hsa
    go_wp2_with fail
    refine (l_szAuto y1 y2 b m1 _ hm1 j3 j4 h1b.1 h1b.2 h1c).mono ?_
    rintro e w2 ⟨hb2, rfl | ⟨m2, rfl, hm2, hsb⟩⟩
    · clear h1b h1c b0 b1 b2 b3 d0 d1 d2 d3 i1 i2 i3 i4 e0 e1 e2 e3 j3 j4
      have hbb := HBX.out _ (hb1.trans (hb2.mono hb1.size))
      clear hb1 hb2
      go_wp2
      go_ret
      exact ⟨rfl, hbb⟩
    · have B2 := hb1.trans (hb2.mono hb1.size)
      have HSB := Lib.hid hsb
      have c0 := cell_later B2 b0
      have f0 := cell_later B2 d0
      have c1 := cell_later B2 b1
      have f1 := cell_later B2 d1
      have c2 := cell_later B2 b2
      have f2 := cell_later B2 d2
      have c3 := cell_later B2 b3
      have f3 := cell_later B2 d3
      have k1 := inI_below i1 B2
      have k2 := inT_below i2 B2
      have k3 := inI_below i3 B2
      have k4 := inT_below i4 B2
      clear h1b h1c hsb e0 e1 e2 e3 j3 j4 hb1 hb2
      go_wp2
      go_region_held3 (fun w' => Below w2.heap.size w2 w' ∧ w'.cell? ⟨w.heap.size, 0, none⟩ = some (.int .i64 a.st) ∧ w'.cell? ⟨w.heap.size, 1, none⟩ = some (.int .i64 a.sa) ∧ w'.cell? ⟨w.heap.size, 2, none⟩ = some (u1) ∧ w'.cell? ⟨w.heap.size, 3, none⟩ = some (u2) ∧ w'.cell? ⟨(w.heap.size + 1), 0, none⟩ = some (.int .i64 b.st) ∧ w'.cell? ⟨(w.heap.size + 1), 1, none⟩ = some (.int .i64 b.sa) ∧ w'.cell? ⟨(w.heap.size + 1), 2, none⟩ = some (y1) ∧ w'.cell? ⟨(w.heap.size + 1), 3, none⟩ = some (y2) ∧ InI w' u1 a.fi ∧ InT w' u2 a.nx ∧ InI w' y1 b.fi ∧ InT w' y2 b.nx) ((first | (go_split_ands; (repeat' apply And.intro) <;> first | assumption | exact Below.drew (Below.refl _ _) | exact Below.drew (by assumption) | exact inI_below (by assumption) (Below.drew (Below.refl _ _)) | exact inT_below (by assumption) (Below.drew (Below.refl _ _)) | exact cell_later hbA (by assumption) | exact inI_below (by assumption) hbA | exact inT_below (by assumption) hbA | exact Below.trans ‹Below w2.heap.size w2 _› (hbA.mono (Below.size ‹Below w2.heap.size w2 _›)) | exact cell_later hbB (by assumption) | exact inI_below (by assumption) hbB | exact inT_below (by assumption) hbB | exact Below.trans ‹Below w2.heap.size w2 _› (hbB.mono (Below.size ‹Below w2.heap.size w2 _›)) | exact cell_later hbC (by assumption) | exact inI_below (by assumption) hbC | exact inT_below (by assumption) hbC | exact Below.trans ‹Below w2.heap.size w2 _› (hbC.mono (Below.size ‹Below w2.heap.size w2 _›)) | (simp; assumption)))) (first | (go_at_call 19; with_reducible refine (l_toAuto2 u1 u2 a _ HSA.out (by first | assumption | (go_split_ands; assumption)) (by first | assumption | (go_split_ands; assumption))).mono ?_; rintro e wA ⟨pA, qA, rfl, iA, tA', hbA⟩) | (go_at_call 19; with_reducible refine (l_toAuto2 y1 y2 b _ HSB.out (by first | assumption | (go_split_ands; assumption)) (by first | assumption | (go_split_ands; assumption))).mono ?_; rintro e wB ⟨pB, qB, rfl, iB, tB', hbB⟩) | (go_at_call 18; with_reducible refine (s_SameAuto _ _ _ _ a b _ HSA.out HSB.out (by first | exact iA | exact inI_below iA (Below.drew (Below.refl _ _)) | exact inI_below iA hbB | exact inI_below (inI_below iA hbB) (Below.drew (Below.refl _ _)) | exact inI_below (inI_below iA (Below.drew (Below.refl _ _))) hbB | exact inI_below (inI_below (inI_below iA (Below.drew (Below.refl _ _))) hbB) (Below.drew (Below.refl _ _))) (by first | exact tA' | exact inT_below tA' (Below.drew (Below.refl _ _)) | exact inT_below tA' hbB | exact inT_below (inT_below tA' hbB) (Below.drew (Below.refl _ _)) | exact inT_below (inT_below tA' (Below.drew (Below.refl _ _))) hbB | exact inT_below (inT_below (inT_below tA' (Below.drew (Below.refl _ _))) hbB) (Below.drew (Below.refl _ _))) (by first | exact iB | exact inI_below iB (Below.drew (Below.refl _ _)) | exact inI_below iB hbA | exact inI_below (inI_below iB hbA) (Below.drew (Below.refl _ _)) | exact inI_below (inI_below iB (Below.drew (Below.refl _ _))) hbA | exact inI_below (inI_below (inI_below iB (Below.drew (Below.refl _ _))) hbA) (Below.drew (Below.refl _ _))) (by first | exact tB' | exact inT_below tB' (Below.drew (Below.refl _ _)) | exact inT_below tB' hbA | exact inT_below (inT_below tB' hbA) (Below.drew (Below.refl _ _)) | exact inT_below (inT_below tB' (Below.drew (Below.refl _ _))) hbA | exact inT_below (inT_below (inT_below tB' (Below.drew (Below.refl _ _))) hbA) (Below.drew (Below.refl _ _)))).mono ?_; rintro e wC ⟨rfl, hbC⟩))
      all_goals
        rename_i hS
        have BC := B2.trans (hS.1.mono B2.size)
        have g0 := cell_later BC b0
        have g1 := cell_later BC b1
        have g2 := cell_later BC b2
        have g3 := cell_later BC b3
        have m1' := inI_below i1 BC
        have m2' := inT_below i2 BC
        clear hS hbC hbA hbB iA tA' iB tB' c0 c1 c2 c3 f0 f1 f2 f3 k1 k2 k3 k4 B2
        go_wp2_with fail
        refine (l_toAuto2 u1 u2 a wC HSA.out m1' m2').mono ?_
        rintro e w3 ⟨p3, q3, rfl, p3i, q3t, hb3⟩
        have B3 := BC.trans (hb3.mono BC.size)
        have a3 := (Below.refl _ w3).alloc (Nat.le_refl _) (.cells #[.int .i64 a.st, .int .i64 a.sa, .slice (some ⟨p3, 0, none⟩) a.fi.length a.fi.length, .slice (some ⟨q3, 0, none⟩) a.nx.length a.nx.length] 28)
        have B3' := B3.alloc B3.size (.cells #[.int .i64 a.st, .int .i64 a.sa, .slice (some ⟨p3, 0, none⟩) a.fi.length a.fi.length, .slice (some ⟨q3, 0, none⟩) a.nx.length a.nx.length] 28)
        have h0 := cell_later B3' d0
        have h1 := cell_later B3' d1
        have h2 := cell_later B3' d2
        have h3 := cell_later B3' d3
        have n3 := inI_below i3 B3'
        have n4 := inT_below i4 B3'
        have x0 : (w3.alloc (.cells #[.int .i64 a.st, .int .i64 a.sa, .slice (some ⟨p3, 0, none⟩) a.fi.length a.fi.length, .slice (some ⟨q3, 0, none⟩) a.nx.length a.nx.length] 28)).cell? ⟨w3.heap.size, 0, none⟩ = some (.int .i64 a.st) := by simp [go_sem]
        have x1 : (w3.alloc (.cells #[.int .i64 a.st, .int .i64 a.sa, .slice (some ⟨p3, 0, none⟩) a.fi.length a.fi.length, .slice (some ⟨q3, 0, none⟩) a.nx.length a.nx.length] 28)).cell? ⟨w3.heap.size, 1, none⟩ = some (.int .i64 a.sa) := by simp [go_sem]
        have x2 : (w3.alloc (.cells #[.int .i64 a.st, .int .i64 a.sa, .slice (some ⟨p3, 0, none⟩) a.fi.length a.fi.length, .slice (some ⟨q3, 0, none⟩) a.nx.length a.nx.length] 28)).cell? ⟨w3.heap.size, 2, none⟩ = some (.slice (some ⟨p3, 0, none⟩) a.fi.length a.fi.length) := by simp [go_sem]
        have x3 : (w3.alloc (.cells #[.int .i64 a.st, .int .i64 a.sa, .slice (some ⟨p3, 0, none⟩) a.fi.length a.fi.length, .slice (some ⟨q3, 0, none⟩) a.nx.length a.nx.length] 28)).cell? ⟨w3.heap.size, 3, none⟩ = some (.slice (some ⟨q3, 0, none⟩) a.nx.length a.nx.length) := by simp [go_sem]
        have xi := inI_below p3i a3
        have xt := inT_below q3t a3
        clear hb3 B3 BC g0 g1 g2 g3 m1' m2' p3i q3t a3
        go_wp2_with fail
        refine (l_toAuto2 y1 y2 b _ HSB.out n3 n4).mono ?_
        rintro e w4 ⟨p4, q4, rfl, p4i, q4t, hb4⟩
        have B4 := B3'.trans (hb4.mono B3'.size)
        have a4 := (Below.refl _ w4).alloc (Nat.le_refl _) (.cells #[.int .i64 b.st, .int .i64 b.sa, .slice (some ⟨p4, 0, none⟩) b.fi.length b.fi.length, .slice (some ⟨q4, 0, none⟩) b.nx.length b.nx.length] 28)
        have B4' := B4.alloc B4.size (.cells #[.int .i64 b.st, .int .i64 b.sa, .slice (some ⟨p4, 0, none⟩) b.fi.length b.fi.length, .slice (some ⟨q4, 0, none⟩) b.nx.length b.nx.length] 28)
        have z0 := cell_later a4 (cell_later hb4 x0)
        have z1 := cell_later a4 (cell_later hb4 x1)
        have z2 := cell_later a4 (cell_later hb4 x2)
        have z3 := cell_later a4 (cell_later hb4 x3)
        have zi := inI_below (inI_below xi hb4) a4
        have zt := inT_below (inT_below xt hb4) a4
        have y0' : (w4.alloc (.cells #[.int .i64 b.st, .int .i64 b.sa, .slice (some ⟨p4, 0, none⟩) b.fi.length b.fi.length, .slice (some ⟨q4, 0, none⟩) b.nx.length b.nx.length] 28)).cell? ⟨w4.heap.size, 0, none⟩ = some (.int .i64 b.st) := by simp [go_sem]
        have y1' : (w4.alloc (.cells #[.int .i64 b.st, .int .i64 b.sa, .slice (some ⟨p4, 0, none⟩) b.fi.length b.fi.length, .slice (some ⟨q4, 0, none⟩) b.nx.length b.nx.length] 28)).cell? ⟨w4.heap.size, 1, none⟩ = some (.int .i64 b.sa) := by simp [go_sem]
        have y2' : (w4.alloc (.cells #[.int .i64 b.st, .int .i64 b.sa, .slice (some ⟨p4, 0, none⟩) b.fi.length b.fi.length, .slice (some ⟨q4, 0, none⟩) b.nx.length b.nx.length] 28)).cell? ⟨w4.heap.size, 2, none⟩ = some (.slice (some ⟨p4, 0, none⟩) b.fi.length b.fi.length) := by simp [go_sem]
        have y3' : (w4.alloc (.cells #[.int .i64 b.st, .int .i64 b.sa, .slice (some ⟨p4, 0, none⟩) b.fi.length b.fi.length, .slice (some ⟨q4, 0, none⟩) b.nx.length b.nx.length] 28)).cell? ⟨w4.heap.size, 3, none⟩ = some (.slice (some ⟨q4, 0, none⟩) b.nx.length b.nx.length) := by simp [go_sem]
        have yi := inI_below p4i a4
        have yt := inT_below q4t a4
        clear hb4 B4 B3' h0 h1 h2 h3 n3 n4 p4i q4t a4 x0 x1 x2 x3 xi xt
        go_wp2_with fail
        refine (i_SameAuto _ _ _ _ a b _ HSA.out HSB.out zi zt yi yt).mono ?_
        rintro e w5 ⟨rfl, hb5⟩
        have B5 := B4'.trans (hb5.mono B4'.size)
        have c0 := cell_later B5 b0
        have f0 := cell_later B5 d0
        have z05 := cell_later hb5 z0
        have y05 := cell_later hb5 y0'
        have c1 := cell_later B5 b1
        have f1 := cell_later B5 d1
        have z15 := cell_later hb5 z1
        have y15 := cell_later hb5 y1'
        have c2 := cell_later B5 b2
        have f2 := cell_later B5 d2
        have z25 := cell_later hb5 z2
        have y25 := cell_later hb5 y2'
        have c3 := cell_later B5 b3
        have f3 := cell_later B5 d3
        have z35 := cell_later hb5 z3
        have y35 := cell_later hb5 y3'
        have k1 := inI_below i1 B5
        have k2 := inT_below i2 B5
        have k3 := inI_below i3 B5
        have k4 := inT_below i4 B5
        have zi5 := inI_below zi hb5
        have zt5 := inT_below zt hb5
        have yi5 := inI_below yi hb5
        have yt5 := inT_below yt hb5
        clear hb5 B4' z0 z1 z2 z3 zi zt y0' y1' y2' y3' yi yt
        generalize auE a b = rr at *
        have hrr : (rr != rr) = false := by simp
        go_wp2
        go_region_held3 (fun w' => Below w5.heap.size w5 w' ∧ w'.cell? ⟨w.heap.size, 0, none⟩ = some (.int .i64 a.st) ∧ w'.cell? ⟨w.heap.size, 1, none⟩ = some (.int .i64 a.sa) ∧ w'.cell? ⟨w.heap.size, 2, none⟩ = some (u1) ∧ w'.cell? ⟨w.heap.size, 3, none⟩ = some (u2) ∧ w'.cell? ⟨w3.heap.size, 0, none⟩ = some (.int .i64 a.st) ∧ w'.cell? ⟨w3.heap.size, 1, none⟩ = some (.int .i64 a.sa) ∧ w'.cell? ⟨w3.heap.size, 2, none⟩ = some (.slice (some ⟨p3, 0, none⟩) a.fi.length a.fi.length) ∧ w'.cell? ⟨w3.heap.size, 3, none⟩ = some (.slice (some ⟨q3, 0, none⟩) a.nx.length a.nx.length) ∧ InI w' u1 a.fi ∧ InT w' u2 a.nx ∧ InI w' (.slice (some ⟨p3, 0, none⟩) a.fi.length a.fi.length) a.fi ∧ InT w' (.slice (some ⟨q3, 0, none⟩) a.nx.length a.nx.length) a.nx) ((first | (go_split_ands; (repeat' apply And.intro) <;> first | assumption | exact Below.drew (Below.refl _ _) | exact Below.drew (by assumption) | exact inI_below (by assumption) (Below.drew (Below.refl _ _)) | exact inT_below (by assumption) (Below.drew (Below.refl _ _)) | exact cell_later hbA (by assumption) | exact inI_below (by assumption) hbA | exact inT_below (by assumption) hbA | exact Below.trans ‹Below w5.heap.size w5 _› (hbA.mono (Below.size ‹Below w5.heap.size w5 _›)) | exact cell_later hbF (by assumption) | exact inI_below (by assumption) hbF | exact inT_below (by assumption) hbF | exact Below.trans ‹Below w5.heap.size w5 _› (hbF.mono (Below.size ‹Below w5.heap.size w5 _›)) | (simp; assumption)))) (first | (go_at_call 19; with_reducible refine (l_toAuto2 u1 u2 a _ HSA.out (by first | assumption | (go_split_ands; assumption)) (by first | assumption | (go_split_ands; assumption))).mono ?_; rintro e wA ⟨pA, qA, rfl, iA, tA', hbA⟩) | (go_at_call 21; with_reducible refine (l_eqAuto _ _ _ _ a _ HSA.out (by first | exact zi5 | exact inI_below zi5 (Below.drew (Below.refl _ _)) | exact inI_below zi5 hbA | exact inI_below (inI_below zi5 hbA) (Below.drew (Below.refl _ _)) | exact inI_below (inI_below zi5 (Below.drew (Below.refl _ _))) hbA | exact inI_below (inI_below (inI_below zi5 (Below.drew (Below.refl _ _))) hbA) (Below.drew (Below.refl _ _))) (by first | exact zt5 | exact inT_below zt5 (Below.drew (Below.refl _ _)) | exact inT_below zt5 hbA | exact inT_below (inT_below zt5 hbA) (Below.drew (Below.refl _ _)) | exact inT_below (inT_below zt5 (Below.drew (Below.refl _ _))) hbA | exact inT_below (inT_below (inT_below zt5 (Below.drew (Below.refl _ _))) hbA) (Below.drew (Below.refl _ _))) (by first | exact iA | exact inI_below iA (Below.drew (Below.refl _ _))) (by first | exact tA' | exact inT_below tA' (Below.drew (Below.refl _ _)))).mono ?_; rintro e wF ⟨rfl, hbF⟩))
        rename_i hS
        have BF := B5.trans (hS.1.mono B5.size)
        have g0 := cell_later hS.1 f0
        have r0 := cell_later hS.1 y05
        have g1 := cell_later hS.1 f1
        have r1 := cell_later hS.1 y15
        have g2 := cell_later hS.1 f2
        have r2 := cell_later hS.1 y25
        have g3 := cell_later hS.1 f3
        have r3 := cell_later hS.1 y35
        have k5 := inI_below k3 hS.1
        have k6 := inT_below k4 hS.1
        have k7 := inI_below yi5 hS.1
        have k8 := inT_below yt5 hS.1
        clear hS hbF hbA iA tA' c0 c1 c2 c3 f0 f1 f2 f3 z05 z15 z25 z35 y05 y15 y25 y35 k1 k2 k3 k4 zi5 zt5 yi5 yt5 B5
        go_wp2
        go_region_held3 (fun w' => Below wF.heap.size wF w' ∧ w'.cell? ⟨(w.heap.size + 1), 0, none⟩ = some (.int .i64 b.st) ∧ w'.cell? ⟨(w.heap.size + 1), 1, none⟩ = some (.int .i64 b.sa) ∧ w'.cell? ⟨(w.heap.size + 1), 2, none⟩ = some (y1) ∧ w'.cell? ⟨(w.heap.size + 1), 3, none⟩ = some (y2) ∧ w'.cell? ⟨w4.heap.size, 0, none⟩ = some (.int .i64 b.st) ∧ w'.cell? ⟨w4.heap.size, 1, none⟩ = some (.int .i64 b.sa) ∧ w'.cell? ⟨w4.heap.size, 2, none⟩ = some (.slice (some ⟨p4, 0, none⟩) b.fi.length b.fi.length) ∧ w'.cell? ⟨w4.heap.size, 3, none⟩ = some (.slice (some ⟨q4, 0, none⟩) b.nx.length b.nx.length) ∧ InI w' y1 b.fi ∧ InT w' y2 b.nx ∧ InI w' (.slice (some ⟨p4, 0, none⟩) b.fi.length b.fi.length) b.fi ∧ InT w' (.slice (some ⟨q4, 0, none⟩) b.nx.length b.nx.length) b.nx) ((first | (go_split_ands; (repeat' apply And.intro) <;> first | assumption | exact Below.drew (Below.refl _ _) | exact Below.drew (by assumption) | exact inI_below (by assumption) (Below.drew (Below.refl _ _)) | exact inT_below (by assumption) (Below.drew (Below.refl _ _)) | exact cell_later hbG (by assumption) | exact inI_below (by assumption) hbG | exact inT_below (by assumption) hbG | exact Below.trans ‹Below wF.heap.size wF _› (hbG.mono (Below.size ‹Below wF.heap.size wF _›)) | exact cell_later hbH (by assumption) | exact inI_below (by assumption) hbH | exact inT_below (by assumption) hbH | exact Below.trans ‹Below wF.heap.size wF _› (hbH.mono (Below.size ‹Below wF.heap.size wF _›)) | (simp; assumption)))) (first | (go_at_call 19; with_reducible refine (l_toAuto2 y1 y2 b _ HSB.out (by first | assumption | (go_split_ands; assumption)) (by first | assumption | (go_split_ands; assumption))).mono ?_; rintro e wG ⟨pG, qG, rfl, iG, tG', hbG⟩) | (go_at_call 21; with_reducible refine (l_eqAuto _ _ _ _ b _ HSB.out (by first | exact k7 | exact inI_below k7 (Below.drew (Below.refl _ _)) | exact inI_below k7 hbG | exact inI_below (inI_below k7 hbG) (Below.drew (Below.refl _ _)) | exact inI_below (inI_below k7 (Below.drew (Below.refl _ _))) hbG | exact inI_below (inI_below (inI_below k7 (Below.drew (Below.refl _ _))) hbG) (Below.drew (Below.refl _ _))) (by first | exact k8 | exact inT_below k8 (Below.drew (Below.refl _ _)) | exact inT_below k8 hbG | exact inT_below (inT_below k8 hbG) (Below.drew (Below.refl _ _)) | exact inT_below (inT_below k8 (Below.drew (Below.refl _ _))) hbG | exact inT_below (inT_below (inT_below k8 (Below.drew (Below.refl _ _))) hbG) (Below.drew (Below.refl _ _))) (by first | exact iG | exact inI_below iG (Below.drew (Below.refl _ _))) (by first | exact tG' | exact inT_below tG' (Below.drew (Below.refl _ _)))).mono ?_; rintro e wH ⟨rfl, hbH⟩))
        rename_i hS
        have BH := HBX.out _ (BF.trans (hS.1.mono BF.size))
        clear hS hbH hbG iG tG' g0 g1 g2 g3 r0 r1 r2 r3 k5 k6 k7 k8 BF
        go_wp2
        go_ret
        exact ⟨rfl, BH⟩
end Go.Proofs.Ytefcdkgfabaffaa

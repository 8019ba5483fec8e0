/- CodedLength: the reference's length of a code, both functions, the law. -/
import Derived.Test.YtefcdkgfabaffaaKF
namespace Go.Proofs.Ytefcdkgfabaffaa
open Go.ChangeShapes Go.WideShapes Go.RowKit
set_option linter.unusedVariables false
set_option linter.unusedSimpArgs false
set_option maxHeartbeats 2000000
set_option maxRecDepth 100000
/-- what is kept may grow on the way -/
theorem wpAnyH_str {P : Program} {md : Region.Mode} {ops : Array Oper} {Q : Exit → Act → World → Prop} {S S' : World → Prop} (h : ∀ w, S' w → S w) : ∀ (fuel : Nat) (listed : Array Bool) (a : Act) (w : World), wpAnyH P md ops Q S' fuel listed a w → wpAnyH P md ops Q S fuel listed a w
  | 0, _, _, _, g => g
  | fuel + 1, _, _, _, g => ⟨g.1, fun i hi => wpOp_mono (fun a' w' g' => ⟨h _ g'.1, wpAnyH_str h fuel _ a' w' g'.2⟩) (g.2 i hi)⟩
theorem s_l04Long (bm bg : Nat) (u1 u2 vg : Value) (a : Co) (l : List Ru) (w : World) (hok : gOk l = true) (hco : coOk a = true)
    (c1 : w.cell? ⟨bm, 1, none⟩ = some (.int .i64 a.sa)) (c2 : w.cell? ⟨bm, 2, none⟩ = some u1) (c3 : w.cell? ⟨bm, 3, none⟩ = some u2) (c4 : w.cell? ⟨bg, 0, none⟩ = some vg) (h1 : InT w u1 a.nx) (h2 : InU w u2 a.ou) (hg : InRu w vg l) :
    Calls Try.prog 116 #[.pointer (some ⟨bm, 0, none⟩), .pointer (some ⟨bg, 0, none⟩)] w fun e w' => e = .returned (.int .i64 (cdN fC a l)) ∧ Below w.heap.size w w' := by
  obtain ⟨an, cn, rfl⟩ := inT_sl h1
  obtain ⟨au, cu, rfl⟩ := inU_sl h2
  obtain ⟨ag, cg, rfl⟩ := inRu_sl hg
  have hl400 := (gOk_some hok).1
  by_cases hz : l.length = 0
  · have hr : cdN fC a l = 0 := by rw [cdN, if_pos hz]
    rw [hr]
    rw [hz] at c4
    clear hr hl400 h1 h2 hg hok hco c1 c2 c3
    go_enter Try.func116, Try.ntmps116
    go_wp2
    go_ret
    exact ⟨rfl, Below.refl _ _⟩
  · obtain ⟨f1, f2, f3, f4, f5, f6⟩ := coOk_facts hco
    obtain ⟨p0, hp0⟩ := Int.eq_ofNat_of_zero_le f2.1
    have hnl : a.nx.length ≤ 24 := by omega
    have hp1 : p0 < a.nx.length := by omega
    obtain ⟨j, hj⟩ : ∃ j, l.length - 1 = j := ⟨_, rfl⟩
    have H := cdP_of hco hok
    have HNT : Hid (cdN fC a l = (tA (cdT fC (gSm a.nx l) a.ou a.nx.length l l.length) j).getD p0 0) := by
      show cdN fC a l = _
      rw [cdN, if_neg hz, hp0, hj]; simp
    have HMp := Lib.hid (fun w i1 c4 ig => s_l04Maps (.slice an a.nx.length cn) bg 0 cg ag a.nx l w hok hnl f5 i1 c4 ig)
    have HCd := Lib.hid (fun vm w c2 c3 c4 i1 i2 ig im => s_l04Coded bm bg vm (.slice an a.nx.length cn) (.slice au a.ou.length cu) (.slice ag l.length cg) (gSm a.nx l) a l w H (smT_len a.nx l l.length) (fun p hp => smT_row a.nx l hp) hnl (by omega) (fun s hs => (f6 s (by omega)).1) c2 c3 c4 i1 i2 ig im)
    have HCL : Hid (∀ (w : World) (base : Nat) (v : Value), OwnT base w v (cdT fC (gSm a.nx l) a.ou a.nx.length l l.length) → ∃ bt ot co cp gp fp, v = .slice (some ⟨bt, ot, none⟩) l.length co ∧ w.cell? ⟨bt, ot + j, none⟩ = some (.slice (some ⟨gp, fp, none⟩) a.nx.length cp) ∧ w.cell? ⟨gp, fp + p0, none⟩ = some (.int .i64 ((tA (cdT fC (gSm a.nx l) a.ou a.nx.length l l.length) j).getD p0 0))) := by
      intro w base v h
      have htl := cdT_len fC (gSm a.nx l) a.ou a.nx.length l l.length
      obtain ⟨ao, co, rfl⟩ := inT_sl (ownT_in h)
      obtain ⟨bt, ot, rfl, hlt0, hall⟩ := inT_all (ownT_in h) (by omega)
      obtain ⟨rp, cp, hcp, hip⟩ := hall j (by omega)
      have hrow := cdT_row fC (gSm a.nx l) a.ou a.nx.length l (show j < l.length by omega)
      obtain ⟨gp, fp, rfl, hlt1, hvp⟩ := inI_at hip (show p0 < _ by rw [hrow]; exact hp1)
      rw [hrow] at hcp
      exact ⟨bt, ot, co, cp, gp, fp, by rw [htl], hcp, hvp⟩
    rw [HNT.out]
    have hij : (l.length : Int) - 1 = (j : Int) := by omega
    have hjl : (j : Int) < l.length := by omega
    have hwj : IntKind.i64.wrap ((l.length : Int) - 1) = (j : Int) := by rw [hij]; exact IntWalk.i64_in _ (by omega)
    have hwj2 : IntKind.i64.wrap (j : Int) = (j : Int) := IntWalk.i64_in _ (by omega)
    have hj0 : ((l.length : Int) == 0) = false := by rw [beq_eq_false_iff_ne]; omega
    have hpl : (p0 : Int) < a.nx.length := by omega
    rw [hp0] at c1
    clear HNT H f1 f2 f3 f4 f5 f6 hj hp0 hok hco hz
    generalize cdT fC (gSm a.nx l) a.ou a.nx.length l l.length = T at *
    generalize gSm a.nx l = MT at *
    generalize (tA T j).getD p0 0 = res at *
    go_enter Try.func116, Try.ntmps116
    go_wp2
    refine wp_region_held_drew (S := fun w' => Below w.heap.size w w' ∧ w'.cell? ⟨bm, 1, none⟩ = some (.int .i64 p0) ∧ w'.cell? ⟨bm, 2, none⟩ = some (.slice an a.nx.length cn) ∧ w'.cell? ⟨bm, 3, none⟩ = some (.slice au a.ou.length cu) ∧ w'.cell? ⟨bg, 0, none⟩ = some (.slice ag l.length cg) ∧ InT w' (.slice an a.nx.length cn) a.nx ∧ InU w' (.slice au a.ou.length cu) a.ou ∧ InRu w' (.slice ag l.length cg) l) (by kernel_rfl) ⟨Below.drew (Below.refl _ _), c1, c2, c3, c4, inT_below h1 (Below.drew (Below.refl _ _)), inU_below h2 (Below.drew (Below.refl _ _)), inRu_below hg (Below.drew (Below.refl _ _))⟩ (fun hHeld => ?_)
    refine wpAnyH_take (i := 0) (v := ?_) rfl (by kernel_rfl) (by kernel_rfl) (by kernel_rfl) (fun _ _ _ h => h) (Or.inl ⟨by rfl, ?_⟩) (by assumption) ?_
    rotate_left
    · intro w hSw
      try dsimp only at hSw
      go_simp
      all_goals with_reducible rfl
    try simp only [Act.put, List.setIfInBounds_toArray, List.set_cons_zero, List.set_cons_succ]
    refine wpAnyH_take (i := 1) (v := ?_) rfl (by kernel_rfl) (by kernel_rfl) (by kernel_rfl) (fun _ _ _ h => h) (Or.inl ⟨by rfl, ?_⟩) (by assumption) ?_
    rotate_left
    · intro w hSw
      try dsimp only at hSw
      go_simp
      all_goals with_reducible rfl
    try simp only [Act.put, List.setIfInBounds_toArray, List.set_cons_zero, List.set_cons_succ]
    refine wpAnyH_take (i := 2) (v := ?_) rfl (by kernel_rfl) (by kernel_rfl) (by kernel_rfl) (fun _ _ _ h => h) (Or.inl ⟨by rfl, ?_⟩) (by assumption) ?_
    rotate_left
    · intro w hSw
      try dsimp only at hSw
      go_simp
      all_goals with_reducible rfl
    try simp only [Act.put, List.setIfInBounds_toArray, List.set_cons_zero, List.set_cons_succ]
    refine wpAnyH_take (i := 3) (v := ?_) rfl (by kernel_rfl) (by kernel_rfl) (by kernel_rfl) (fun _ _ _ h => h) (Or.inl ⟨by rfl, ?_⟩) (by assumption) ?_
    rotate_left
    · intro w hSw
      try dsimp only at hSw
      go_simp
      all_goals with_reducible rfl
    try simp only [Act.put, List.setIfInBounds_toArray, List.set_cons_zero, List.set_cons_succ]
    refine wpAnyH_take (i := 4) (v := ?_) rfl (by kernel_rfl) (by kernel_rfl) (by kernel_rfl) (fun _ _ _ h => h) (Or.inl ⟨by rfl, ?_⟩) (by assumption) ?_
    rotate_left
    · intro w hSw
      try dsimp only at hSw
      go_simp
      all_goals with_reducible rfl
    try simp only [Act.put, List.setIfInBounds_toArray, List.set_cons_zero, List.set_cons_succ]
    refine wpAnyH_take (i := 5) (v := ?_) rfl (by kernel_rfl) (by kernel_rfl) (by kernel_rfl) (fun _ _ _ h => h) (Or.inl ⟨by rfl, ?_⟩) (by assumption) ?_
    rotate_left
    · intro w hSw
      try dsimp only at hSw
      go_simp
      all_goals with_reducible rfl
    try simp only [Act.put, List.setIfInBounds_toArray, List.set_cons_zero, List.set_cons_succ]
    refine wpAnyH_take (i := 6) (v := ?_) rfl (by kernel_rfl) (by kernel_rfl) (by kernel_rfl) (fun _ _ _ h => h) (Or.inl ⟨by rfl, ?_⟩) (by assumption) ?_
    rotate_left
    · intro w hSw
      try dsimp only at hSw
      go_simp
      all_goals with_reducible rfl
    try simp only [Act.put, List.setIfInBounds_toArray, List.set_cons_zero, List.set_cons_succ]
    refine wpAnyH_take (i := 9) (v := ?_) rfl (by kernel_rfl) (by kernel_rfl) (by kernel_rfl) (fun _ _ _ h => h) (Or.inl ⟨by rfl, ?_⟩) (by assumption) ?_
    rotate_left
    · intro w hSw
      try dsimp only at hSw
      go_simp
      all_goals with_reducible rfl
    try simp only [Act.put, List.setIfInBounds_toArray, List.set_cons_zero, List.set_cons_succ]
    refine wpAnyH_take (i := 10) (v := ?_) rfl (by kernel_rfl) (by kernel_rfl) (by kernel_rfl) (fun _ _ _ h => h) (Or.inl ⟨by rfl, ?_⟩) (by assumption) ?_
    rotate_left
    · intro w hSw
      try dsimp only at hSw
      go_simp
      all_goals with_reducible rfl
    try simp only [Act.put, List.setIfInBounds_toArray, List.set_cons_zero, List.set_cons_succ]
    refine wpAnyH_take (i := 11) (v := ?_) rfl (by kernel_rfl) (by kernel_rfl) (by kernel_rfl) (fun _ _ _ h => h) (Or.inl ⟨by rfl, ?_⟩) (by assumption) ?_
    rotate_left
    · intro w hSw
      try dsimp only at hSw
      go_simp
      all_goals with_reducible rfl
    try simp only [Act.put, List.setIfInBounds_toArray, List.set_cons_zero, List.set_cons_succ]
    refine wpAnyH_take (i := 12) (v := ?_) rfl (by kernel_rfl) (by kernel_rfl) (by kernel_rfl) (fun _ _ _ h => h) (Or.inl ⟨by rfl, ?_⟩) (by assumption) ?_
    rotate_left
    · intro w hSw
      try dsimp only at hSw
      go_simp
      all_goals with_reducible rfl
    try simp only [Act.put, List.setIfInBounds_toArray, List.set_cons_zero, List.set_cons_succ]
    refine wpAnyH_take (i := 13) (v := ?_) rfl (by kernel_rfl) (by kernel_rfl) (by kernel_rfl) (fun _ _ _ h => h) (Or.inl ⟨by rfl, ?_⟩) (by assumption) ?_
    rotate_left
    · intro w hSw
      try dsimp only at hSw
      go_simp
      all_goals with_reducible rfl
    try simp only [Act.put, List.setIfInBounds_toArray, List.set_cons_zero, List.set_cons_succ]
    refine wpAnyH_take (i := 14) (v := ?_) rfl (by kernel_rfl) (by kernel_rfl) (by kernel_rfl) (fun _ _ _ h => h) (Or.inl ⟨by rfl, ?_⟩) (by assumption) ?_
    rotate_left
    · intro w hSw
      try dsimp only at hSw
      go_simp
      all_goals with_reducible rfl
    try simp only [Act.put, List.setIfInBounds_toArray, List.set_cons_zero, List.set_cons_succ]
    refine wpAnyH_take (i := 17) (v := ?_) rfl (by kernel_rfl) (by kernel_rfl) (by kernel_rfl) (fun _ _ _ h => h) (Or.inl ⟨by rfl, ?_⟩) (by assumption) ?_
    rotate_left
    · intro w hSw
      try dsimp only at hSw
      go_simp
      all_goals with_reducible rfl
    try simp only [Act.put, List.setIfInBounds_toArray, List.set_cons_zero, List.set_cons_succ]
    refine wpAnyH_take (i := 18) (v := ?_) rfl (by kernel_rfl) (by kernel_rfl) (by kernel_rfl) (fun _ _ _ h => h) (Or.inl ⟨by rfl, ?_⟩) (by assumption) ?_
    rotate_left
    · intro w hSw
      try dsimp only at hSw
      go_simp
      all_goals with_reducible rfl
    try simp only [Act.put, List.setIfInBounds_toArray, List.set_cons_zero, List.set_cons_succ]
    refine wpAnyH_take (i := 19) (v := ?_) rfl (by kernel_rfl) (by kernel_rfl) (by kernel_rfl) (fun _ _ _ h => h) (Or.inl ⟨by rfl, ?_⟩) (by assumption) ?_
    rotate_left
    · intro w hSw
      try dsimp only at hSw
      go_simp
      all_goals with_reducible rfl
    try simp only [Act.put, List.setIfInBounds_toArray, List.set_cons_zero, List.set_cons_succ]
    refine wpAnyH_take (i := 20) (v := ?_) rfl (by kernel_rfl) (by kernel_rfl) (by kernel_rfl) (fun _ _ _ h => h) (Or.inl ⟨by rfl, ?_⟩) (by assumption) ?_
    rotate_left
    · intro w hSw
      try dsimp only at hSw
      go_simp
      all_goals with_reducible rfl
    try simp only [Act.put, List.setIfInBounds_toArray, List.set_cons_zero, List.set_cons_succ]
    obtain ⟨s0, s1, s2, s3, s4, s5, s6, s7⟩ := hHeld
    refine wpAnyH_ready (rs := [7]) (by kernel_rfl) (by simp) ?_
    refine AllReadyH.cons rfl (fun K hK => ?_) AllReadyH.nil
    go_simp
    go_at_call 98
    refine (HMp.out _ s5 s4 s7).mono ?_
    rintro e wA ⟨vM, rfl, hoM, hbA⟩
    have t0 := s0.trans (hbA.mono s0.size)
    have t1 := cell_later hbA s1
    have t2 := cell_later hbA s2
    have t3 := cell_later hbA s3
    have t4 := cell_later hbA s4
    have t5 := inT_below s5 hbA
    have t6 := inU_below s6 hbA
    have t7 := inRu_below s7 hbA
    clear s0 s1 s2 s3 s4 s5 s6 s7
    go_wp2_with fail
    refine hK.out _ _ ⟨t0, t1, t2, t3, t4, t5, t6, t7⟩ (fun hHeld => ?_)
    clear hK K
    try simp only [Act.put, List.setIfInBounds_toArray, List.set_cons_zero, List.set_cons_succ]
    refine wpAnyH_ready (rs := [8]) (by kernel_rfl) (by simp) ?_
    refine AllReadyH.cons rfl (fun K hK => ?_) AllReadyH.nil
    go_simp
    go_at_call 146
    refine (HCd.out _ _ t2 t3 t4 t5 t6 t7 (ownT_in hoM)).mono ?_
    rintro e wC ⟨vC, rfl, hoC, hbC⟩
    obtain ⟨bt, ot, co, cp, gp, fp, rfl, pc0, pc1⟩ := HCL.out _ _ _ hoC
    have u0 := t0.trans (hbC.mono t0.size)
    have u1 := cell_later hbC t1
    have u2 := cell_later hbC t2
    have u3 := cell_later hbC t3
    have u4 := cell_later hbC t4
    have u5 := inT_below t5 hbC
    have u6 := inU_below t6 hbC
    have u7 := inRu_below t7 hbC
    clear t0 t1 t2 t3 t4 t5 t6 t7 hHeld hoM hoC hbA hbC
    go_wp2_with fail
    refine hK.out _ _ ⟨u0, u1, u2, u3, u4, u5, u6, u7⟩ (fun hHeld => ?_)
    clear hK K
    try simp only [Act.put, List.setIfInBounds_toArray, List.set_cons_zero, List.set_cons_succ]
    refine wpAnyH_str (S' := fun w' => (Below w.heap.size w w' ∧ w'.cell? ⟨bm, 1, none⟩ = some (.int .i64 p0) ∧ w'.cell? ⟨bm, 2, none⟩ = some (.slice an a.nx.length cn) ∧ w'.cell? ⟨bm, 3, none⟩ = some (.slice au a.ou.length cu) ∧ w'.cell? ⟨bg, 0, none⟩ = some (.slice ag l.length cg) ∧ InT w' (.slice an a.nx.length cn) a.nx ∧ InU w' (.slice au a.ou.length cu) a.ou ∧ InRu w' (.slice ag l.length cg) l) ∧ w'.cell? ⟨bt, ot + j, none⟩ = some (.slice (some ⟨gp, fp, none⟩) a.nx.length cp) ∧ w'.cell? ⟨gp, fp + p0, none⟩ = some (.int .i64 res)) (fun _ h => h.1) _ _ _ _ ?_
    have hHeld2 : (fun w' => (Below w.heap.size w w' ∧ w'.cell? ⟨bm, 1, none⟩ = some (.int .i64 p0) ∧ w'.cell? ⟨bm, 2, none⟩ = some (.slice an a.nx.length cn) ∧ w'.cell? ⟨bm, 3, none⟩ = some (.slice au a.ou.length cu) ∧ w'.cell? ⟨bg, 0, none⟩ = some (.slice ag l.length cg) ∧ InT w' (.slice an a.nx.length cn) a.nx ∧ InU w' (.slice au a.ou.length cu) a.ou ∧ InRu w' (.slice ag l.length cg) l) ∧ w'.cell? ⟨bt, ot + j, none⟩ = some (.slice (some ⟨gp, fp, none⟩) a.nx.length cp) ∧ w'.cell? ⟨gp, fp + p0, none⟩ = some (.int .i64 res)) wC := ⟨hHeld, pc0, pc1⟩
    clear hHeld u1 u2 u3 u4 u5 u6 u7
    refine wpAnyH_take (i := 15) (v := ?_) rfl (by kernel_rfl) (by kernel_rfl) (by kernel_rfl) (fun _ _ _ h => h) (Or.inl ⟨by rfl, ?_⟩) (by assumption) ?_
    rotate_left
    · intro w hSw
      try dsimp only at hSw
      go_simp
      all_goals with_reducible rfl
    try simp only [Act.put, List.setIfInBounds_toArray, List.set_cons_zero, List.set_cons_succ]
    refine wpAnyH_take (i := 16) (v := ?_) rfl (by kernel_rfl) (by kernel_rfl) (by kernel_rfl) (fun _ _ _ h => h) (Or.inl ⟨by rfl, ?_⟩) (by assumption) ?_
    rotate_left
    · intro w hSw
      try dsimp only at hSw
      go_simp
      all_goals with_reducible rfl
    try simp only [Act.put, List.setIfInBounds_toArray, List.set_cons_zero, List.set_cons_succ]
    refine wpAnyH_take (i := 21) (v := ?_) rfl (by kernel_rfl) (by kernel_rfl) (by kernel_rfl) (fun _ _ _ h => h) (Or.inl ⟨by rfl, ?_⟩) (by assumption) ?_
    rotate_left
    · intro w hSw
      try dsimp only at hSw
      go_simp
      all_goals with_reducible rfl
    try simp only [Act.put, List.setIfInBounds_toArray, List.set_cons_zero, List.set_cons_succ]
    refine wpAnyH_take (i := 22) (v := ?_) rfl (by kernel_rfl) (by kernel_rfl) (by kernel_rfl) (fun _ _ _ h => h) (Or.inl ⟨by rfl, ?_⟩) (by assumption) ?_
    rotate_left
    · intro w hSw
      try dsimp only at hSw
      go_simp
      all_goals with_reducible rfl
    try simp only [Act.put, List.setIfInBounds_toArray, List.set_cons_zero, List.set_cons_succ]
    refine wpAnyH_take (i := 23) (v := ?_) rfl (by kernel_rfl) (by kernel_rfl) (by kernel_rfl) (fun _ _ _ h => h) (Or.inl ⟨by rfl, ?_⟩) (by assumption) ?_
    rotate_left
    · intro w hSw
      try dsimp only at hSw
      go_simp
      all_goals with_reducible rfl
    try simp only [Act.put, List.setIfInBounds_toArray, List.set_cons_zero, List.set_cons_succ]
    refine wpAnyH_done (by kernel_rfl) ?_ _
    go_wp2
    go_ret
    exact ⟨rfl, u0⟩
theorem cd_cases {a : Co} {l : List Ru} (hco : coOk a = true) (hok : gOk l = true) : (cdN (fun x => x) a l ≤ 1000000000000000 ∧ cdV a l = cdN (fun x => x) a l ∧ cdC a l = 0) ∨ (¬ cdN (fun x => x) a l ≤ 1000000000000000 ∧ cdV a l = 0 ∧ cdC a l = 3) := by
  by_cases h : cdN (fun x => x) a l ≤ 1000000000000000
  · exact .inl ⟨h, by rw [cdV, hco, hok]; simp [h], by rw [cdC, hco, hok]; simp [h]⟩
  · exact .inr ⟨h, by rw [cdV, hco, hok]; simp [h], by rw [cdC, hco, hok]; simp [h]⟩
theorem cd_cases2 {a : Co} {l : List Ru} (hco : coOk a = true) (hok : gOk l = true) : (cdN fC a l ≤ 1000000000000000 ∧ cdV a l = cdN fC a l ∧ cdC a l = 0) ∨ (¬ cdN fC a l ≤ 1000000000000000 ∧ cdV a l = 0 ∧ cdC a l = 3) := by
  have h1 : cdN fC a l = min 1000000000000001 (cdN (fun x => x) a l) := (cdN_min hco hok).1
  rcases cd_cases hco hok with ⟨h, h2, h3⟩ | ⟨h, h2, h3⟩
  · exact .inl ⟨by omega, by omega, h3⟩
  · exact .inr ⟨by omega, h2, h3⟩
theorem i_CodedLength (u1 u2 vg : Value) (a : Co) (l : List Ru) (w : World) (hs : coSm a) (hn : l.length ≤ 1048576) (hsz : ∀ r ∈ l, r.1.size ≤ 1048576) (h1 : InT w u1 a.nx) (h2 : InU w u2 a.ou) (hg : InRu w vg l) :
    Calls Try.prog 57 #[.agg #[.int .i64 a.st, .int .i64 a.sa, u1, u2], .agg #[vg]] w fun e w' => e = .returned (.tuple #[.int .i64 (cdV a l), .int .i64 (cdC a l)]) ∧ Below w.heap.size w w' := by
  have hbx := ((Below.refl w.heap.size w).alloc (Nat.le_refl _) (.cells #[.int .i64 a.st, .int .i64 a.sa, u1, u2] 42)).alloc (by simp) (.cells #[vg] 59)
  have HV := Lib.hid (i_ValidCoder u1 u2 a _ hs (inT_below h1 hbx) (inU_below h2 hbx))
  have HG := Lib.hid (fun w i => i_ValidGrammar vg l w hn hsz i)
  have HN := Lib.hid (fun w hok hco i1 i2 ig => i_codedLength u1 u2 vg a l w hok hco i1 i2 ig)
  have HBX : Hid (∀ w', Below ((w.alloc (.cells #[.int .i64 a.st, .int .i64 a.sa, u1, u2] 42)).alloc (.cells #[vg] 59)).heap.size ((w.alloc (.cells #[.int .i64 a.st, .int .i64 a.sa, u1, u2] 42)).alloc (.cells #[vg] 59)) w' → Below w.heap.size w w') := fun w' h => below_box (below_box h)
  have HI1 := Lib.hid (inT_below h1 hbx)
  have HI2 := Lib.hid (inU_below h2 hbx)
  have HIG := Lib.hid (inRu_below hg hbx)
  clear h1 h2 hg hs hsz hbx
  cases hco : coOk a
  · have e1 : cdV a l = 0 := by rw [cdV, hco]; simp
    have e2 : cdC a l = 1 := by rw [cdC, hco]; simp
    rw [e1, e2]
    rw [hco] at HV
    clear e1 e2 hco HI1 HI2 HIG HN HG
    go_enter Try.func57, Try.ntmps57
    go_wp2_with fail
    refine (HV.out).mono ?_
    rintro e w2 ⟨rfl, hb2⟩
    have BF := HBX.out _ hb2
    clear hb2
    go_wp2
    go_ret2
    exact ⟨rfl, BF⟩
  · rw [hco] at HV
    cases hok : gOk l
    · have e1 : cdV a l = 0 := by rw [cdV, hok]; simp
      have e2 : cdC a l = 1 := by rw [cdC, hok]; simp
      rw [e1, e2]
      rw [hok] at HG
      clear e1 e2 hco hok HI1 HI2 HN
      go_enter Try.func57, Try.ntmps57
      go_wp2_with fail
      refine (HV.out).mono ?_
      rintro e w2 ⟨rfl, hb2⟩
      have d0 : w2.cell? ⟨w.heap.size + 1, 0, none⟩ = some vg := by rw [hb2.cell (by first | (simp; done) | (simp; omega))]; simp [go_sem]
      have ig := inRu_below HIG.out hb2
      go_wp2_with fail
      refine (HG.out _ ig).mono ?_
      rintro e w3 ⟨rfl, hb3⟩
      have BF := HBX.out _ (hb2.trans (hb3.mono hb2.size))
      clear hb2 hb3 d0 ig
      go_wp2
      go_ret2
      exact ⟨rfl, BF⟩
    · rw [hok] at HG
      have HN2 := Lib.hid (fun w => HN.out w hok hco)
      have HR := Lib.hid (cdN_min hco hok)
      have HQ := Lib.hid (cd_cases hco hok)
      generalize cdV a l = r1 at *
      generalize cdC a l = r2 at *
      clear hco hok HN HR
      go_enter Try.func57, Try.ntmps57
      go_wp2_with fail
      refine (HV.out).mono ?_
      rintro e w2 ⟨rfl, hb2⟩
      have d0 : w2.cell? ⟨w.heap.size + 1, 0, none⟩ = some vg := by rw [hb2.cell (by first | (simp; done) | (simp; omega))]; simp [go_sem]
      have c0 : w2.cell? ⟨w.heap.size, 0, none⟩ = some (.int .i64 a.st) := by rw [hb2.cell (by first | (simp; done) | (simp; omega))]; simp [go_sem]
      have c1 : w2.cell? ⟨w.heap.size, 1, none⟩ = some (.int .i64 a.sa) := by rw [hb2.cell (by first | (simp; done) | (simp; omega))]; simp [go_sem]
      have c2 : w2.cell? ⟨w.heap.size, 2, none⟩ = some u1 := by rw [hb2.cell (by first | (simp; done) | (simp; omega))]; simp [go_sem]
      have c3 : w2.cell? ⟨w.heap.size, 3, none⟩ = some u2 := by rw [hb2.cell (by first | (simp; done) | (simp; omega))]; simp [go_sem]
      have ig := inRu_below HIG.out hb2
      go_wp2_with fail
      refine (HG.out _ ig).mono ?_
      rintro e w3 ⟨rfl, hb3⟩
      have B3 := hb2.trans (hb3.mono hb2.size)
      have d0 := cell_later hb3 d0
      have c0 := cell_later hb3 c0
      have c1 := cell_later hb3 c1
      have c2 := cell_later hb3 c2
      have c3 := cell_later hb3 c3
      have i1 := inT_below HI1.out B3
      have i2 := inU_below HI2.out B3
      have ig := inRu_below HIG.out B3
      clear hb2 hb3
      go_wp2_with fail
      refine (HN2.out _ i1 i2 ig).mono ?_
      rintro e w4 ⟨rfl, hb4⟩
      have BF := HBX.out _ (B3.trans (hb4.mono B3.size))
      clear hb4 B3 i1 i2 ig d0 c0 c1 c2 c3
      generalize cdN (fun x => x) a l = n at *
      rcases HQ.out with ⟨hn, h1, h2⟩ | ⟨hn, h1, h2⟩
      · clear HQ
        go_wp2
        go_ret2
        subst h1; subst h2; exact ⟨rfl, BF⟩
      · clear HQ
        go_wp2
        go_ret2
        subst h1; subst h2; exact ⟨rfl, BF⟩
theorem s_CodedLength (u1 u2 vg : Value) (a : Co) (l : List Ru) (w : World) (hs : coSm a) (hn : l.length ≤ 1048576) (hsz : ∀ r ∈ l, r.1.size ≤ 1048576) (h1 : InT w u1 a.nx) (h2 : InU w u2 a.ou) (hg : InRu w vg l) :
    Calls Try.prog 56 #[.agg #[.int .i64 a.st, .int .i64 a.sa, u1, u2], .agg #[vg]] w fun e w' => e = .returned (.tuple #[.int .i64 (cdV a l), .int .i64 (cdC a l)]) ∧ Below w.heap.size w w' := by
  obtain ⟨ag, cg, rfl⟩ := inRu_sl hg
  have hbx := ((Below.refl w.heap.size w).alloc (Nat.le_refl _) (.cells #[.int .i64 a.st, .int .i64 a.sa, u1, u2] 42)).alloc (by simp) (.cells #[.slice ag l.length cg] 59)
  have HBX : Hid (∀ w', Below ((w.alloc (.cells #[.int .i64 a.st, .int .i64 a.sa, u1, u2] 42)).alloc (.cells #[.slice ag l.length cg] 59)).heap.size ((w.alloc (.cells #[.int .i64 a.st, .int .i64 a.sa, u1, u2] 42)).alloc (.cells #[.slice ag l.length cg] 59)) w' → Below w.heap.size w w') := fun w' h => below_box (below_box h)
  have HI1 := Lib.hid (inT_below h1 hbx)
  have HI2 := Lib.hid (inU_below h2 hbx)
  have HIG := Lib.hid (inRu_below hg hbx)
  have HV := Lib.hid (s_l04Coder w.heap.size 0 u1 u2 a _ hs (by simp [go_sem]) (by simp [go_sem]) (by simp [go_sem]) (by simp [go_sem]) HI1.out HI2.out)
  have HG := Lib.hid (fun w1 c i => s_l02Ok (w.heap.size + 1) 0 cg ag l w1 hn hsz c i)
  have HN := Lib.hid (fun w1 hok hco c1 c2 c3 c4 i1 i2 ig => s_l04Long w.heap.size (w.heap.size + 1) u1 u2 (.slice ag l.length cg) a l w1 hok hco c1 c2 c3 c4 i1 i2 ig)
  clear h1 h2 hg hs hsz hbx
  cases hco : coOk a
  · have e1 : cdV a l = 0 := by rw [cdV, hco]; simp
    have e2 : cdC a l = 1 := by rw [cdC, hco]; simp
    rw [e1, e2]
    rw [hco] at HV
    clear e1 e2 hco HI1 HI2 HIG HN HG
    go_enter Try.func56, Try.ntmps56
    go_wp2_with fail
    refine (HV.out).mono ?_
    rintro e w2 ⟨rfl, q2, rfl⟩
    have BF := HBX.out _ (below_drewN (Below.refl _ _) q2)
    go_wp2
    go_ret2
    exact ⟨rfl, BF⟩
  · rw [hco] at HV
    cases hok : gOk l
    · have e1 : cdV a l = 0 := by rw [cdV, hok]; simp
      have e2 : cdC a l = 1 := by rw [cdC, hok]; simp
      rw [e1, e2]
      rw [hok] at HG
      clear e1 e2 hco hok HI1 HI2 HN
      go_enter Try.func56, Try.ntmps56
      go_wp2_with fail
      refine (HV.out).mono ?_
      rintro e w2 ⟨rfl, q2, rfl⟩
      have hb2 := below_drewN (Below.refl ((w.alloc (.cells #[.int .i64 a.st, .int .i64 a.sa, u1, u2] 42)).alloc (.cells #[.slice ag l.length cg] 59)).heap.size ((w.alloc (.cells #[.int .i64 a.st, .int .i64 a.sa, u1, u2] 42)).alloc (.cells #[.slice ag l.length cg] 59))) q2
      go_wp2_with fail
      refine (HG.out _ (by simp [go_sem]) (inRu_below HIG.out hb2)).mono ?_
      rintro e w3 ⟨rfl, hb3⟩
      have BF := HBX.out _ (hb2.trans (hb3.mono hb2.size))
      clear hb2 hb3
      go_wp2
      go_ret2
      exact ⟨rfl, BF⟩
    · rw [hok] at HG
      have HN2 := Lib.hid (fun w => HN.out w hok hco)
      have HQ := Lib.hid (cd_cases2 hco hok)
      generalize cdV a l = r1 at *
      generalize cdC a l = r2 at *
      clear hco hok HN
      go_enter Try.func56, Try.ntmps56
      go_wp2_with fail
      refine (HV.out).mono ?_
      rintro e w2 ⟨rfl, q2, rfl⟩
      have hb2 := below_drewN (Below.refl ((w.alloc (.cells #[.int .i64 a.st, .int .i64 a.sa, u1, u2] 42)).alloc (.cells #[.slice ag l.length cg] 59)).heap.size ((w.alloc (.cells #[.int .i64 a.st, .int .i64 a.sa, u1, u2] 42)).alloc (.cells #[.slice ag l.length cg] 59))) q2
      go_wp2_with fail
      refine (HG.out _ (by simp [go_sem]) (inRu_below HIG.out hb2)).mono ?_
      rintro e w3 ⟨rfl, hb3⟩
      have B3 := hb2.trans (hb3.mono hb2.size)
      have d0 : w3.cell? ⟨w.heap.size + 1, 0, none⟩ = some (.slice ag l.length cg) := by rw [B3.cell (by first | (simp; done) | (simp; omega))]; simp [go_sem]
      have c1 : w3.cell? ⟨w.heap.size, 1, none⟩ = some (.int .i64 a.sa) := by rw [B3.cell (by first | (simp; done) | (simp; omega))]; simp [go_sem]
      have c2 : w3.cell? ⟨w.heap.size, 2, none⟩ = some u1 := by rw [B3.cell (by first | (simp; done) | (simp; omega))]; simp [go_sem]
      have c3 : w3.cell? ⟨w.heap.size, 3, none⟩ = some u2 := by rw [B3.cell (by first | (simp; done) | (simp; omega))]; simp [go_sem]
      have i1 := inT_below HI1.out B3
      have i2 := inU_below HI2.out B3
      have ig := inRu_below HIG.out B3
      clear hb2 hb3
      go_wp2_with fail
      refine (HN2.out _ c1 c2 c3 d0 i1 i2 ig).mono ?_
      rintro e w4 ⟨rfl, hb4⟩
      have BF := HBX.out _ (B3.trans (hb4.mono B3.size))
      clear hb4 B3 i1 i2 ig d0 c1 c2 c3
      generalize cdN fC a l = n at *
      rcases HQ.out with ⟨hn, h1, h2⟩ | ⟨hn, h1, h2⟩
      · clear HQ
        go_wp2
        go_ret2
        subst h1; subst h2; exact ⟨rfl, BF⟩
      · clear HQ
        go_wp2
        go_ret2
        subst h1; subst h2; exact ⟨rfl, BF⟩
end Go.Proofs.Ytefcdkgfabaffaa

/- The print of a part: the closure that pieces are handed to. -/
import Derived.Test.YtoejelieogjjpaaZE
namespace Go.Proofs.Ytoejelieogjjpaa
open Go.ChangeShapes Go.WideShapes Go.RowKit
set_option linter.unusedVariables false
set_option linter.unusedSimpArgs false
set_option maxHeartbeats 4000000
set_option maxRecDepth 100000
theorem WvR.cells {base bw : Nat} {X : World} {l : List Ru} {vg : Value} (h : WvR base X bw l vg) : ∃ gm cm gs cs, X.cell? ⟨bw, 2, none⟩ = some (.slice (some ⟨gm, 0, none⟩) l.length cm) ∧ X.cell? ⟨bw, 3, none⟩ = some (.slice (some ⟨gs, 0, none⟩) l.length cs) ∧
    ∀ k, k < l.length → X.cell? ⟨gm, k * 2, none⟩ = some (.int .u64 (evN bA (rwd l k) : Nat)) ∧ X.cell? ⟨gm, k * 2 + 1, none⟩ = some (.int .u64 (evN bB (rwd l k) : Nat)) ∧ X.cell? ⟨gs, k * 2, none⟩ = some (.int .u64 (poN bA (rwd l k).length : Nat)) ∧ X.cell? ⟨gs, k * 2 + 1, none⟩ = some (.int .u64 (poN bB (rwd l k).length : Nat)) := by
  obtain ⟨gl, cl, gm, cm, gs, cs, -, -, h2, h3, -, -, h6, h7⟩ := h
  refine ⟨gm, cm, gs, cs, h2, h3, fun k hk => ?_⟩
  obtain ⟨q1, q2⟩ := own_prt h6 hk
  obtain ⟨q3, q4⟩ := own_prt h7 hk
  exact ⟨q1, q2, q3, q4⟩
theorem Fr.ofBelow {b7 : Nat} {w w' : World} (h : Below w.heap.size w w') (hb : b7 < w.heap.size) : Fr (fun _ b => b = b7) w w' :=
  ⟨h.os, h.tape, h.output, h.size, fun k hk _ => h.block k hk, fun k _ e => e⟩
theorem Fr.set {b7 o : Nat} (w : World) (v : Value) : Fr (fun _ b => b = b7) w (w.setCell ⟨b7, o, none⟩ v) :=
  ⟨rfl, rfl, rfl, by simp, fun k hk hm => Below.heap_setCell _ _ _ _ hm, fun k _ e => e⟩
theorem c_print (base b7 b3 bw k : Nat) (l : List Ru) (vg : Value) (u : List UInt8) (W : World) (hk : k < l.length) (hw : WvR base W bw l vg)
    (h0 : W.cell? ⟨b7, 0, none⟩ = some (.int .u64 (evN bA u : Nat))) (h1 : W.cell? ⟨b7, 1, none⟩ = some (.int .u64 (evN bB u : Nat))) (f0 : W.frozen? ⟨b7, 0, none⟩ = false) (f1 : W.frozen? ⟨b7, 1, none⟩ = false) (h3 : W.cell? ⟨b3, 0, none⟩ = some (.pointer (some ⟨bw, 0, none⟩))) :
    Calls Try.prog 60 #[.int .i64 k, .pointer (some ⟨b7, 0, none⟩), .pointer (some ⟨b3, 0, none⟩)] W fun e Z => e = .returned (.tuple #[]) ∧
      Z.cell? ⟨b7, 0, none⟩ = some (.int .u64 (evN bA (u ++ rwd l k) : Nat)) ∧ Z.cell? ⟨b7, 1, none⟩ = some (.int .u64 (evN bB (u ++ rwd l k) : Nat)) ∧ Z.frozen? ⟨b7, 0, none⟩ = false ∧ Z.frozen? ⟨b7, 1, none⟩ = false ∧ Fr (fun _ b => b = b7) W Z := by
  have hb7 := World.block_lt_of_cell? _ _ h0
  obtain ⟨gm, cm, gs, cs, c2, c3, hc⟩ := hw.cells
  obtain ⟨p0, p1, p2, p3⟩ := hc k hk
  obtain ⟨a1, ha1⟩ : ∃ a, a = evN bA u := ⟨_, rfl⟩
  obtain ⟨a2, ha2⟩ : ∃ a, a = evN bB u := ⟨_, rfl⟩
  obtain ⟨m1, hm1⟩ : ∃ a, a = evN bA (rwd l k) := ⟨_, rfl⟩
  obtain ⟨m2, hm2⟩ : ∃ a, a = evN bB (rwd l k) := ⟨_, rfl⟩
  obtain ⟨s1, hs1⟩ : ∃ a, a = poN bA (rwd l k).length := ⟨_, rfl⟩
  obtain ⟨s2, hs2⟩ : ∃ a, a = poN bB (rwd l k).length := ⟨_, rfl⟩
  obtain ⟨q1, hq1⟩ : ∃ q, q = a1 * s1 % fP := ⟨_, rfl⟩
  obtain ⟨q2, hq2⟩ : ∃ q, q = a2 * s2 % fP := ⟨_, rfl⟩
  obtain ⟨r1, hr1⟩ : ∃ q, q = evN bA (u ++ rwd l k) := ⟨_, rfl⟩
  obtain ⟨r2, hr2⟩ : ∃ q, q = evN bB (u ++ rwd l k) := ⟨_, rfl⟩
  have hr1' : r1 = (q1 + m1) % fP := by rw [hr1, hq1, ha1, hs1, hm1, evN_app]
  have hr2' : r2 = (q2 + m2) % fP := by rw [hr2, hq2, ha2, hs2, hm2, evN_app]
  have HTM := Lib.hid (fun w => i_timesE a1 a2 s1 s2 q1 q2 (by rw [ha1]; exact evN_lt _ _) (by rw [ha2]; exact evN_lt _ _) (by rw [hs1]; exact poN_lt _ _) (by rw [hs2]; exact poN_lt _ _) hq1 hq2 w)
  have HPL := Lib.hid (fun w => i_plusE q1 q2 m1 m2 r1 r2 (by rw [hq1]; exact Nat.mod_lt _ (by decide)) (by rw [hq2]; exact Nat.mod_lt _ (by decide)) (by rw [hm1]; exact evN_lt _ _) (by rw [hm2]; exact evN_lt _ _) hr1' hr2' w)
  rw [← ha1] at h0
  rw [← ha2] at h1
  rw [← hm1] at p0
  rw [← hm2] at p1
  rw [← hs1] at p2
  rw [← hs2] at p3
  rw [← hr1, ← hr2]
  have hkI : (k : Int) < (l.length : Int) := by omega
  clear hr1' hr2' hr1 hr2 hq1 hq2 ha1 ha2 hm1 hm2 hs1 hs2 hc hw
  have HSX : Hid (∀ w', Below W.heap.size W w' → (fun w' => Below W.heap.size W w' ∧ w'.cell? ⟨b7, 0, none⟩ = some (.int .u64 a1) ∧ w'.cell? ⟨b7, 1, none⟩ = some (.int .u64 a2) ∧ w'.cell? ⟨b3, 0, none⟩ = some (.pointer (some ⟨bw, 0, none⟩)) ∧ w'.cell? ⟨bw, 2, none⟩ = some (.slice (some ⟨gm, 0, none⟩) l.length cm) ∧ w'.cell? ⟨bw, 3, none⟩ = some (.slice (some ⟨gs, 0, none⟩) l.length cs) ∧ w'.cell? ⟨gm, k * 2, none⟩ = some (.int .u64 m1) ∧ w'.cell? ⟨gm, k * 2 + 1, none⟩ = some (.int .u64 m2) ∧ w'.cell? ⟨gs, k * 2, none⟩ = some (.int .u64 s1) ∧ w'.cell? ⟨gs, k * 2 + 1, none⟩ = some (.int .u64 s2)) w') :=
    fun w' h => ⟨h, cell_later h h0, cell_later h h1, cell_later h h3, cell_later h c2, cell_later h c3, cell_later h p0, cell_later h p1, cell_later h p2, cell_later h p3⟩
  go_enter Try.func60, Try.ntmps60
  go_upto_region 0 with fail
  refine wp_region_L (S := fun w' => Below W.heap.size W w' ∧ w'.cell? ⟨b7, 0, none⟩ = some (.int .u64 a1) ∧ w'.cell? ⟨b7, 1, none⟩ = some (.int .u64 a2) ∧ w'.cell? ⟨b3, 0, none⟩ = some (.pointer (some ⟨bw, 0, none⟩)) ∧ w'.cell? ⟨bw, 2, none⟩ = some (.slice (some ⟨gm, 0, none⟩) l.length cm) ∧ w'.cell? ⟨bw, 3, none⟩ = some (.slice (some ⟨gs, 0, none⟩) l.length cs) ∧ w'.cell? ⟨gm, k * 2, none⟩ = some (.int .u64 m1) ∧ w'.cell? ⟨gm, k * 2 + 1, none⟩ = some (.int .u64 m2) ∧ w'.cell? ⟨gs, k * 2, none⟩ = some (.int .u64 s1) ∧ w'.cell? ⟨gs, k * 2 + 1, none⟩ = some (.int .u64 s2)) (T := [17]) (by kernel_rfl) (HSX.out _ (Below.drew (Below.refl _ _))) (fun hHeld => ?_)
  have hcur : Below W.heap.size W W.drew := Below.drew (Below.refl _ _)
  refine wpAnyL_take (i := 0) (v := ?_) rfl (by kernel_rfl) (by kernel_rfl) (by kernel_rfl) (by kernel_rfl) (fun _ _ _ h => h) (Or.inl ⟨by rfl, ?_⟩) (by assumption) ?_
  rotate_left
  · intro w hSw
    try dsimp only at hSw
    go_simp
    all_goals with_reducible rfl
  try simp only [Act.put, List.setIfInBounds_toArray, List.set_cons_zero, List.set_cons_succ]
  refine wpAnyL_take (i := 1) (v := ?_) rfl (by kernel_rfl) (by kernel_rfl) (by kernel_rfl) (by kernel_rfl) (fun _ _ _ h => h) (Or.inl ⟨by rfl, ?_⟩) (by assumption) ?_
  rotate_left
  · intro w hSw
    try dsimp only at hSw
    go_simp
    all_goals with_reducible rfl
  try simp only [Act.put, List.setIfInBounds_toArray, List.set_cons_zero, List.set_cons_succ]
  refine wpAnyL_take (i := 2) (v := ?_) rfl (by kernel_rfl) (by kernel_rfl) (by kernel_rfl) (by kernel_rfl) (fun _ _ _ h => h) (Or.inl ⟨by rfl, ?_⟩) (by assumption) ?_
  rotate_left
  · intro w hSw
    try dsimp only at hSw
    go_simp
    all_goals with_reducible rfl
  try simp only [Act.put, List.setIfInBounds_toArray, List.set_cons_zero, List.set_cons_succ]
  refine wpAnyL_take (i := 3) (v := ?_) rfl (by kernel_rfl) (by kernel_rfl) (by kernel_rfl) (by kernel_rfl) (fun _ _ _ h => h) (Or.inl ⟨by rfl, ?_⟩) (by assumption) ?_
  rotate_left
  · intro w hSw
    try dsimp only at hSw
    go_simp
    all_goals with_reducible rfl
  try simp only [Act.put, List.setIfInBounds_toArray, List.set_cons_zero, List.set_cons_succ]
  refine wpAnyL_take (i := 4) (v := ?_) rfl (by kernel_rfl) (by kernel_rfl) (by kernel_rfl) (by kernel_rfl) (fun _ _ _ h => h) (Or.inl ⟨by rfl, ?_⟩) (by assumption) ?_
  rotate_left
  · intro w hSw
    try dsimp only at hSw
    go_simp
    all_goals with_reducible rfl
  try simp only [Act.put, List.setIfInBounds_toArray, List.set_cons_zero, List.set_cons_succ]
  refine wpAnyL_take (i := 5) (v := ?_) rfl (by kernel_rfl) (by kernel_rfl) (by kernel_rfl) (by kernel_rfl) (fun _ _ _ h => h) (Or.inl ⟨by rfl, ?_⟩) (by assumption) ?_
  rotate_left
  · intro w hSw
    try dsimp only at hSw
    go_simp
    all_goals with_reducible rfl
  try simp only [Act.put, List.setIfInBounds_toArray, List.set_cons_zero, List.set_cons_succ]
  refine wpAnyL_take (i := 6) (v := ?_) rfl (by kernel_rfl) (by kernel_rfl) (by kernel_rfl) (by kernel_rfl) (fun _ _ _ h => h) (Or.inl ⟨by rfl, ?_⟩) (by assumption) ?_
  rotate_left
  · intro w hSw
    try dsimp only at hSw
    go_simp
    all_goals with_reducible rfl
  try simp only [Act.put, List.setIfInBounds_toArray, List.set_cons_zero, List.set_cons_succ]
  refine wpAnyL_take (i := 7) (v := ?_) rfl (by kernel_rfl) (by kernel_rfl) (by kernel_rfl) (by kernel_rfl) (fun _ _ _ h => h) (Or.inl ⟨by rfl, ?_⟩) (by assumption) ?_
  rotate_left
  · intro w hSw
    try dsimp only at hSw
    go_simp
    all_goals with_reducible rfl
  try simp only [Act.put, List.setIfInBounds_toArray, List.set_cons_zero, List.set_cons_succ]
  refine wpAnyL_take (i := 9) (v := ?_) rfl (by kernel_rfl) (by kernel_rfl) (by kernel_rfl) (by kernel_rfl) (fun _ _ _ h => h) (Or.inl ⟨by rfl, ?_⟩) (by assumption) ?_
  rotate_left
  · intro w hSw
    try dsimp only at hSw
    go_simp
    all_goals with_reducible rfl
  try simp only [Act.put, List.setIfInBounds_toArray, List.set_cons_zero, List.set_cons_succ]
  refine wpAnyL_take (i := 10) (v := ?_) rfl (by kernel_rfl) (by kernel_rfl) (by kernel_rfl) (by kernel_rfl) (fun _ _ _ h => h) (Or.inl ⟨by rfl, ?_⟩) (by assumption) ?_
  rotate_left
  · intro w hSw
    try dsimp only at hSw
    go_simp
    all_goals with_reducible rfl
  try simp only [Act.put, List.setIfInBounds_toArray, List.set_cons_zero, List.set_cons_succ]
  refine wpAnyL_take (i := 11) (v := ?_) rfl (by kernel_rfl) (by kernel_rfl) (by kernel_rfl) (by kernel_rfl) (fun _ _ _ h => h) (Or.inl ⟨by rfl, ?_⟩) (by assumption) ?_
  rotate_left
  · intro w hSw
    try dsimp only at hSw
    go_simp
    all_goals with_reducible rfl
  try simp only [Act.put, List.setIfInBounds_toArray, List.set_cons_zero, List.set_cons_succ]
  refine wpAnyL_take (i := 12) (v := ?_) rfl (by kernel_rfl) (by kernel_rfl) (by kernel_rfl) (by kernel_rfl) (fun _ _ _ h => h) (Or.inl ⟨by rfl, ?_⟩) (by assumption) ?_
  rotate_left
  · intro w hSw
    try dsimp only at hSw
    go_simp
    all_goals with_reducible rfl
  try simp only [Act.put, List.setIfInBounds_toArray, List.set_cons_zero, List.set_cons_succ]
  refine wpAnyL_take (i := 13) (v := ?_) rfl (by kernel_rfl) (by kernel_rfl) (by kernel_rfl) (by kernel_rfl) (fun _ _ _ h => h) (Or.inl ⟨by rfl, ?_⟩) (by assumption) ?_
  rotate_left
  · intro w hSw
    try dsimp only at hSw
    go_simp
    all_goals with_reducible rfl
  try simp only [Act.put, List.setIfInBounds_toArray, List.set_cons_zero, List.set_cons_succ]
  refine wpAnyL_take (i := 14) (v := ?_) rfl (by kernel_rfl) (by kernel_rfl) (by kernel_rfl) (by kernel_rfl) (fun _ _ _ h => h) (Or.inl ⟨by rfl, ?_⟩) (by assumption) ?_
  rotate_left
  · intro w hSw
    try dsimp only at hSw
    go_simp
    all_goals with_reducible rfl
  try simp only [Act.put, List.setIfInBounds_toArray, List.set_cons_zero, List.set_cons_succ]
  refine wpAnyL_take (i := 15) (v := ?_) rfl (by kernel_rfl) (by kernel_rfl) (by kernel_rfl) (by kernel_rfl) (fun _ _ _ h => h) (Or.inl ⟨by rfl, ?_⟩) (by assumption) ?_
  rotate_left
  · intro w hSw
    try dsimp only at hSw
    go_simp
    all_goals with_reducible rfl
  try simp only [Act.put, List.setIfInBounds_toArray, List.set_cons_zero, List.set_cons_succ]
  refine wpAnyL_one (i := 8) (by kernel_rfl) (by rfl) rfl (fun K hK => ?_)
  go_simp
  go_at_call 39
  refine (HTM.out _).mono ?_
  rintro e w1 ⟨rfl, hb1⟩
  have hcur2 := hcur.trans (hb1.mono hcur.size)
  go_wp2_with fail
  refine hK.out _ _ (HSX.out _ hcur2) ?_
  clear hK K hcur hb1 hHeld
  have hcur := hcur2
  have hHeld := HSX.out _ hcur2
  clear hcur2
  try simp only [Act.put, List.setIfInBounds_toArray, List.set_cons_zero, List.set_cons_succ]
  refine wpAnyL_one (i := 16) (by kernel_rfl) (by rfl) rfl (fun K hK => ?_)
  go_simp
  go_at_call 40
  refine (HPL.out _).mono ?_
  rintro e w1 ⟨rfl, hb1⟩
  have hcur2 := hcur.trans (hb1.mono hcur.size)
  go_wp2_with fail
  refine hK.out _ _ (HSX.out _ hcur2) ?_
  clear hK K hcur hb1 hHeld
  have hcur := hcur2
  have hHeld := HSX.out _ hcur2
  clear hcur2
  try simp only [Act.put, List.setIfInBounds_toArray, List.set_cons_zero, List.set_cons_succ]
  have m0 := hHeld.2.1
  have m1' := hHeld.2.2.1
  have g0 := (hcur.frozen (p := ⟨b7, 0, none⟩) hb7).trans f0
  have g1 := (hcur.frozen (p := ⟨b7, 1, none⟩) hb7).trans f1
  have HCU := Lib.hid hcur
  clear hcur hHeld HSX
  unfold pv
  refine wpAnyL_tail (i := 17) (by kernel_rfl) (by rfl) rfl (fun K hK => ?_)
  go_simp
  go_wp2_with fail
  refine hK.out _ _ ?_
  clear hK K
  try simp only [Act.put, List.setIfInBounds_toArray, List.set_cons_zero, List.set_cons_succ]
  refine wpAny_done (by kernel_rfl) ?_ _
  have hFr := (Fr.ofBelow HCU.out hb7).trans ((Fr.set (o := 0) w1 (.int .u64 (r1 : Nat))).trans (Fr.set (o := 1) _ (.int .u64 (r2 : Nat))))
  clear HCU HPL HTM p0 p1 p2 p3 c2 c3
  go_end0
  refine ⟨rfl, ?_, ?_, ?_, ?_, hFr⟩
  · rw [st_ne _ (by simp)]
    exact cell_st_same _ m0
  · exact cell_st_same _ (by rw [st_ne _ (by simp)]; exact m1')
  · simpa using g0
  · simpa using g1
end Go.Proofs.Ytoejelieogjjpaa

/- The print of a part. -/
import Derived.Test.YtoejelieogjjpaaZF
namespace Go.Proofs.Ytoejelieogjjpaa
open Go.ChangeShapes Go.WideShapes Go.RowKit
set_option linter.unusedVariables false
set_option linter.unusedSimpArgs false
set_option maxHeartbeats 4000000
set_option maxRecDepth 100000
theorem results_cellE {fn : Func} {a : Tmp} {t : TypeId} {P : Program} {w : World} {v : Value} {p : Addr} (h : fn.results = #[.cell a t]) (tmps : Array Value) (hp : tmps.getD a undef = .pointer (some p)) (hl : (loadVar t p).run P w = .ok v w) : (results fn tmps).run P w = .ok v w := by
  unfold results
  rw [h]
  have hp2 : tmps[a]?.getD undef = .pointer (some p) := by simpa using hp
  simp [asAddr, hp2, hl]
theorem i_print (base bw cap : Nat) (a : Option Addr) (l : List Ru) (i j : Int) (W : World) (hok : gOk l = true) (hi : 0 ≤ i) (hw : WvR base W bw l (.slice a l.length cap)) :
    Calls Try.prog 42 #[.pointer (some ⟨bw, 0, none⟩), .int .i64 i, .int .i64 j] W fun e W' => e = .returned (pv (evN bA (ptX l i j)) (evN bB (ptX l i j))) ∧ Below W.heap.size W W' := by
  have hmf : ∀ (fn : Fn) (first cap : Array Value) (w : World), (Instr.makeFunc fn first cap).run Try.prog w = .ok (.func fn first cap) w := fun _ _ _ _ => rfl
  have eF : ∀ args w, (callFunc 60 args).run Try.prog w = .ok (.enter 60 args) w := enters_of Try.func60 (by kernel_rfl) rfl
  have hpt : (pcv l i j).flatMap (rwd l) = ptX l i j := ptW_law hok hi
  obtain ⟨gl, cl, gm, cm, gs, cs, c0, c1, -, -, hin, hown, -, -⟩ := id hw
  have hgl := (hown.lt gl rfl).2
  obtain ⟨N, hN⟩ : ∃ n, n = W.heap.size := ⟨_, rfl⟩
  have HP : Hid (∀ X, Below W.heap.size W X → N + 2 < X.heap.size → X.cell? ⟨N, 0, none⟩ = some (.pointer (some ⟨bw, 0, none⟩)) → X.cell? ⟨N + 2, 0, none⟩ = some (.int .u64 (0 : Nat)) → X.cell? ⟨N + 2, 1, none⟩ = some (.int .u64 (0 : Nat)) → X.frozen? ⟨N + 2, 0, none⟩ = false → X.frozen? ⟨N + 2, 1, none⟩ = false →
      Calls Try.prog 59 #[.agg #[.slice a l.length cap], .slice (some ⟨gl, 0, none⟩) l.length cl, .int .i64 i, .int .i64 j, .func (.func 60) #[] #[.pointer (some ⟨N + 2, 0, none⟩), .pointer (some ⟨N, 0, none⟩)]] X
        fun e Z => e = .returned (.tuple #[]) ∧ (Z.cell? ⟨N + 2, 0, none⟩ = some (.int .u64 (evN bA ((pcv l i j).flatMap (rwd l)) : Nat)) ∧ Z.cell? ⟨N + 2, 1, none⟩ = some (.int .u64 (evN bB ((pcv l i j).flatMap (rwd l)) : Nat)) ∧ Z.frozen? ⟨N + 2, 0, none⟩ = false ∧ Z.frozen? ⟨N + 2, 1, none⟩ = false) ∧ Fr (fun _ b => b = N + 2) X Z) := by
    intro X hb hsz k3 k0 k1 f0 f1
    refine i_pieces (fun _ b => b = N + 2) (fun vis Z => Z.cell? ⟨N + 2, 0, none⟩ = some (.int .u64 (evN bA (vis.flatMap (rwd l)) : Nat)) ∧ Z.cell? ⟨N + 2, 1, none⟩ = some (.int .u64 (evN bB (vis.flatMap (rwd l)) : Nat)) ∧ Z.frozen? ⟨N + 2, 0, none⟩ = false ∧ Z.frozen? ⟨N + 2, 1, none⟩ = false) (fun _ => True)
      60 #[.pointer (some ⟨N + 2, 0, none⟩), .pointer (some ⟨N, 0, none⟩)] eF l i j X gl cl cap a (some ⟨gl, 0, none⟩) hok (fun _ => rfl)
      (fun k hk => own_get (owns_after hown hb) (gOk_some hok).2.2.1 hk) (fun _ h => by omega) ?_ ?_ ?_ ?_ ?_ (fun _ _ _ => trivial) ⟨k0, k1, f0, f1⟩ trivial
    · intro k hk
      obtain ⟨b', off, e, hb', d0, d1, d2⟩ := inRu_at hin hk
      exact ⟨b', off, e, by omega, cell_later hb d0, cell_later hb d1, cell_later hb d2⟩
    · rintro vis k w' hk ⟨q0, q1, q2, q3⟩ hf -
      have hbw : Below W.heap.size W w' := hb.trans (hf.below (by omega) (fun k hk => by omega))
      refine (c_print base (N + 2) N bw k l _ (vis.flatMap (rwd l)) w' hk (hw.bel hbw) q0 q1 q2 q3 (hf.cell k3 (by omega))).mono ?_
      rintro e Z ⟨rfl, r0, r1, r2, r3, hf2⟩
      rw [List.flatMap_append, List.flatMap_cons, List.flatMap_nil, List.append_nil]
      exact ⟨rfl, ⟨r0, r1, r2, r3⟩, hf2⟩
    · rintro vis w cs T - ⟨q0, q1, q2, q3⟩
      have hal := (Below.refl w.heap.size w).alloc (Nat.le_refl _) (.cells cs T)
      have hlt := World.block_lt_of_cell? _ _ q0
      exact ⟨⟨cell_later hal q0, cell_later hal q1, (hal.frozen hlt).trans q2, (hal.frozen (p := ⟨N + 2, 1, none⟩) hlt).trans q3⟩, fun k hk => hk⟩
    · rintro vis w ⟨q0, q1, q2, q3⟩
      exact ⟨⟨q0, q1, q2, q3⟩, fun k hk => hk⟩
    · rintro vis w k ⟨q0, -⟩ rfl
      exact World.block_lt_of_cell? _ _ q0
  rw [hpt] at HP
  obtain ⟨r1, hr1⟩ : ∃ q, q = evN bA (ptX l i j) := ⟨_, rfl⟩
  obtain ⟨r2, hr2⟩ : ∃ q, q = evN bB (ptX l i j) := ⟨_, rfl⟩
  rw [← hr1, ← hr2] at HP ⊢
  clear hr1 hr2 hpt hw hin hown
  go_enter Try.func42, Try.ntmps42
  go_upto_region 2 with fail
  refine gen_world2 (fun X => Below W.heap.size W X ∧ N + 2 < X.heap.size ∧ X.cell? ⟨N, 0, none⟩ = some (.pointer (some ⟨bw, 0, none⟩)) ∧ X.cell? ⟨N + 2, 0, none⟩ = some (.int .u64 (0 : Nat)) ∧ X.cell? ⟨N + 2, 1, none⟩ = some (.int .u64 (0 : Nat)) ∧ X.frozen? ⟨N + 2, 0, none⟩ = false ∧ X.frozen? ⟨N + 2, 1, none⟩ = false ∧
    X.cell? ⟨N + 1, 0, none⟩ = some (.int .u64 (0 : Nat)) ∧ X.cell? ⟨N + 1, 1, none⟩ = some (.int .u64 (0 : Nat)) ∧ X.frozen? ⟨N + 1, 0, none⟩ = false ∧ X.frozen? ⟨N + 1, 1, none⟩ = false ∧ X.cell? ⟨bw, 0, none⟩ = some (.slice a l.length cap) ∧ X.cell? ⟨bw, 1, none⟩ = some (.slice (some ⟨gl, 0, none⟩) l.length cl)) ?_ ?_
  · have hal : ∀ x y z, Below W.heap.size W (((W.alloc x).alloc y).alloc z) := fun x y z => (((Below.refl W.heap.size W).alloc (Nat.le_refl _) x).alloc (by simp) y).alloc (by simp; omega) z
    rw [hN]
    refine ⟨hal _ _ _, by simp, by simp [go_sem], by simp [go_sem], by simp [go_sem], by simp [go_sem], by simp [go_sem], by simp [go_sem], by simp [go_sem], by simp [go_sem], by simp [go_sem], cell_later (hal _ _ _) c0, cell_later (hal _ _ _) c1⟩
  rintro X ⟨hb, hz, k3, m0, m1, f0, f1, n0, n1, g0, g1, d0, d1⟩
  rw [← hN]
  have HSX : Hid (∀ w', Below X.heap.size X w' → (fun w' => Below X.heap.size X w' ∧ w'.cell? ⟨N, 0, none⟩ = some (.pointer (some ⟨bw, 0, none⟩)) ∧ w'.cell? ⟨bw, 0, none⟩ = some (.slice a l.length cap) ∧ w'.cell? ⟨bw, 1, none⟩ = some (.slice (some ⟨gl, 0, none⟩) l.length cl)) w') :=
    fun w' h => ⟨h, cell_later h k3, cell_later h d0, cell_later h d1⟩
  have HB := Lib.hid hb
  have HN := Lib.hid hN
  clear hN
  have HM := Lib.hid (And.intro k3 (And.intro m0 (And.intro m1 (And.intro f0 (And.intro f1 (And.intro n0 (And.intro n1 (And.intro g0 (And.intro g1 hz)))))))))
  clear k3 m0 m1 f0 f1 n0 n1 g0 g1 d0 d1 hb c0 c1 eF
  refine wp_region_L (S := fun w' => Below X.heap.size X w' ∧ w'.cell? ⟨N, 0, none⟩ = some (.pointer (some ⟨bw, 0, none⟩)) ∧ w'.cell? ⟨bw, 0, none⟩ = some (.slice a l.length cap) ∧ w'.cell? ⟨bw, 1, none⟩ = some (.slice (some ⟨gl, 0, none⟩) l.length cl)) (T := [11]) (by kernel_rfl) (HSX.out _ (Below.drew (Below.refl _ _))) (fun hHeld => ?_)
  refine wpAnyL_take (i := 0) (v := ?_) rfl (by kernel_rfl) (by kernel_rfl) (by kernel_rfl) (by kernel_rfl) (fun _ _ _ h => h) (Or.inl ⟨by rfl, ?_⟩) (by assumption) ?_
  rotate_left
  · intro w hSw
    try dsimp only at hSw
    go_simp
    all_goals with_reducible rfl
  try simp only [Act.put, List.setIfInBounds_toArray, List.set_cons_zero, List.set_cons_succ]
  refine wpAnyL_take (i := 1) (v := ?_) rfl (by kernel_rfl) (by kernel_rfl) (by kernel_rfl) (by kernel_rfl) (fun _ _ _ h => h) (Or.inl ⟨by rfl, ?_⟩) (by assumption) ?_
  rotate_left
  · intro w hSw
    try dsimp only at hSw
    go_simp
    all_goals with_reducible rfl
  try simp only [Act.put, List.setIfInBounds_toArray, List.set_cons_zero, List.set_cons_succ]
  refine wpAnyL_take (i := 2) (v := ?_) rfl (by kernel_rfl) (by kernel_rfl) (by kernel_rfl) (by kernel_rfl) (fun _ _ _ h => h) (Or.inl ⟨by rfl, ?_⟩) (by assumption) ?_
  rotate_left
  · intro w hSw
    try dsimp only at hSw
    go_simp
    all_goals with_reducible rfl
  try simp only [Act.put, List.setIfInBounds_toArray, List.set_cons_zero, List.set_cons_succ]
  refine wpAnyL_take (i := 3) (v := ?_) rfl (by kernel_rfl) (by kernel_rfl) (by kernel_rfl) (by kernel_rfl) (fun _ _ _ h => h) (Or.inl ⟨by rfl, ?_⟩) (by assumption) ?_
  rotate_left
  · intro w hSw
    try dsimp only at hSw
    go_simp
    all_goals with_reducible rfl
  try simp only [Act.put, List.setIfInBounds_toArray, List.set_cons_zero, List.set_cons_succ]
  refine wpAnyL_take (i := 4) (v := ?_) rfl (by kernel_rfl) (by kernel_rfl) (by kernel_rfl) (by kernel_rfl) (fun _ _ _ h => h) (Or.inl ⟨by rfl, ?_⟩) (by assumption) ?_
  rotate_left
  · intro w hSw
    try dsimp only at hSw
    go_simp
    all_goals with_reducible rfl
  try simp only [Act.put, List.setIfInBounds_toArray, List.set_cons_zero, List.set_cons_succ]
  refine wpAnyL_take (i := 5) (v := ?_) rfl (by kernel_rfl) (by kernel_rfl) (by kernel_rfl) (by kernel_rfl) (fun _ _ _ h => h) (Or.inl ⟨by rfl, ?_⟩) (by assumption) ?_
  rotate_left
  · intro w hSw
    try dsimp only at hSw
    go_simp
    all_goals with_reducible rfl
  try simp only [Act.put, List.setIfInBounds_toArray, List.set_cons_zero, List.set_cons_succ]
  refine wpAnyL_take (i := 6) (v := ?_) rfl (by kernel_rfl) (by kernel_rfl) (by kernel_rfl) (by kernel_rfl) (fun _ _ _ h => h) (Or.inl ⟨by rfl, ?_⟩) (by assumption) ?_
  rotate_left
  · intro w hSw
    try dsimp only at hSw
    go_simp
    all_goals with_reducible rfl
  try simp only [Act.put, List.setIfInBounds_toArray, List.set_cons_zero, List.set_cons_succ]
  refine wpAnyL_take (i := 7) (v := ?_) rfl (by kernel_rfl) (by kernel_rfl) (by kernel_rfl) (by kernel_rfl) (fun _ _ _ h => h) (Or.inl ⟨by rfl, ?_⟩) (by assumption) ?_
  rotate_left
  · intro w hSw
    try dsimp only at hSw
    go_simp
    all_goals with_reducible rfl
  try simp only [Act.put, List.setIfInBounds_toArray, List.set_cons_zero, List.set_cons_succ]
  refine wpAnyL_take (i := 8) (v := ?_) rfl (by kernel_rfl) (by kernel_rfl) (by kernel_rfl) (by kernel_rfl) (fun _ _ _ h => h) (Or.inl ⟨by rfl, ?_⟩) (by assumption) ?_
  rotate_left
  · intro w hSw
    try dsimp only at hSw
    go_simp
    all_goals with_reducible rfl
  try simp only [Act.put, List.setIfInBounds_toArray, List.set_cons_zero, List.set_cons_succ]
  refine wpAnyL_take (i := 9) (v := ?_) rfl (by kernel_rfl) (by kernel_rfl) (by kernel_rfl) (by kernel_rfl) (fun _ _ _ h => h) (Or.inl ⟨by rfl, ?_⟩) (by assumption) ?_
  rotate_left
  · intro w hSw
    try dsimp only at hSw
    go_simp
    all_goals with_reducible rfl
  try simp only [Act.put, List.setIfInBounds_toArray, List.set_cons_zero, List.set_cons_succ]
  refine wpAnyL_take (i := 10) (v := ?_) rfl (by kernel_rfl) (by kernel_rfl) (by kernel_rfl) (by kernel_rfl) (fun _ _ _ h => h) (Or.inl ⟨by rfl, ?_⟩) (by assumption) ?_
  rotate_left
  · intro w hSw
    try dsimp only at hSw
    go_simp
    all_goals with_reducible rfl
  try simp only [Act.put, List.setIfInBounds_toArray, List.set_cons_zero, List.set_cons_succ]
  obtain ⟨k3, m0, m1, f0, f1, n0, n1, g0, g1, hz2⟩ := HM.out
  have hcur : Below X.heap.size X X.drew := Below.drew (Below.refl _ _)
  refine wpAnyL_tail (i := 11) (by kernel_rfl) (by rfl) rfl (fun K hK => ?_)
  go_simp
  go_at_call 59
  refine (HP.out X.drew (HB.out.trans (hcur.mono HB.out.size)) (by simpa using hz2) k3 m0 m1 f0 f1).mono ?_
  rintro e Z ⟨rfl, ⟨q0, q1, e0, e1⟩, hF⟩
  have w0 := hF.cell (o := 0) (b := N + 1) n0 (by omega)
  have w1 := hF.cell (o := 1) (b := N + 1) n1 (by omega)
  have hBZ : Below (N + 2) X.drew Z := hF.below (by simp; omega) (fun k hk => by omega)
  have z0 : Z.frozen? ⟨N + 1, 0, none⟩ = false := (hBZ.frozen (p := ⟨N + 1, 0, none⟩) (by simp)).trans g0
  have z1 : Z.frozen? ⟨N + 1, 1, none⟩ = false := (hBZ.frozen (p := ⟨N + 1, 1, none⟩) (by simp)).trans g1
  have hFin : Below N W Z := (HB.out.trans (hcur.mono HB.out.size)).mono (Nat.le_of_eq HN.out) |>.trans (hBZ.mono (by omega))
  have HF := Lib.hid hFin
  clear hF hBZ hFin hcur n0 n1 g0 g1 f0 f1 m0 m1 k3 hHeld HSX HP HM hmf
  go_wp2_with fail
  refine hK.out _ _ ?_
  clear hK K
  try simp only [Act.put, List.setIfInBounds_toArray, List.set_cons_zero, List.set_cons_succ]
  refine wpAny_done (by kernel_rfl) ?_ _
  go_wp2
  have u0 : ((Z.setCell ⟨N + 1, 0, none⟩ (.int .u64 r1)).setCell ⟨N + 1, 1, none⟩ (.int .u64 r2)).cell? ⟨N + 1, 0, none⟩ = some (.int .u64 r1) := by
    rw [st_ne _ (by simp)]
    exact cell_st_same _ w0
  have u1 : ((Z.setCell ⟨N + 1, 0, none⟩ (.int .u64 r1)).setCell ⟨N + 1, 1, none⟩ (.int .u64 r2)).cell? ⟨N + 1, 1, none⟩ = some (.int .u64 r2) := cell_st_same _ (by rw [st_ne _ (by simp)]; exact w1)
  have hFF : Below W.heap.size W ((Z.setCell ⟨N + 1, 0, none⟩ (.int .u64 r1)).setCell ⟨N + 1, 1, none⟩ (.int .u64 r2)) := by
    have h9 := HF.out
    rw [HN.out] at h9 ⊢
    exact (h9.setCell (p := ⟨W.heap.size + 1, 0, none⟩) (by simp) _).setCell (p := ⟨W.heap.size + 1, 1, none⟩) (by simp) _
  generalize ((Z.setCell ⟨N + 1, 0, none⟩ (.int .u64 r1)).setCell ⟨N + 1, 1, none⟩ (.int .u64 r2)) = Z2 at *
  clear HF w0 w1 q0 q1 e0 e1 z0 z1
  (try simp only [Exit.inBlock, Exit.then])
  refine bodyPost_ret (v := pv r1 r2) ?_ rfl ⟨rfl, hFF⟩
  refine results_cellE rfl _ (p := ⟨N + 1, 0, none⟩) rfl ?_
  clear hFF
  unfold pv
  go_simp
end Go.Proofs.Ytoejelieogjjpaa

/- Small facts on worlds, boxes, slices that the call owns. -/
import Derived.Test.YtefcdkgfabaffaaM1
namespace Go.Proofs.Ytefcdkgfabaffaa
open Go.ChangeShapes Go.WideShapes Go.RowKit
set_option linter.unusedVariables false
set_option linter.unusedSimpArgs false
set_option maxHeartbeats 4000000
set_option maxRecDepth 100000
theorem below_box {w w1 : World} {o : Obj} (h : Below (w.alloc o).heap.size (w.alloc o) w1) : Below w.heap.size w w1 := ((Below.refl _ _).alloc (Nat.le_refl _) _).trans (h.mono (by simp))
theorem cell_st_same {w : World} {a : Addr} {u : Value} (v : Value) (h : w.cell? a = some u) : (w.setCell a v).cell? a = some v := by rw [World.cell?_setCell_same (h := h)]
theorem cell_st_ne {w : World} {a b : Addr} (v : Value) (hne : a.block ≠ b.block) : (w.setCell a v).cell? b = w.cell? b := by
  rw [World.cell?_setCell_other (h := by first | (intro h; exact hne (by rw [h])) | (intro h; exact hne (by rw [← h])))]
theorem owns_sl3 {w : World} {base e n : Nat} {v : Value} {xs : List Value} (h : w.ownsRow base e 1 v n xs) : ∃ a cap, v = .slice a n cap ∧ (n ≠ 0 → ∃ g, a = some ⟨g, 0, none⟩) ∧ cap ≤ maxLen := by
  rcases owns_cases h with ⟨rfl, rfl, _⟩ | ⟨g, cap, rfl, _, _, _, hm, _⟩
  · exact ⟨_, _, rfl, fun h => absurd rfl h, by unfold maxLen; omega⟩
  · exact ⟨_, _, rfl, fun _ => ⟨g, rfl⟩, hm⟩
theorem box_cell (w : World) (v : Value) (t : TypeId) : (w.alloc (.cells #[v] t)).cell? ⟨w.heap.size, 0, none⟩ = some v := by simp [go_sem]
theorem grown_bel {w w1 w2 : World} {r : Option Nat} (h : w.grownBy w1 r) (hb : Below w1.heap.size w1 w2) : w.grownBy w2 r :=
  ⟨hb.os.trans h.os, hb.tape.trans h.tape, hb.output.trans h.output, Nat.le_trans h.size hb.size, fun k hk hne => by rw [hb.block k (Nat.lt_of_lt_of_le hk h.size)]; exact h.block k hk hne⟩
theorem own_one (w : World) (x : Value) (e : TypeId) : (w.alloc (.cells #[x] e)).ownsRow w.heap.size e 1 (.slice (some ⟨w.heap.size, 0, none⟩) 1 1) 1 [x] :=
  ⟨rfl, .inr ⟨w.heap.size, 1, #[x], rfl, Nat.le_refl _, heap_alloc_new w _, Nat.le_refl _, by decide, rfl, rfl⟩⟩
theorem make64 {ops : Array Oper} {rest : List Oper} {o : Oper} {a : Act} {Q : Exit → Act → World → Prop} (w : World) (hg : o.guard = none) (l c : Operand) (hop : o.op = Op.makeSlice 22 l c) (base : Nat) (hbase : base ≤ w.heap.size) (n : Nat) (hl : a.eval l = .int .i64 n) (hc : a.eval c = .int .i64 n) (hn : n ≤ 1048576)
    (hK : ∀ w', w'.ownsRow base 2 1 (.slice (some ⟨w.heap.size, 0, none⟩) n n) n ((List.replicate n (0 : Int)).map (Value.int .i64)) → Below w.heap.size w w' → wpList Try.prog ops Q rest (a.put o.dst (.slice (some ⟨w.heap.size, 0, none⟩) n n)) w') :
    wpList Try.prog ops Q (o :: rest) a w := by
  obtain ⟨ii, hi, hz0, hz1, hz2⟩ := info_parts info_i64
  refine wpList_make_full w hg l c _ hop base 2 ii (.int .i64 0) 1 Try.underlying22 hi hz0 hz1 .i64 .i64 _ _ n hl hc rfl rfl (by rw [hz2]; omega) (by unfold maxLen; omega) hbase ?_
  intro w1 ho1 hg1
  refine hK w1 ?_ (below_of_grown hg1 (Nat.le_refl _) (fun k hk => by cases hk))
  rw [Nat.mul_one] at ho1
  have := toList_madeCells_one (.int .i64 0) n
  rw [show (Value.int IntKind.i64 0).cells = #[.int .i64 0] from rfl, this] at ho1
  simpa using ho1
theorem gen_world2 {c : Code} {Q : Exit → Act → World → Prop} {a : Act} {w' : World} (P : World → Prop) (h : P w') (k : ∀ w2, P w2 → Code.wp Try.prog c Q a w2) : Code.wp Try.prog c Q a w' := k w' h
theorem ownsRow_drew {w : World} {base e size : Nat} {v : Value} {n : Nat} {xs : List Value} (h : w.ownsRow base e size v n xs) : w.drew.ownsRow base e size v n xs := by
  exact h.drew
theorem own_set {w : World} {base e : Nat} {g n cap : Nat} {xs : List Int} (h : w.ownsRow base e 1 (.slice (some ⟨g, 0, none⟩) n cap) n (xs.map (Value.int .i64))) (k : Nat) (x : Int) :
    (w.setCell ⟨g, k, none⟩ (.int .i64 x)).ownsRow base e 1 (.slice (some ⟨g, 0, none⟩) n cap) n ((xs.set k x).map (Value.int .i64)) := by
  have := (h.stored k (.int .i64 x)).1
  rwa [← List.map_set] at this
theorem own_get {w : World} {base e : Nat} {g n cap : Nat} {xs : List Int} (h : w.ownsRow base e 1 (.slice (some ⟨g, 0, none⟩) n cap) n (xs.map (Value.int .i64))) (hl : xs.length = n) {k : Nat} (hk : k < n) : w.cell? ⟨g, k, none⟩ = some (.int .i64 (xs.getD k 0)) := by
  rw [h.cellAt k (by omega)]; simp [List.getD, show k < xs.length by omega]
end Go.Proofs.Ytefcdkgfabaffaa

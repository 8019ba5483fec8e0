/- BothAuto of the reference. -/
import Derived.Test.YtimfbnjgodbgoaaLC
namespace Go.Proofs.Ytimfbnjgodbgoaa
open Go.ChangeShapes Go.WideShapes Go.RowKit
set_option linter.unusedVariables false
set_option linter.unusedSimpArgs false
set_option maxHeartbeats 4000000
set_option maxRecDepth 100000
theorem below_qt {w w' : World} (h : Qt w w') : Below w.heap.size w w' := by
  obtain ⟨q, rfl⟩ := h
  exact below_drewN (Below.refl _ _) q
theorem bl_alloc {w Y : World} {o : Obj} (h : Below w.heap.size w Y) : Below w.heap.size w (Y.alloc o) := h.alloc h.size o
theorem bl_tr {w Y Z : World} (h : Below w.heap.size w Y) (k : Below Y.heap.size Y Z) : Below w.heap.size w Z := h.trans (k.mono h.size)
theorem bl_set {w Y L : World} {j : Nat} {v : Value} (h : Below w.heap.size w Y) (k : Below w.heap.size w L) : Below w.heap.size w (Y.setCell ⟨L.heap.size, j, none⟩ v) := h.setCell (p := ⟨L.heap.size, j, none⟩) k.size v
theorem share_both {P : Prop} (F : Nat → World → Option Addr → Nat → Option Addr → Nat → List Value → Prop) {G : Nat → Nat → Nat → Nat → Nat → World → Option Addr → Nat → Option Addr → Nat → List Value → Prop} (h : (∀ a b c d x w i j k l m, F x w i j k l m → G a b c d x w i j k l m) → P) (rest : ∀ a b c d x w i j k l m, F x w i j k l m → G a b c d x w i j k l m) : P := h rest
theorem gen_then {K : Act → World → Prop} {Q : Exit → Act → World → Prop} {a : Act} {w' : World} (P : World → Prop) (h : P w') (k : ∀ w2, P w2 → Exit.then K Q .normal a w2) : Exit.then K Q .normal a w' := k w' h
theorem put4n (w : World) {b t : Nat} (v0 v1 v2 v3 : Value) (hb : b = w.heap.size) : (w.alloc (.cells #[v0, v1, v2, v3] t)).cell? ⟨b, 0, none⟩ = some v0 ∧ (w.alloc (.cells #[v0, v1, v2, v3] t)).cell? ⟨b, 1, none⟩ = some v1 ∧ (w.alloc (.cells #[v0, v1, v2, v3] t)).cell? ⟨b, 2, none⟩ = some v2 ∧ (w.alloc (.cells #[v0, v1, v2, v3] t)).cell? ⟨b, 3, none⟩ = some v3 := by
  subst hb
  exact ⟨by simp [go_sem], by simp [go_sem], by simp [go_sem], by simp [go_sem]⟩
theorem below_eq {b : Nat} {w W : World} (hb : b = w.heap.size) (h : Below b w W) : Below w.heap.size w W := by subst hb; exact h
theorem bl_hv {P Q : Prop} (h : P) (k : P → Q) : Q := k h
theorem bl_size {w Y : World} (h : Below w.heap.size w Y) : w.heap.size ≤ Y.heap.size := h.size
end Go.Proofs.Ytimfbnjgodbgoaa

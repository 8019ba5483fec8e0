/- Automata that come in: sizes and copies. -/
import Derived.Test.YtimfbnjgodbgoaaHA
namespace Go.Proofs.Ytimfbnjgodbgoaa
open Go.ChangeShapes Go.WideShapes Go.RowKit
set_option linter.unusedVariables false
set_option linter.unusedSimpArgs false
set_option maxHeartbeats 4000000
set_option maxRecDepth 100000
theorem info_row : (Try.prog.info? 28).map (fun i => (i.zero, i.size, i.bytes)) = some (some (.slice none 0 0), 1, 24) := by kernel_rfl
theorem put4 {w : World} {b : Nat} {z0 z1 z2 z3 : Value} (v0 v1 v2 v3 : Value) (h0 : w.cell? ⟨b, 0, none⟩ = some z0) (h1 : w.cell? ⟨b, 1, none⟩ = some z1) (h2 : w.cell? ⟨b, 2, none⟩ = some z2) (h3 : w.cell? ⟨b, 3, none⟩ = some z3) :
    ((((w.setCell ⟨b, 0, none⟩ v0).setCell ⟨b, 1, none⟩ v1).setCell ⟨b, 2, none⟩ v2).setCell ⟨b, 3, none⟩ v3).cell? ⟨b, 0, none⟩ = some v0 ∧ ((((w.setCell ⟨b, 0, none⟩ v0).setCell ⟨b, 1, none⟩ v1).setCell ⟨b, 2, none⟩ v2).setCell ⟨b, 3, none⟩ v3).cell? ⟨b, 1, none⟩ = some v1 ∧ ((((w.setCell ⟨b, 0, none⟩ v0).setCell ⟨b, 1, none⟩ v1).setCell ⟨b, 2, none⟩ v2).setCell ⟨b, 3, none⟩ v3).cell? ⟨b, 2, none⟩ = some v2 ∧ ((((w.setCell ⟨b, 0, none⟩ v0).setCell ⟨b, 1, none⟩ v1).setCell ⟨b, 2, none⟩ v2).setCell ⟨b, 3, none⟩ v3).cell? ⟨b, 3, none⟩ = some v3 := by
  have o : ∀ (w : World) (i j : Nat) (v : Value), i ≠ j → (w.setCell ⟨b, i, none⟩ v).cell? ⟨b, j, none⟩ = w.cell? ⟨b, j, none⟩ := fun w i j v h => by rw [World.cell?_setCell_other (h := by first | (intro e; injection e with _ e; exact h e) | (intro e; injection e with _ e; exact h e.symm))]
  refine ⟨?_, ?_, ?_, ?_⟩
  · rw [o _ 3 0 _ (by decide), o _ 2 0 _ (by decide), o _ 1 0 _ (by decide)]; exact cell_st_same _ h0
  · rw [o _ 3 1 _ (by decide), o _ 2 1 _ (by decide)]; exact cell_st_same _ (by rw [o _ 0 1 _ (by decide)]; exact h1)
  · rw [o _ 3 2 _ (by decide)]; exact cell_st_same _ (by rw [o _ 1 2 _ (by decide), o _ 0 2 _ (by decide)]; exact h2)
  · exact cell_st_same _ (by rw [o _ 2 3 _ (by decide), o _ 1 3 _ (by decide), o _ 0 3 _ (by decide)]; exact h3)
theorem ownT_st {base : Nat} {w : World} {v : Value} {t : Tb} (h : OwnT base w v t) {b o : Nat} (hb : b < base) (u : Value) : OwnT base (w.setCell ⟨b, o, none⟩ u) v t := by
  obtain ⟨vs, hl, h, hr, h2⟩ := h
  exact ⟨vs, hl, ownsRow_setCell_below h (a := ⟨b, o, none⟩) hb u, fun k hk => ownsRow_setCell_below (hr k hk) (a := ⟨b, o, none⟩) hb u, h2⟩
theorem ownT_weak {base base' : Nat} {w : World} {v : Value} {t : Tb} (h : OwnT base w v t) (hb : base' ≤ base) : OwnT base' w v t := by
  obtain ⟨vs, hl, h, hr, h2⟩ := h
  exact ⟨vs, hl, owns_weak h hb, fun k hk => owns_weak (hr k hk) hb, h2⟩
end Go.Proofs.Ytimfbnjgodbgoaa

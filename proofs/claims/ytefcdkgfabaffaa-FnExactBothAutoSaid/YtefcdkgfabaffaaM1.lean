/- Slices of runs that come in: their size, and the copies that the laws make of them. -/
import Derived.Test.YtefcdkgfabaffaaR1
namespace Go.Proofs.Ytefcdkgfabaffaa
open Go.ChangeShapes Go.WideShapes Go.RowKit
set_option linter.unusedVariables false
set_option linter.unusedSimpArgs false
set_option maxHeartbeats 4000000
set_option maxRecDepth 100000
/-- a slice that came in: its cells, element by element -/
def InRow (w : World) (v : Value) (n size : Nat) (xs : List Value) : Prop :=
  (n = 0 ∧ xs = [] ∧ ∃ a cap, v = .slice a 0 cap) ∨ ∃ b off cap, v = .slice (some ⟨b, off, none⟩) n cap ∧ b < w.heap.size ∧ n ≤ cap ∧ cap ≤ maxLen ∧ ∀ j, j < n * size → w.cell? ⟨b, off + j, none⟩ = xs[j]?
theorem inRow_below {w w' : World} {v : Value} {n size : Nat} {xs : List Value} (h : InRow w v n size xs) (hb : Below w.heap.size w w') : InRow w' v n size xs := by
  rcases h with h | ⟨b, off, cap, h1, h2, h3, h4, h5⟩
  · exact .inl h
  · exact .inr ⟨b, off, cap, h1, Nat.lt_of_lt_of_le h2 hb.size, h3, h4, fun j hj => by rw [hb.cell (p := ⟨b, off + j, none⟩) h2]; exact h5 j hj⟩
end Go.Proofs.Ytefcdkgfabaffaa

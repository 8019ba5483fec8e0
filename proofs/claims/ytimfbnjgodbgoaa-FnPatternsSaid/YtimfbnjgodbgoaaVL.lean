/- VisitCounts and CountAccepted, both functions. -/
import Derived.Test.YtimfbnjgodbgoaaVK
import Derived.Test.YtimfbnjgodbgoaaVJ
import Derived.Test.YtimfbnjgodbgoaaKN
namespace Go.Proofs.Ytimfbnjgodbgoaa
open Go.ChangeShapes Go.WideShapes Go.RowKit
set_option linter.unusedVariables false
set_option linter.unusedSimpArgs false
set_option maxHeartbeats 1000000
set_option maxRecDepth 100000
/-- the box in which a ride is laid -/
theorem ride_box (w : World) (v0 v1 v2 v3 v4 v5 v6 : Value) : rd7 w.heap.size v0 v1 v2 v3 v4 v5 v6 (w.alloc (.cells #[v0, v1, v2, v3, v4, v5, v6] 69)) ∧ Below w.heap.size w (w.alloc (.cells #[v0, v1, v2, v3, v4, v5, v6] 69)) :=
  ⟨⟨by simp [go_sem], by simp [go_sem], by simp [go_sem], by simp [go_sem], by simp [go_sem], by simp [go_sem], by simp [go_sem]⟩, (Below.refl _ _).alloc (Nat.le_refl _) _⟩
end Go.Proofs.Ytimfbnjgodbgoaa

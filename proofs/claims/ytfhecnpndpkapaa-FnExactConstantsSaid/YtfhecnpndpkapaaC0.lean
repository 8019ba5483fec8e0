/- The law FnExactConstants: all constants have the numbers of the document. -/
import Derived.Test.YtfhecnpndpkapaaW1
namespace Go.Proofs.Ytfhecnpndpkapaa
open Go.ChangeShapes Go.WideShapes Go.RowKit
set_option maxHeartbeats 2000000
theorem walk_FnExactConstants (w : World) : Calls Try.prog 3 #[] w fun e w' => e = .returned (.bool true) ∧ Below w.heap.size w w' := by
  go_enter Try.func3, Try.ntmps3
  go_wp2
  go_ret
  exact ⟨rfl, (by repeat (first | exact Below.refl _ _ | assumption | apply Below.drew | (refine Below.alloc ?_ (by simp) _) | (refine Below.setCell ?_ (by simp) _)))⟩
end Go.Proofs.Ytfhecnpndpkapaa

/- Walks: CommonStart, LeastShift, of the program and of the reference, and their laws. -/
import Derived.Test.YtefcdkgfabaffaaW2
namespace Go.Proofs.Ytefcdkgfabaffaa
open Go.ChangeShapes Go.WideShapes Go.RowKit
set_option linter.unusedVariables false
set_option maxHeartbeats 2000000
set_option maxRecDepth 100000

/-- the code: 0 if all is well, 1 if not -/
def okc (b : Bool) : Int := if b then 0 else 1
def ifv (b : Bool) (x : Int) : Int := if b then x else 0
theorem ret_ii {a b c d : Int} (h : a = b) (h' : c = d) : Ending.returned (.tuple #[.int .i64 a, .int .i64 c]) = .returned (.tuple #[.int .i64 b, .int .i64 d]) := by rw [h, h']

theorem ret_si {a b : ByteArray} {c d : Int} (h : a = b) (h' : c = d) : Ending.returned (.tuple #[.string a, .int .i64 c]) = .returned (.tuple #[.string b, .int .i64 d]) := by rw [h, h']
def ifs (b : Bool) (s : ByteArray) : ByteArray := if b then s else ⟨#[]⟩
theorem ret_bi {a b : Bool} {c d : Int} (h : a = b) (h' : c = d) : Ending.returned (.tuple #[.bool a, .int .i64 c]) = .returned (.tuple #[.bool b, .int .i64 d]) := by rw [h, h']
def ifb (b : Bool) (s : Bool) : Bool := if b then s else false
theorem validB_le {s : ByteArray} (h : validB s = true) : s.size ≤ 2000 := by
  simp [validB] at h; exact h.2


end Go.Proofs.Ytefcdkgfabaffaa

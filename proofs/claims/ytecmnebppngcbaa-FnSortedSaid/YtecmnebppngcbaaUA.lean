/- FnUses: plain law: uses, letters, lengths, depth. -/
import Derived.Test.YtecmnebppngcbaaGB
import Derived.Test.YtecmnebppngcbaaGE
namespace Go.Proofs.Ytecmnebppngcbaa
open Go.ChangeShapes Go.WideShapes Go.RowKit
set_option linter.unusedVariables false
set_option linter.unusedSimpArgs false
set_option maxHeartbeats 2000000
set_option maxRecDepth 100000
end Go.Proofs.Ytecmnebppngcbaa

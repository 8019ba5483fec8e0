/- Slices of runs that a call owns: eqRunS, markRunS, heldRunS. -/
import Derived.Test.YtefcdkgfabaffaaS1
namespace Go.Proofs.Ytefcdkgfabaffaa
open Go.ChangeShapes Go.WideShapes Go.RowKit
set_option linter.unusedVariables false
set_option linter.unusedSimpArgs false
set_option maxHeartbeats 4000000
set_option maxRecDepth 100000
end Go.Proofs.Ytefcdkgfabaffaa

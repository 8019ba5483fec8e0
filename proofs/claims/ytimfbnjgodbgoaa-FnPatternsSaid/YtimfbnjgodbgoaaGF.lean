/- strings.Builder in this program: copyCheck, WriteString, with a frame. -/
import Derived.Test.YtimfbnjgodbgoaaGE
import Derived.Test.YtimfbnjgodbgoaaShelf
namespace Go.Proofs.Ytimfbnjgodbgoaa
open Go.ChangeShapes Go.WideShapes Go.RowKit
set_option linter.unusedVariables false
set_option linter.unusedSimpArgs false
set_option maxHeartbeats 2000000
set_option maxRecDepth 100000
end Go.Proofs.Ytimfbnjgodbgoaa

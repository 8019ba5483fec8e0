/- How often states are met: the reference's walk. -/
import Derived.Test.YtimfbnjgodbgoaaY5
import Derived.Test.YtimfbnjgodbgoaaY6
import Derived.Test.YtimfbnjgodbgoaaKB
import Derived.Deep.OwnRows
namespace Go.Proofs.Ytimfbnjgodbgoaa
open Go.ChangeShapes Go.WideShapes Go.RowKit
set_option linter.unusedVariables false
set_option linter.unusedSimpArgs false
set_option maxHeartbeats 2000000
set_option maxRecDepth 100000
end Go.Proofs.Ytimfbnjgodbgoaa

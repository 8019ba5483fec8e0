/- Where the words of rules lead: the reference's walk. -/
import Derived.Test.YtimfbnjgodbgoaaKA
namespace Go.Proofs.Ytimfbnjgodbgoaa
open Go.ChangeShapes Go.WideShapes Go.RowKit
set_option linter.unusedVariables false
set_option linter.unusedSimpArgs false
set_option maxHeartbeats 2000000
set_option maxRecDepth 100000
end Go.Proofs.Ytimfbnjgodbgoaa

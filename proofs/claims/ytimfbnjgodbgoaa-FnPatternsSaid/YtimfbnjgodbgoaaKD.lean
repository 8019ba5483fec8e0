/- The lengths of the codes of the words of rules: plain tables and their law. -/
import Derived.Test.YtimfbnjgodbgoaaKC
import Derived.Test.YtimfbnjgodbgoaaY3
import Derived.Test.YtimfbnjgodbgoaaGE
namespace Go.Proofs.Ytimfbnjgodbgoaa
open Go.ChangeShapes Go.WideShapes Go.RowKit
set_option linter.unusedVariables false
set_option linter.unusedSimpArgs false
set_option maxHeartbeats 2000000
set_option maxRecDepth 100000
end Go.Proofs.Ytimfbnjgodbgoaa

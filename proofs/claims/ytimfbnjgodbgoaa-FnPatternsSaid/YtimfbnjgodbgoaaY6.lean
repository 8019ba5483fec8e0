/- Two lists that grow in turn: an automaton's finals and its table. -/
import Derived.Test.YtimfbnjgodbgoaaKT
namespace Go.Proofs.Ytimfbnjgodbgoaa
open Go.ChangeShapes Go.WideShapes Go.RowKit
set_option linter.unusedVariables false
set_option linter.unusedSimpArgs false
set_option maxHeartbeats 2000000
set_option maxRecDepth 100000
end Go.Proofs.Ytimfbnjgodbgoaa

/- The automaton that accepts what two accept: plain law. -/
namespace Go.Proofs.Ytimfbnjgodbgoaa
open Go.ChangeShapes Go.WideShapes Go.RowKit
set_option linter.unusedVariables false
set_option linter.unusedSimpArgs false
set_option maxHeartbeats 2000000
set_option maxRecDepth 100000
end Go.Proofs.Ytimfbnjgodbgoaa

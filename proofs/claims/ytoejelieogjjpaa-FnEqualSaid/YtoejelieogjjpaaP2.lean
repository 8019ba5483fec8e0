/- A drawn word. -/
import Derived.Test.YtoejelieogjjpaaP1
import Derived.Test.YtoejelieogjjpaaY1
namespace Go.Proofs.Ytoejelieogjjpaa
open Go.ChangeShapes Go.WideShapes Go.RowKit
set_option linter.unusedVariables false
set_option linter.unusedSimpArgs false
set_option maxHeartbeats 1000000
set_option maxRecDepth 100000
end Go.Proofs.Ytoejelieogjjpaa

/- LetterCounts, of the program and of the reference, and its law. -/
import Derived.Test.YtoejelieogjjpaaY2
namespace Go.Proofs.Ytoejelieogjjpaa
open Go.ChangeShapes Go.WideShapes Go.RowKit
set_option linter.unusedVariables false
set_option linter.unusedSimpArgs false
set_option maxHeartbeats 2000000
set_option maxRecDepth 100000
end Go.Proofs.Ytoejelieogjjpaa

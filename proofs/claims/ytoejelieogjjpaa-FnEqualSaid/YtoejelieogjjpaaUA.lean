/- FnUses: plain law: uses, letters, lengths, depth. -/
import Derived.Test.YtoejelieogjjpaaGB
import Derived.Test.YtoejelieogjjpaaGE
namespace Go.Proofs.Ytoejelieogjjpaa
open Go.ChangeShapes Go.WideShapes Go.RowKit
set_option linter.unusedVariables false
set_option linter.unusedSimpArgs false
set_option maxHeartbeats 2000000
set_option maxRecDepth 100000
end Go.Proofs.Ytoejelieogjjpaa

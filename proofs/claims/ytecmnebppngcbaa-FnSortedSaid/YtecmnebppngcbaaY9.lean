/- Drawn grammars: copies, raised rules, appends of rules; l02Told. -/
import Derived.Test.YtecmnebppngcbaaUA
import Derived.Test.YtecmnebppngcbaaP1
import Derived.Test.YtecmnebppngcbaaUR
import Derived.Deep.AppendLies
import Derived.RegionCalls
import Derived.Test.YtecmnebppngcbaaUT
namespace Go.Proofs.Ytecmnebppngcbaa
open Go.ChangeShapes Go.WideShapes Go.RowKit
set_option linter.unusedVariables false
set_option linter.unusedSimpArgs false
set_option maxHeartbeats 2000000
set_option maxRecDepth 100000
end Go.Proofs.Ytecmnebppngcbaa

/- Drawn grammars: raised rules, joined and powered grammars. -/
namespace Go.Proofs.Ytecmnebppngcbaa
open Go.ChangeShapes Go.WideShapes Go.RowKit
set_option linter.unusedVariables false
set_option linter.unusedSimpArgs false
set_option maxHeartbeats 2000000
set_option maxRecDepth 100000
end Go.Proofs.Ytecmnebppngcbaa

/- Drawn grammars: joined and powered grammars. -/
namespace Go.Proofs.Ytecmnebppngcbaa
open Go.ChangeShapes Go.WideShapes Go.RowKit
set_option linter.unusedVariables false
set_option linter.unusedSimpArgs false
set_option maxHeartbeats 2000000
set_option maxRecDepth 100000
end Go.Proofs.Ytecmnebppngcbaa

/- Drawn grammars: powered grammars. -/
namespace Go.Proofs.Ytecmnebppngcbaa
open Go.ChangeShapes Go.WideShapes Go.RowKit
set_option linter.unusedVariables false
set_option linter.unusedSimpArgs false
set_option maxHeartbeats 2000000
set_option maxRecDepth 100000
end Go.Proofs.Ytecmnebppngcbaa

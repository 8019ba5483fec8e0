/- BothAuto of the program. -/
import Derived.Test.YtimfbnjgodbgoaaY6
namespace Go.Proofs.Ytimfbnjgodbgoaa
open Go.ChangeShapes Go.WideShapes Go.RowKit
set_option linter.unusedVariables false
set_option linter.unusedSimpArgs false
set_option maxHeartbeats 4000000
set_option maxRecDepth 100000
theorem auR_set {base bx o : Nat} {w : World} {f v u : Value} {vs : List Value} {a : Au} (h : AuR base w f v vs a) (hb : bx < base) : AuR base (w.setCell ⟨bx, o, none⟩ u) f v vs a := ⟨ownsRow_setCell_below h.1 (a := ⟨bx, o, none⟩) hb _, rowsT_st h.2.1 hb _, h.2.2⟩
end Go.Proofs.Ytimfbnjgodbgoaa

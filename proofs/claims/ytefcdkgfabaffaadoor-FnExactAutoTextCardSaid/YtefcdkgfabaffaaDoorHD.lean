/- The law of SameAuto. -/
import Derived.Test.YtefcdkgfabaffaaDoorHC
namespace Go.Proofs.YtefcdkgfabaffaaDoor
open Go.ChangeShapes Go.WideShapes Go.RowKit
set_option linter.unusedVariables false
set_option linter.unusedSimpArgs false
set_option maxHeartbeats 4000000
set_option maxRecDepth 100000
theorem l_toAuto2 (u1 u2 : Value) (a : Au) (w : World) (hs : auSm a) (h1 : InI w u1 a.fi) (h2 : InT w u2 a.nx) :
    Calls Tryd.prog 6 #[.agg #[.int .i64 a.st, .int .i64 a.sa, u1, u2]] w fun e w' => ∃ g1 g2, e = .returned (.agg #[.int .i64 a.st, .int .i64 a.sa, .slice (some ⟨g1, 0, none⟩) a.fi.length a.fi.length, .slice (some ⟨g2, 0, none⟩) a.nx.length a.nx.length]) ∧ InI w' (.slice (some ⟨g1, 0, none⟩) a.fi.length a.fi.length) a.fi ∧ InT w' (.slice (some ⟨g2, 0, none⟩) a.nx.length a.nx.length) a.nx ∧ Below w.heap.size w w' := by
  refine (l_toAuto u1 u2 a w hs h1 h2).mono ?_
  rintro e w' ⟨g1, g2, rfl, h3, h4, _, hb⟩
  exact ⟨_, _, rfl, inI_own h3, ownT_in h4, hb⟩
end Go.Proofs.YtefcdkgfabaffaaDoor

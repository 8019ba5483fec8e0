/- StateMaps, of the program and of the reference. -/
import Derived.Test.YtimfbnjgodbgoaaKM
import Derived.Test.YtimfbnjgodbgoaaY2
namespace Go.Proofs.Ytimfbnjgodbgoaa
open Go.ChangeShapes Go.WideShapes Go.RowKit
set_option linter.unusedVariables false
set_option linter.unusedSimpArgs false
set_option maxHeartbeats 2000000
set_option maxRecDepth 100000
theorem Gp.cell {P : Nat → Prop} {w w' : World} (g : Gp P w w') {b o : Nat} {v : Value} (hc : w.cell? ⟨b, o, none⟩ = some v) (hb : ¬ P b) : w'.cell? ⟨b, o, none⟩ = some v :=
  (World.cell?_of_block (a := ⟨b, o, none⟩) (g.block b (World.block_lt_of_cell? _ _ hc) hb)).trans hc
theorem ownT_nil0 (base : Nat) (w : World) : OwnT base w (.slice none 0 0) [] :=
  ⟨[], rfl, World.ownsRow_nil _ _ _ _, fun k hk => absurd hk (by simp), fun i j _ hj => absurd hj (by simp), fun i b hi => absurd hi (by simp)⟩
end Go.Proofs.Ytimfbnjgodbgoaa

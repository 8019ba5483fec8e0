/- The reference's tables: how often a state is met, and behind how many letters first. -/
import Derived.Test.YtimfbnjgodbgoaaY4
import Derived.Test.YtimfbnjgodbgoaaKF
namespace Go.Proofs.Ytimfbnjgodbgoaa
open Go.ChangeShapes Go.WideShapes Go.RowKit
set_option linter.unusedVariables false
set_option linter.unusedSimpArgs false
set_option maxHeartbeats 1000000
set_option maxRecDepth 100000
theorem gl_bd {l : List Ru} (hok : gOk l = true) {p : Nat} (hp : p < l.length) : 0 ≤ (gLn l).getD p 0 ∧ (gLn l).getD p 0 ≤ 1000000000000000 := by
  have g := (gOk_some hok).2.2
  rw [List.getD, List.getElem?_eq_getElem (by omega)]
  have := (g.2 _ (List.getElem_mem (show p < (gLn l).length by omega)))
  simp only [Option.getD_some]
  omega
theorem tl_bd {nx : Tb} {l : List Ru} (hn : nxP nx) (hok : gOk l = true) {t : Nat} (f k s : Nat) (h : k < f) (hf : f ≤ l.length) (hs : s < nx.length) :
    0 ≤ (tA (etT (tlE l (gSm nx l) t) nx.length f) k).getD s 0 ∧ (tA (etT (tlE l (gSm nx l) t) nx.length f) k).getD s 0 ≤ (gLn l).getD k 0 := by
  rw [tl_law hn hok f k s h hf hs]
  have h1 := cwW_bd nx t (exF l l.length k) s
  have h2 := exF_len hok l.length k (by omega) (by omega)
  omega
theorem fs_bd {nx : Tb} {l : List Ru} (hn : nxP nx) (hok : gOk l = true) {t : Nat} (f k s : Nat) (h : k < f) (hf : f ≤ l.length) (hs : s < nx.length) :
    -1 ≤ (tA (etT (fsE l (gSm nx l) t) nx.length f) k).getD s 0 ∧ (tA (etT (fsE l (gSm nx l) t) nx.length f) k).getD s 0 ≤ (gLn l).getD k 0 := by
  have h1 := fs_law hn hok (t := t) f k s h hf hs
  have h2 := exF_len hok l.length k (by omega) (by omega)
  have h3 := gl_bd hok (show k < l.length by omega)
  rcases h1 with ⟨e, -⟩ | ⟨-, e⟩
  · omega
  · have := e.1; have := e.2.1; omega
theorem gLn_len3 {l : List Ru} (hok : gOk l = true) : (gLn l).length = l.length := (gOk_some hok).2.2.1
end Go.Proofs.Ytimfbnjgodbgoaa

/- DepthOf, of the program and of the reference, and its law. -/
import Derived.Test.YtefcdkgfabaffaaG7
namespace Go.Proofs.Ytefcdkgfabaffaa
open Go.ChangeShapes Go.WideShapes Go.RowKit
set_option linter.unusedVariables false
set_option linter.unusedSimpArgs false
set_option maxHeartbeats 2000000
set_option maxRecDepth 100000
theorem getD_mem {ds : List Int} {k : Nat} (h : k < ds.length) : ds.getD k 0 ∈ ds := by
  rw [List.getD, List.getElem?_eq_getElem h]; exact List.getElem_mem h
theorem lnT_pre {l : List Ru} : ∀ {n k : Nat}, k ≤ n → lnT l n ≠ none → ∃ ls, lnT l k = some ls
  | n, k, hk, h => by
    cases h2 : lnT l k with
    | some ls => exact ⟨ls, rfl⟩
    | none =>
      have := lnT_none h2 (n - k)
      rw [show k + (n - k) = n by omega] at this
      exact absurd this h
/-- what is known of a rule of a right grammar -/
theorem gOk_rule {l : List Ru} (h : gOk l = true) {k : Nat} (hk : k < l.length) : ((ruA l k).1.size = 0 → 0 ≤ (ruA l k).2.1 ∧ (ruA l k).2.1 < k ∧ 0 ≤ (ruA l k).2.2 ∧ (ruA l k).2.2 < k) ∧ ((ruA l k).1.size ≠ 0 → (ruA l k).1.size = 1 ∧ validB (ruA l k).1 = true ∧ (ruA l k).2.1 = 0 ∧ (ruA l k).2.2 = 0) := by
  obtain ⟨_, h2, _, _⟩ := gOk_some h
  obtain ⟨ls, h3⟩ := lnT_pre (show k + 1 ≤ l.length by omega) (by rw [h2]; simp)
  obtain ⟨ls0, h4⟩ := lnT_pre (show k ≤ l.length by omega) (by rw [h2]; simp)
  have hl := (lnT_bd h4).1
  have hne : ruP ls0 (ruA l k) ≠ none := by
    intro e
    rw [lnT_bad h4 e] at h3; cases h3
  constructor
  · intro hz
    apply Classical.byContradiction
    intro hc
    exact hne (ruP_out hz (by rw [hl]; exact hc))
  · intro hz
    apply Classical.byContradiction
    intro hc
    exact hne (ruP_bad hz hc)
end Go.Proofs.Ytefcdkgfabaffaa

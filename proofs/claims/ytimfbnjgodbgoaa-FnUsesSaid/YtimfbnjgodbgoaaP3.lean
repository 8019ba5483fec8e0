/- Helpers of the laws: a2Long, a2At, a2Has. -/
import Derived.Test.YtimfbnjgodbgoaaP2
namespace Go.Proofs.Ytimfbnjgodbgoaa
open Go.ChangeShapes Go.WideShapes Go.RowKit
set_option linter.unusedVariables false
set_option linter.unusedSimpArgs false
set_option maxHeartbeats 1000000
set_option maxRecDepth 100000
theorem inRow_slice {w : World} {v : Value} {n k : Nat} {xs : List Value} (h : InRow w v n k xs) : ∃ a cap, v = .slice a n cap := by
  rcases h with ⟨rfl, _, a, cap, rfl⟩ | ⟨b, off, cap, rfl, _⟩
  · exact ⟨_, _, rfl⟩
  · exact ⟨_, _, rfl⟩
theorem l_a2Long (v v2 : Value) (n n2 : Nat) (xs xs2 : List Value) (w : World) (h : InRow w v n 1 xs) (h2 : InRow w v2 n2 1 xs2) :
    Calls Try.prog 5 #[v, v2] w fun e w' => e = .returned (.bool (decide (3000 < n) || decide (3000 < n2))) ∧ w = w' := by
  obtain ⟨a, cap, rfl⟩ := inRow_slice h
  obtain ⟨a2, cap2, rfl⟩ := inRow_slice h2
  clear h h2
  by_cases h1 : 3000 < n
  · have h1' : (3000 : Int) < n := by omega
    go_enter Try.func5, Try.ntmps5
    go_wp2
    go_ret
    exact ⟨by simp [h1], rfl⟩
  · have h1' : ¬ (3000 : Int) < n := by omega
    by_cases h2 : 3000 < n2
    · have h2' : (3000 : Int) < n2 := by omega
      go_enter Try.func5, Try.ntmps5
      go_wp2
      go_ret
      exact ⟨by simp [h1, h2], rfl⟩
    · have h2' : ¬ (3000 : Int) < n2 := by omega
      go_enter Try.func5, Try.ntmps5
      go_wp2
      go_ret
      exact ⟨by simp [h1, h2], rfl⟩
end Go.Proofs.Ytimfbnjgodbgoaa

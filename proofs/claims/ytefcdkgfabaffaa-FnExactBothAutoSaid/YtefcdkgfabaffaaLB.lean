/- The automaton that accepts what two accept: plain law. -/
import Derived.Test.YtefcdkgfabaffaaLA
namespace Go.Proofs.Ytefcdkgfabaffaa
open Go.ChangeShapes Go.WideShapes Go.RowKit
set_option linter.unusedVariables false
set_option linter.unusedSimpArgs false
set_option maxHeartbeats 2000000
set_option maxRecDepth 100000
/-- state x is the pair of x / n and x % n, n the second automaton's states -/
def baE (a b : Au) (x c : Nat) : Int := (tA a.nx (x / b.nx.length)).getD c 0 * b.st + (tA b.nx (x % b.nx.length)).getD c 0
def baR (a b : Au) (x : Nat) : Nat → List Int
  | 0 => []
  | c + 1 => baR a b x c ++ [baE a b x c]
def baT (a b : Au) : Nat → Tb
  | 0 => []
  | x + 1 => baT a b x ++ [baR a b x 4]
def baH (a b : Au) (x : Nat) : Bool := a.fi.contains ((x / b.nx.length : Nat) : Int) && b.fi.contains ((x % b.nx.length : Nat) : Int)
def baF (a b : Au) : Nat → List Int
  | 0 => []
  | x + 1 => baF a b x ++ (if baH a b x = true then [(x : Int)] else [])
theorem baR_len (a b : Au) (x : Nat) : ∀ c, (baR a b x c).length = c
  | 0 => rfl
  | c + 1 => by rw [baR, List.length_append, baR_len a b x c]; rfl
theorem baT_len (a b : Au) : ∀ x, (baT a b x).length = x
  | 0 => rfl
  | x + 1 => by rw [baT, List.length_append, baT_len a b x]; rfl
theorem baF_len (a b : Au) : ∀ x, (baF a b x).length ≤ x
  | 0 => by simp [baF]
  | x + 1 => by
    have := baF_len a b x
    rw [baF, List.length_append]
    split <;> simp <;> omega
theorem baT_row (a b : Au) : ∀ {n x : Nat}, x < n → tA (baT a b n) x = baR a b x 4
  | 0, x, h => by omega
  | n + 1, x, h => by
    have hl := baT_len a b n
    rw [baT]
    by_cases he : x < n
    · rw [tA_app (by omega)]; exact baT_row a b he
    · have e : x = n := by omega
      subst e
      have := @tA_last (baT a b x) (baR a b x 4)
      rwa [hl] at this
def baA (a b : Au) : Au := ⟨a.st * b.st, a.sa * b.st + b.sa, baF a b (a.nx.length * b.nx.length), baT a b (a.nx.length * b.nx.length)⟩
def boR (a b : Au) : Au := if (auOk a && auOk b) = true ∧ a.st * b.st ≤ 24 then baA a b else ⟨0, 0, [], []⟩
def boC (a b : Au) : Int := if (auOk a && auOk b) = true then (if a.st * b.st ≤ 24 then 0 else 3) else 1
theorem boR_sm (a b : Au) : auSm (boR a b) := by
  unfold boR
  split
  · rename_i h
    obtain ⟨h1, h2⟩ := h
    rw [Bool.and_eq_true] at h1
    obtain ⟨_, _, _, fa, _⟩ := auOk_facts h1.1
    obtain ⟨_, _, _, fb, _⟩ := auOk_facts h1.2
    have hn : ((a.nx.length * b.nx.length : Nat) : Int) = a.st * b.st := by rw [Int.natCast_mul, fa, fb]
    have hn2 : a.nx.length * b.nx.length ≤ 24 := by omega
    refine ⟨?_, ?_, fun r hr => ?_⟩
    · have := baF_len a b (a.nx.length * b.nx.length)
      show (baF a b (a.nx.length * b.nx.length)).length ≤ 1048576
      omega
    · show (baT a b (a.nx.length * b.nx.length)).length ≤ 1048576
      rw [baT_len]; omega
    · obtain ⟨j, hj, rfl⟩ := List.getElem_of_mem hr
      have hj2 : j < a.nx.length * b.nx.length := by have hj3 : j < (baT a b (a.nx.length * b.nx.length)).length := hj; rwa [baT_len] at hj3
      have := baT_row a b hj2
      rw [tA, List.getD, List.getElem?_eq_getElem (by rw [baT_len]; exact hj2)] at this
      have h5 : ((baT a b (a.nx.length * b.nx.length))[j]'(by rw [baT_len]; exact hj2)) = baR a b j 4 := this
      show ((baT a b (a.nx.length * b.nx.length))[j]'(by rw [baT_len]; exact hj2)).length ≤ 1048576
      rw [h5, baR_len]; omega
  · exact ⟨by simp, by simp, fun r hr => by cases hr⟩
end Go.Proofs.Ytefcdkgfabaffaa

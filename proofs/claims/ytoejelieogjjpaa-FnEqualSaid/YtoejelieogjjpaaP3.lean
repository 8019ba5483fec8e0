/- Helpers of the laws: a2Long, a2At, a2Has. -/
import Derived.Test.YtoejelieogjjpaaP2
namespace Go.Proofs.Ytoejelieogjjpaa
open Go.ChangeShapes Go.WideShapes Go.RowKit
set_option linter.unusedVariables false
set_option linter.unusedSimpArgs false
set_option maxHeartbeats 1000000
set_option maxRecDepth 100000
theorem inRow_slice {w : World} {v : Value} {n k : Nat} {xs : List Value} (h : InRow w v n k xs) : ∃ a cap, v = .slice a n cap := by
  rcases h with ⟨rfl, _, a, cap, rfl⟩ | ⟨b, off, cap, rfl, _⟩
  · exact ⟨_, _, rfl⟩
  · exact ⟨_, _, rfl⟩
theorem l_a2Long (v v2 : Value) (n n2 : Nat) (xs xs2 : List Value) (w : World) (h : InRow w v n 1 xs) (h2 : InRow w v2 n2 1 xs2) :
    Calls Try.prog 5 #[v, v2] w fun e w' => e = .returned (.bool (decide (3000 < n) || decide (3000 < n2))) ∧ w = w' := by
  obtain ⟨a, cap, rfl⟩ := inRow_slice h
  obtain ⟨a2, cap2, rfl⟩ := inRow_slice h2
  clear h h2
  by_cases h1 : 3000 < n
  · have h1' : (3000 : Int) < n := by omega
    go_enter Try.func5, Try.ntmps5
    go_wp2
    go_ret
    exact ⟨by simp [h1], rfl⟩
  · have h1' : ¬ (3000 : Int) < n := by omega
    by_cases h2 : 3000 < n2
    · have h2' : (3000 : Int) < n2 := by omega
      go_enter Try.func5, Try.ntmps5
      go_wp2
      go_ret
      exact ⟨by simp [h1, h2], rfl⟩
    · have h2' : ¬ (3000 : Int) < n2 := by omega
      go_enter Try.func5, Try.ntmps5
      go_wp2
      go_ret
      exact ⟨by simp [h1, h2], rfl⟩
theorem l_a2At (v : Value) (l : List UInt8) (t : Nat) (n : Int) (w : World) (h : InRow w v l.length 1 (u8s l)) :
    Calls Try.prog 8 #[v, .int .i64 t, .int .i64 n] w fun e w' => ∃ x : Nat, e = .returned (.int .i64 x) ∧ (x = 0 ∨ (x : Int) < n) ∧ Qt w w' := by
  by_cases hin : t < l.length ∧ 1 ≤ n
  · obtain ⟨h1, h2⟩ := hin
    rcases h with ⟨h0, _⟩ | ⟨b, off, cap, rfl, hb, hc, hm, hcell⟩
    · omega
    · have hc0 := hcell t (by omega)
      rw [show (u8s l)[t]? = some (.int .u8 ((l[t]'h1).toNat : Int)) by simp [u8s, List.getElem?_eq_getElem h1]] at hc0
      have hx8 : (l[t]'h1).toNat < 256 := UInt8.toNat_lt _
      have h1' : ¬ (l.length : Int) ≤ t := by omega
      have h1'' : (t : Int) < l.length := by omega
      clear hcell
      generalize (l[t]'h1).toNat = x at *
      have hy : ∃ y : Nat, (x : Int) % n = (y : Int) ∧ (y = 0 ∨ (y : Int) < n) := by
        have a1 := Int.emod_nonneg (x : Int) (show n ≠ 0 by omega)
        have a2 := Int.emod_lt_of_pos (x : Int) (show 0 < n by omega)
        exact ⟨((x : Int) % n).toNat, by omega, by omega⟩
      obtain ⟨y, hy, hyn⟩ := hy
      have HY := Lib.hid hy
      clear hy
      go_enter Try.func8, Try.ntmps8
      go_wp2
      go_ret
      exact ⟨y, by rw [← HY.out]; rfl, hyn, Qt.refl _⟩
  · obtain ⟨a, cap, rfl⟩ := inRow_slice h
    by_cases h1 : t < l.length
    · have h1' : ¬ (l.length : Int) ≤ t := by omega
      have h2 : n < 1 := by omega
      go_enter Try.func8, Try.ntmps8
      go_wp2
      go_ret
      exact ⟨0, rfl, .inl rfl, Qt.refl _⟩
    · have h1' : (l.length : Int) ≤ t := by omega
      go_enter Try.func8, Try.ntmps8
      go_wp2
      go_ret
      exact ⟨0, rfl, .inl rfl, Qt.refl _⟩
end Go.Proofs.Ytoejelieogjjpaa

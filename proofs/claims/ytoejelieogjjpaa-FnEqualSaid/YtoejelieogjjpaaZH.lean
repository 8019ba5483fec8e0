/- What follows from places of one word: common beginnings; plain. -/
import Derived.Test.YtoejelieogjjpaaZD
namespace Go.Proofs.Ytoejelieogjjpaa
open Go.ChangeShapes Go.WideShapes Go.RowKit
set_option linter.unusedVariables false
set_option linter.unusedSimpArgs false
set_option maxHeartbeats 1000000
/-- what follows from a place -/
def sfx (l : List Ru) (i : Int) : List UInt8 := (wd l).drop i.toNat
def cpl : List UInt8 → List UInt8 → Nat
  | a :: x, b :: y => if a = b then cpl x y + 1 else 0
  | _, _ => 0
theorem cpl_nil (y : List UInt8) : cpl [] y = 0 := by cases y <;> rfl
theorem cpl_nil2 (x : List UInt8) : cpl x [] = 0 := by cases x <;> rfl
theorem cpl_cons (a b : UInt8) (x y : List UInt8) : cpl (a :: x) (b :: y) = if a = b then cpl x y + 1 else 0 := rfl
theorem cpl_le : ∀ (x y : List UInt8), cpl x y ≤ x.length ∧ cpl x y ≤ y.length
  | [], y => by rw [cpl_nil]; exact ⟨Nat.zero_le _, Nat.zero_le _⟩
  | a :: x, [] => by rw [cpl_nil2]; exact ⟨Nat.zero_le _, Nat.zero_le _⟩
  | a :: x, b :: y => by
    rw [cpl_cons]
    have := cpl_le x y
    split <;> simp <;> omega
theorem cpl_take : ∀ (x y : List UInt8) (k : Nat), k ≤ x.length → k ≤ y.length → (x.take k = y.take k ↔ k ≤ cpl x y)
  | x, y, 0, _, _ => by simp
  | [], y, k + 1, h, _ => by simp at h
  | a :: x, [], k + 1, _, h => by simp at h
  | a :: x, b :: y, k + 1, h, h2 => by
    have ih := cpl_take x y k (by simpa using h) (by simpa using h2)
    rw [cpl_cons, List.take_succ_cons, List.take_succ_cons, List.cons.injEq, ih]
    by_cases hab : a = b
    · rw [if_pos hab]
      constructor
      · rintro ⟨-, h⟩; omega
      · intro h; exact ⟨hab, by omega⟩
    · rw [if_neg hab]
      constructor
      · rintro ⟨h, -⟩; exact absurd h hab
      · intro h; omega
theorem cpl_ne : ∀ (x y : List UInt8), cpl x y < x.length → cpl x y < y.length → x.getD (cpl x y) 0 ≠ y.getD (cpl x y) 0
  | [], y, h, _ => by simp at h
  | a :: x, [], _, h => by simp at h
  | a :: x, b :: y, h, h2 => by
    rw [cpl_cons] at h h2 ⊢
    by_cases hab : a = b
    · rw [if_pos hab] at h h2 ⊢
      have := cpl_ne x y (by simpa using h) (by simpa using h2)
      simpa using this
    · rw [if_neg hab]; simpa using hab
theorem sfx_len (l : List Ru) (i : Int) : (sfx l i).length = (wd l).length - i.toNat := by rw [sfx, List.length_drop]
theorem ptX_take (l : List Ru) {i k : Int} (h0 : 0 ≤ i) (hk : 0 ≤ k) : ptX l i (i + k) = (sfx l i).take k.toNat := by
  rw [ptX, sfx, List.drop_take]
  congr 1
  omega
theorem letC_take {u : List UInt8} (h : letC u) (a b : Nat) : letC ((u.drop a).take b) := fun x hx => h x (List.mem_of_mem_drop (List.mem_of_mem_take hx))
theorem prt_eq {l : List Ru} (hw : letC (wd l)) (h30 : (wd l).length ≤ 30) {i j k : Int} (hi : 0 ≤ i) (hj : 0 ≤ j) (hk : 0 ≤ k) (hik : i + k ≤ (wd l).length) (hjk : j + k ≤ (wd l).length) :
    (evN bA (ptX l i (i + k)) = evN bA (ptX l j (j + k)) ∧ evN bB (ptX l i (i + k)) = evN bB (ptX l j (j + k))) ↔ k.toNat ≤ cpl (sfx l i) (sfx l j) := by
  rw [ptX_take l hi hk, ptX_take l hj hk, ← cpl_take _ _ _ (by rw [sfx_len]; omega) (by rw [sfx_len]; omega)]
  constructor
  · rintro ⟨h1, h2⟩
    by_cases hij : i = j
    · rw [hij]
    · have e1 : ((sfx l i).take k.toNat).length = k.toNat := by rw [List.length_take, sfx_len]; omega
      have e2 : ((sfx l j).take k.toNat).length = k.toNat := by rw [List.length_take, sfx_len]; omega
      exact print_inj (by rw [e1, e2]) (by rw [e1]; omega) (letC_take hw _ _) (letC_take hw _ _) h1 h2
  · intro h
    rw [h]
    exact ⟨rfl, rfl⟩
end Go.Proofs.Ytoejelieogjjpaa

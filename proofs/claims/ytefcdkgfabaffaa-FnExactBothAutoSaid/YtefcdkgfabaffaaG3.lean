/- The lengths of a grammar's rules: plain law. -/
import Derived.Test.YtefcdkgfabaffaaG2
namespace Go.Proofs.Ytefcdkgfabaffaa
open Go.ChangeShapes Go.WideShapes Go.RowKit
set_option linter.unusedVariables false
set_option linter.unusedSimpArgs false
set_option maxHeartbeats 4000000
set_option maxRecDepth 100000
/-- the length of a rule's word, if the rule is right behind rules with these lengths -/
def ruP (ls : List Int) (r : Ru) : Option Int :=
  if r.1.size = 0 then
    if 0 ≤ r.2.1 ∧ r.2.1 < ls.length ∧ 0 ≤ r.2.2 ∧ r.2.2 < ls.length then
      if ls.getD r.2.1.toNat 0 + ls.getD r.2.2.toNat 0 ≤ 1000000000000000 then some (ls.getD r.2.1.toNat 0 + ls.getD r.2.2.toNat 0) else none
    else none
  else if r.1.size = 1 ∧ validB r.1 = true ∧ r.2.1 = 0 ∧ r.2.2 = 0 then some 1 else none
/-- the lengths of the first k rules, if they are right -/
def lnT (l : List Ru) : Nat → Option (List Int)
  | 0 => some []
  | k + 1 => match lnT l k with
    | some ls => match ruP ls (ruA l k) with
      | some n => some (ls ++ [n])
      | none => none
    | none => none
def gOk (l : List Ru) : Bool := decide (l.length ≤ 400) && (lnT l l.length).isSome
def gLn (l : List Ru) : List Int := (lnT l l.length).getD []
theorem lnT_step {l : List Ru} {k : Nat} {ls : List Int} {n : Int} (h : lnT l k = some ls) (h2 : ruP ls (ruA l k) = some n) : lnT l (k + 1) = some (ls ++ [n]) := by
  rw [lnT, h]; simp only [h2]
theorem lnT_bad {l : List Ru} {k : Nat} {ls : List Int} (h : lnT l k = some ls) (h2 : ruP ls (ruA l k) = none) : lnT l (k + 1) = none := by
  rw [lnT, h]; simp only [h2]
theorem lnT_none {l : List Ru} {k : Nat} (h : lnT l k = none) : ∀ d, lnT l (k + d) = none
  | 0 => h
  | d + 1 => by
    show lnT l (k + d + 1) = none
    rw [lnT, lnT_none h d]
theorem lnT_end {l : List Ru} {k : Nat} (hk : k ≤ l.length) (h : lnT l k = none) : gOk l = false ∧ gLn l = [] ∧ (lnT l l.length).isSome = false := by
  have h2 := lnT_none h (l.length - k)
  rw [show k + (l.length - k) = l.length by omega] at h2
  refine ⟨?_, ?_, ?_⟩
  · simp [gOk, h2]
  · simp [gLn, h2]
  · rw [h2]; rfl
theorem lnT_all {l : List Ru} {ls : List Int} (h : lnT l l.length = some ls) : gOk l = decide (l.length ≤ 400) ∧ gLn l = ls ∧ (lnT l l.length).isSome = true := by
  refine ⟨?_, ?_, ?_⟩
  · simp [gOk, h]
  · simp [gLn, h]
  · rw [h]; rfl
theorem ruP_bd {ls : List Int} {r : Ru} {n : Int} (hall : ∀ x ∈ ls, 1 ≤ x ∧ x ≤ 1000000000000000) (h : ruP ls r = some n) : 1 ≤ n ∧ n ≤ 1000000000000000 := by
  unfold ruP at h
  by_cases h0 : r.1.size = 0
  · rw [if_pos h0] at h
    by_cases h1 : 0 ≤ r.2.1 ∧ r.2.1 < ls.length ∧ 0 ≤ r.2.2 ∧ r.2.2 < ls.length
    · rw [if_pos h1] at h
      by_cases h2 : ls.getD r.2.1.toNat 0 + ls.getD r.2.2.toNat 0 ≤ 1000000000000000
      · rw [if_pos h2] at h
        have e : ∀ k, k < ls.length → 1 ≤ ls.getD k 0 := fun k hk => by
          rw [List.getD, List.getElem?_eq_getElem hk]
          exact (hall _ (List.getElem_mem hk)).1
        have a := e r.2.1.toNat (by omega)
        have b := e r.2.2.toNat (by omega)
        injection h with h
        omega
      · rw [if_neg h2] at h; cases h
    · rw [if_neg h1] at h; cases h
  · rw [if_neg h0] at h
    by_cases h1 : r.1.size = 1 ∧ validB r.1 = true ∧ r.2.1 = 0 ∧ r.2.2 = 0
    · rw [if_pos h1] at h; injection h with h; omega
    · rw [if_neg h1] at h; cases h
theorem lnT_bd {l : List Ru} : ∀ {k : Nat} {ls : List Int}, lnT l k = some ls → ls.length = k ∧ ∀ x ∈ ls, 1 ≤ x ∧ x ≤ 1000000000000000
  | 0, ls, h => by injection h with h; subst h; exact ⟨rfl, fun x hx => by cases hx⟩
  | k + 1, ls, h => by
    rw [lnT] at h
    cases h1 : lnT l k with
    | none => rw [h1] at h; cases h
    | some ls0 =>
      rw [h1] at h
      simp only at h
      obtain ⟨e1, e2⟩ := lnT_bd h1
      cases h2 : ruP ls0 (ruA l k) with
      | none => rw [h2] at h; cases h
      | some n =>
        rw [h2] at h
        injection h with h
        subst h
        refine ⟨by simp [e1], fun x hx => ?_⟩
        rcases List.mem_append.1 hx with hx | hx
        · exact e2 x hx
        · rw [List.mem_singleton] at hx; subst hx; exact ruP_bd e2 h2
theorem ruP_pair {ls : List Int} {r : Ru} (h0 : r.1.size = 0) (h1 : 0 ≤ r.2.1 ∧ r.2.1 < ls.length ∧ 0 ≤ r.2.2 ∧ r.2.2 < ls.length) (h2 : ls.getD r.2.1.toNat 0 + ls.getD r.2.2.toNat 0 ≤ 1000000000000000) : ruP ls r = some (ls.getD r.2.1.toNat 0 + ls.getD r.2.2.toNat 0) := by
  rw [ruP, if_pos h0, if_pos h1, if_pos h2]
theorem ruP_long {ls : List Int} {r : Ru} (h0 : r.1.size = 0) (h1 : 0 ≤ r.2.1 ∧ r.2.1 < ls.length ∧ 0 ≤ r.2.2 ∧ r.2.2 < ls.length) (h2 : ¬ ls.getD r.2.1.toNat 0 + ls.getD r.2.2.toNat 0 ≤ 1000000000000000) : ruP ls r = none := by
  rw [ruP, if_pos h0, if_pos h1, if_neg h2]
theorem ruP_out {ls : List Int} {r : Ru} (h0 : r.1.size = 0) (h1 : ¬ (0 ≤ r.2.1 ∧ r.2.1 < ls.length ∧ 0 ≤ r.2.2 ∧ r.2.2 < ls.length)) : ruP ls r = none := by
  rw [ruP, if_pos h0, if_neg h1]
theorem ruP_let {ls : List Int} {r : Ru} (h0 : r.1.size = 1) (h1 : validB r.1 = true) (h2 : r.2.1 = 0) (h3 : r.2.2 = 0) : ruP ls r = some 1 := by
  rw [ruP, if_neg (by omega), if_pos ⟨h0, h1, h2, h3⟩]
theorem ruP_bad {ls : List Int} {r : Ru} (h0 : r.1.size ≠ 0) (h1 : ¬ (r.1.size = 1 ∧ validB r.1 = true ∧ r.2.1 = 0 ∧ r.2.2 = 0)) : ruP ls r = none := by
  rw [ruP, if_neg h0, if_neg h1]
theorem valid_one {a : ByteArray} (h : a.size = 1) (h0 : 0 < a.size) : validB a = letB (a[0].toNat : Int) := by
  have hl : a.data.toList.length = 1 := by simpa using h
  have e : a.data.toList = [a[0]] := by
    cases hc : a.data.toList with
    | nil => rw [hc] at hl; cases hl
    | cons x r =>
      rw [hc] at hl
      have hr : r = [] := List.eq_nil_of_length_eq_zero (by simpa using hl)
      subst hr
      have := get_opt a 0 h0
      rw [hc] at this
      simp at this
      rw [this]
  rw [validB, e]
  simp [allL, h]
/-- what is known of a right grammar -/
theorem gOk_some {l : List Ru} (h : gOk l = true) : l.length ≤ 400 ∧ lnT l l.length = some (gLn l) ∧ (gLn l).length = l.length ∧ ∀ x ∈ gLn l, 1 ≤ x ∧ x ≤ 1000000000000000 := by
  simp only [gOk, Bool.and_eq_true, decide_eq_true_eq] at h
  cases h2 : lnT l l.length with
  | none => rw [h2] at h; simp at h
  | some ls =>
    have e : gLn l = ls := by simp [gLn, h2]
    rw [e]
    exact ⟨h.1, rfl, lnT_bd h2⟩
end Go.Proofs.Ytefcdkgfabaffaa

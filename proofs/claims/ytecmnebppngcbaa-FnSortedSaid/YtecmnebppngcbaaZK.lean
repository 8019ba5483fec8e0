/- Insertion into an ordered row; plain. -/
import Derived.Test.YtecmnebppngcbaaZJ
namespace Go.Proofs.Ytecmnebppngcbaa
open Go.ChangeShapes Go.WideShapes Go.RowKit
set_option linter.unusedVariables false
set_option linter.unusedSimpArgs false
set_option maxHeartbeats 1000000
theorem bl_lt (x : List UInt8) : ∀ y : List UInt8, Op.bytesLess x y = decide (x < y) := by
  induction x with
  | nil => intro y; cases y <;> simp [Op.bytesLess]
  | cons a x ih =>
    intro y
    cases y with
    | nil => simp [Op.bytesLess]
    | cons b y =>
      rw [Op.bytesLess, ih y, Bool.eq_iff_iff]
      simp [List.cons_lt_cons_iff]
theorem cmpB_neg (x y : List UInt8) : cmpB x y < 0 ↔ x < y := by
  rw [cmpB, bl_lt]
  by_cases h : x < y
  · simp [h]
  · rw [if_neg (by simpa using h)]
    split <;> simp [h]
/-- not behind -/
def leP (l : List Ru) (a b : Int) : Prop := ¬ sfx l b < sfx l a
theorem leP_trans {l : List Ru} {a b c : Int} (h : leP l a b) (k : leP l b c) : leP l a c := by
  unfold leP at *
  rw [List.not_lt] at *
  exact List.le_trans h k
theorem leP_lt {l : List Ru} {a b : Int} (h : sfx l a < sfx l b) : leP l a b := fun k => absurd h (List.lt_asymm k)
/-- in order up to a place, but for one that is under way -/
def ordB (l : List Ru) (d : List Int) (i j : Nat) : Prop := ∀ p q, p < q → q ≤ i → q ≠ j → leP l (d.getD p 0) (d.getD q 0)
def ordU (l : List Ru) (d : List Int) (i : Nat) : Prop := ∀ p q, p < q → q < i → leP l (d.getD p 0) (d.getD q 0)
theorem ordU_1 (l : List Ru) (d : List Int) : ordU l d 1 := fun p q h1 h2 => by omega
theorem ordB_of {l : List Ru} {d : List Int} {i : Nat} (h : ordU l d i) : ordB l d i i := fun p q h1 h2 h3 => h p q h1 (by omega)
theorem ordU_of {l : List Ru} {d : List Int} {i j : Nat} (h : ordB l d i j) (hj : j = 0 ∨ ¬ sfx l (d.getD j 0) < sfx l (d.getD (j - 1) 0)) (hji : j ≤ i) : ordU l d (i + 1) := fun p q h1 h2 => by
  by_cases hq : q = j
  · subst hq
    rcases hj with hj | hj
    · omega
    · by_cases hp : p = q - 1
      · subst hp; exact hj
      · exact leP_trans (h p (q - 1) (by omega) (by omega) (by omega)) hj
  · exact h p q h1 (by omega) hq
/-- neighbours change places -/
def swA (d : List Int) (j : Nat) : List Int := (d.set j (d.getD (j - 1) 0)).set (j - 1) (d.getD j 0)
theorem swA_len (d : List Int) (j : Nat) : (swA d j).length = d.length := by simp [swA]
theorem swA_get {d : List Int} {j : Nat} (h0 : 0 < j) (hj : j < d.length) (p : Nat) : (swA d j).getD p 0 = if p = j then d.getD (j - 1) 0 else if p = j - 1 then d.getD j 0 else d.getD p 0 := by
  unfold swA
  simp only [List.getD_eq_getElem?_getD, List.getElem?_set, List.length_set]
  by_cases h1 : p = j
  · subst h1
    rw [if_neg (by omega), if_pos rfl, if_pos (by omega), if_pos rfl]
    simp
  · by_cases h2 : p = j - 1
    · subst h2
      rw [if_pos rfl, if_pos (by omega), if_neg h1, if_pos rfl]
      simp
    · rw [if_neg (by omega), if_neg (by omega), if_neg h1, if_neg h2]
theorem swA_ord {l : List Ru} {d : List Int} {i j : Nat} (h : ordB l d i j) (h0 : 0 < j) (hji : j ≤ i) (hi : i < d.length) (hlt : sfx l (d.getD j 0) < sfx l (d.getD (j - 1) 0)) : ordB l (swA d j) i (j - 1) := fun p q h1 h2 h3 => by
  rw [swA_get h0 (by omega), swA_get h0 (by omega)]
  by_cases hq : q = j
  · rw [if_pos hq, if_neg (by omega)]
    by_cases hp : p = j - 1
    · rw [if_pos hp]; exact leP_lt hlt
    · rw [if_neg hp]; exact h p (j - 1) (by omega) (by omega) (by omega)
  · rw [if_neg hq, if_neg h3]
    by_cases hp : p = j
    · rw [if_pos hp]; exact h (j - 1) q (by omega) h2 hq
    · rw [if_neg hp]
      by_cases hp2 : p = j - 1
      · rw [if_pos hp2]; exact h j q (by omega) h2 hq
      · rw [if_neg hp2]; exact h p q h1 h2 hq
theorem swA_count {d : List Int} {j : Nat} (h0 : 0 < j) (hj : j < d.length) (x : Int) : (swA d j).count x = d.count x := by
  unfold swA
  rw [List.count_set (by rw [List.length_set]; omega), List.count_set hj]
  have e1 : (d.set j (d.getD (j - 1) 0))[j - 1]'(by rw [List.length_set]; omega) = d[j - 1]'(by omega) := by rw [List.getElem_set_ne (by omega)]
  have g1 : d.getD (j - 1) 0 = d[j - 1]'(by omega) := by simp [List.getD, show j - 1 < d.length by omega]
  have g2 : d.getD j 0 = d[j] := by simp [List.getD, hj]
  rw [e1, g1, g2]
  have c1 : d[j] = x → 0 < d.count x := fun e => List.count_pos_iff.2 (e ▸ List.getElem_mem hj)
  have c2 : d[j - 1]'(by omega) = x → 0 < d.count x := fun e => List.count_pos_iff.2 (e ▸ List.getElem_mem (by omega))
  by_cases a1 : d[j] = x <;> by_cases a2 : d[j - 1]'(by omega) = x <;> simp [a1, a2] <;> (try (have := c1 a1; omega)) <;> (try (have := c2 a2; omega))
theorem swA_mem {d : List Int} {j : Nat} (h0 : 0 < j) (hj : j < d.length) {x : Int} (h : x ∈ swA d j) : x ∈ d := by
  rw [← List.count_pos_iff] at h ⊢
  rw [swA_count h0 hj] at h
  exact h
end Go.Proofs.Ytecmnebppngcbaa

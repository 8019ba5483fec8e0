/- Plain laws of words: repetition without end, periods, roots, commuting words. -/
import Derived.Test.YtdighfjoechbkaaD3
import Derived.Test.YtdighfjoechbkaaE2
namespace Go.Proofs.Ytdighfjoechbkaa
open Go.ChangeShapes Go.WideShapes Go.RowKit
set_option linter.unusedVariables false
set_option linter.unusedSimpArgs false
set_option maxHeartbeats 1000000
set_option maxRecDepth 100000
/-- a word repeated without end -/
def cy (l : List UInt8) (i : Nat) : UInt8 := l.getD (i % l.length) 0
def Per (f : Nat → UInt8) (q : Nat) : Prop := ∀ i, f (i + q) = f i
theorem Per.mul {f : Nat → UInt8} {b : Nat} (h : Per f b) : ∀ k, Per f (b * k)
  | 0 => fun i => rfl
  | k + 1 => fun i => by rw [Nat.mul_succ, ← Nat.add_assoc, h, Per.mul h k]
theorem Per.mod {f : Nat → UInt8} {a b : Nat} (ha : Per f a) (hb : Per f b) : Per f (a % b) := fun i => by
  have h1 := hb.mul (a / b) (i + a % b)
  rw [Nat.add_assoc, Nat.mod_add_div, ha] at h1
  exact h1.symm
theorem Per.gcd {f : Nat → UInt8} (a b : Nat) : Per f a → Per f b → Per f (Nat.gcd a b) := by
  induction a, b using Nat.gcd.induction with
  | H0 n => intro _ h; rwa [Nat.gcd_zero_left]
  | H1 m n hm ih => intro h1 h2; rw [Nat.gcd_rec]; exact ih (h2.mod h1) h1
theorem cy_lt {l : List UInt8} {i : Nat} (h : i < l.length) : cy l i = l.getD i 0 := by rw [cy, Nat.mod_eq_of_lt h]
theorem cy_len (l : List UInt8) : Per (cy l) l.length := fun i => by rw [cy, cy, Nat.add_mod_right]
theorem getD_ext {l m : List UInt8} (h : l.length = m.length) (h2 : ∀ i, i < l.length → l.getD i 0 = m.getD i 0) : l = m := by
  apply List.ext_getElem h
  intro i h3 h4
  have := h2 i h3
  rwa [List.getD, List.getElem?_eq_getElem h3, List.getD, List.getElem?_eq_getElem h4] at this
theorem getD_app_l {l m : List UInt8} {i : Nat} (h : i < l.length) : (l ++ m).getD i 0 = l.getD i 0 := by
  rw [List.getD, List.getElem?_append_left h]; rfl
theorem getD_app_r {l m : List UInt8} {i : Nat} (h : l.length ≤ i) : (l ++ m).getD i 0 = m.getD (i - l.length) 0 := by
  rw [List.getD, List.getElem?_append_right h]; rfl
theorem getD_take {l : List UInt8} {i p : Nat} (h : i < p) : (l.take p).getD i 0 = l.getD i 0 := by
  rw [List.getD, List.getElem?_take_of_lt h]; rfl
theorem getD_drop {l : List UInt8} {i p : Nat} : (l.drop p).getD i 0 = l.getD (p + i) 0 := by
  rw [List.getD, List.getElem?_drop]; rfl
theorem rep_length (l : List UInt8) : ∀ t, (Lib.repeatL l t).length = t * l.length
  | 0 => by simp [Lib.repeatL]
  | t + 1 => by show (l ++ Lib.repeatL l t).length = _; rw [List.length_append, rep_length l t, Nat.succ_mul, Nat.add_comm]
theorem rep_getD (l : List UInt8) : ∀ t i, i < t * l.length → (Lib.repeatL l t).getD i 0 = cy l i
  | 0, i, h => by simp at h
  | t + 1, i, h => by
    show (l ++ Lib.repeatL l t).getD i 0 = _
    by_cases hi : i < l.length
    · rw [getD_app_l hi, cy_lt hi]
    · rw [getD_app_r (by omega), rep_getD l t _ (by rw [Nat.succ_mul] at h; omega)]
      have := cy_len l (i - l.length)
      rw [show i - l.length + l.length = i by omega] at this
      exact this.symm
theorem cy_of_per {l : List UInt8} {p : Nat} (hp : Per (cy l) p) (h1 : 1 ≤ p) (h2 : p ≤ l.length) : cy (l.take p) = cy l := by
  funext i
  have hl : (l.take p).length = p := by simp; omega
  have hm := Nat.mod_lt i (show 0 < p by omega)
  rw [cy, hl, getD_take hm, ← cy_lt (by omega)]
  have := hp.mul (i / p) (i % p)
  rw [Nat.mod_add_div] at this
  exact this.symm
/-- periods of a word, on lists -/
theorem pdB_iff (s : ByteArray) (p : Nat) (h : p ≤ s.size) : pdB s p = true ↔ ∀ i, i + p < s.size → s.data.toList.getD (i + p) 0 = s.data.toList.getD i 0 := by
  have hs : s.data.toList.length = s.size := by simp
  have e1 : (s.extract p s.size).toList = s.data.toList.drop p := by
    rw [ByteArray.toList_eq, ByteArray.data_extract, Array.toList_extract]
    exact List.take_of_length_le (by simp)
  have e2 : (s.extract 0 (s.size - p)).toList = s.data.toList.take (s.size - p) := by
    rw [ByteArray.toList_eq, ByteArray.data_extract, Array.toList_extract]; rfl
  rw [pdB, e1, e2, beq_iff_eq]
  generalize s.data.toList = l at *
  constructor
  · intro h i hi
    have h3 := congrArg (fun m => m.getD i 0) h
    simp only [getD_drop] at h3
    rw [getD_take (by omega)] at h3
    rw [Nat.add_comm]; exact h3
  · intro h
    apply getD_ext
    · simp; omega
    · intro i hi
      have hi2 : i < l.length - p := by simpa using hi
      rw [getD_drop, getD_take (by omega), Nat.add_comm]
      exact h i (by omega)
theorem pdB_cy (s : ByteArray) (p : Nat) (h1 : 1 ≤ p) (h : p ≤ s.size) (hd : s.size % p = 0) : pdB s p = true ↔ Per (cy s.data.toList) p := by
  rw [pdB_iff s p h]
  have hs : s.data.toList.length = s.size := by simp
  generalize s.data.toList = l at *
  rw [← hs] at hd h ⊢
  constructor
  · intro hq i
    have key : ∀ k i, i + p * k < l.length → l.getD (i + p * k) 0 = l.getD i 0 := by
      intro k
      induction k with
      | zero => intro i _; rfl
      | succ k ih =>
        intro i hi
        rw [Nat.mul_succ, ← Nat.add_assoc] at hi ⊢
        rw [hq _ hi, ih i (by omega)]
    have key2 : ∀ i, cy l i = l.getD (i % p) 0 := by
      intro i
      have hm := Nat.mod_lt i (show 0 < l.length by omega)
      have hk := key (i % l.length / p) (i % l.length % p) (by rw [Nat.mod_add_div]; exact hm)
      rw [Nat.mod_add_div, Nat.mod_mod_of_dvd i (Nat.dvd_of_mod_eq_zero hd)] at hk
      exact hk
    rw [key2, key2, Nat.add_mod_right]
  · intro hq i hi
    rw [← cy_lt hi, ← cy_lt (by omega), hq]
theorem pdTo_find (s : ByteArray) (f : Int → Bool) : ∀ k, (∃ p : Nat, (pdTo s k).find? f = some (p : Int) ∧ 1 ≤ p ∧ p < k ∧ pdB s p = true ∧ f p = true ∧ ∀ q : Nat, 1 ≤ q → q < p → pdB s q = true → f q = false) ∨ ((pdTo s k).find? f = none ∧ ∀ q : Nat, 1 ≤ q → q < k → pdB s q = true → f q = false)
  | 0 => .inr ⟨rfl, fun q _ h => by omega⟩
  | k + 1 => by
    have hstep : pdTo s (k + 1) = if k ≠ 0 ∧ pdB s k = true then pdTo s k ++ [(k : Int)] else pdTo s k := rfl
    rcases pdTo_find s f k with ⟨p, h1, h2, h3, h4, h5, h6⟩ | ⟨h1, h2⟩
    · left
      refine ⟨p, ?_, h2, by omega, h4, h5, h6⟩
      rw [hstep]
      split
      · rw [List.find?_append, h1]; rfl
      · exact h1
    · rw [hstep]
      by_cases hc : k ≠ 0 ∧ pdB s k = true
      · rw [if_pos hc, List.find?_append, h1]
        cases hf : f k
        · right
          refine ⟨by simp [hf], fun q hq1 hq2 hq3 => ?_⟩
          by_cases he : q = k
          · subst he; exact hf
          · exact h2 q hq1 (by omega) hq3
        · left
          refine ⟨k, by simp [hf], by omega, by omega, hc.2, hf, fun q hq1 hq2 hq3 => h2 q hq1 hq2 hq3⟩
      · rw [if_neg hc]
        right
        refine ⟨h1, fun q hq1 hq2 hq3 => ?_⟩
        by_cases he : q = k
        · subst he; exact absurd ⟨by omega, hq3⟩ hc
        · exact h2 q hq1 (by omega) hq3
/-- the least period of the word repeated without end -/
def IsRoot (l : List UInt8) (p : Nat) : Prop := 1 ≤ p ∧ Per (cy l) p ∧ ∀ a, 1 ≤ a → Per (cy l) a → p ≤ a
theorem IsRoot.uniq {l m : List UInt8} {p q : Nat} (hp : IsRoot l p) (hq : IsRoot m q) (h : cy l = cy m) : p = q := by
  obtain ⟨h1, h2, h3⟩ := hp
  obtain ⟨h4, h5, h6⟩ := hq
  have := h3 q h4 (by rw [h]; exact h5)
  have := h6 p h1 (by rw [← h]; exact h2)
  omega
theorem rtP_root (s : ByteArray) (h : 1 ≤ s.size) : ∃ p : Nat, rtP s = some (p : Int) ∧ p ≤ s.size ∧ s.size % p = 0 ∧ IsRoot s.data.toList p := by
  have hs : s.data.toList.length = s.size := by simp
  have hmod : ∀ q : Nat, (((s.size : Int) % (q : Int) == 0) = true) ↔ s.size % q = 0 := by
    intro q
    rw [beq_iff_eq]
    omega
  have hlen := cy_len s.data.toList
  rw [hs] at hlen
  rcases pdTo_find s (fun p => (s.size : Int) % p == 0) (s.size + 1) with ⟨p, h1, h2, h3, h4, h5, h6⟩ | ⟨h1, h2⟩
  · have h5' := (hmod p).1 h5
    refine ⟨p, h1, by omega, h5', h2, (pdB_cy s p h2 (by omega) h5').1 h4, fun a ha hpa => ?_⟩
    have hg := Per.gcd a s.size hpa hlen
    have hg1 : 1 ≤ Nat.gcd a s.size := Nat.gcd_pos_of_pos_left _ (by omega)
    have hga : Nat.gcd a s.size ≤ a := Nat.gcd_le_left _ (by omega)
    have hgn : Nat.gcd a s.size ≤ s.size := Nat.gcd_le_right _ (by omega)
    have hgd : s.size % Nat.gcd a s.size = 0 := Nat.mod_eq_zero_of_dvd (Nat.gcd_dvd_right _ _)
    apply Classical.byContradiction
    intro hlt
    have := h6 (Nat.gcd a s.size) hg1 (by omega) ((pdB_cy s _ hg1 hgn hgd).2 hg)
    have h7 := (hmod (Nat.gcd a s.size)).2 hgd
    rw [this] at h7
    cases h7
  · exfalso
    have := h2 s.size h (by omega) ((pdB_cy s _ h (Nat.le_refl _) (Nat.mod_self _)).2 hlen)
    rw [(hmod s.size).2 (Nat.mod_self _)] at this
    cases this
theorem ext_list (s : ByteArray) (p : Nat) : (s.extract 0 p).data.toList = s.data.toList.take p := by
  rw [ByteArray.data_extract, Array.toList_extract]; rfl
/-- the root of a word that isn't empty -/
theorem rt_full {s : ByteArray} (hv : validB s = true) (h : 1 ≤ s.size) : ∃ (r : ByteArray) (p k : Nat), rtS s = r ∧ rtK s = (k : Int) ∧ rtC s = 0 ∧ r.size = p ∧ 1 ≤ p ∧ p ≤ s.size ∧ 1 ≤ k ∧ k * p = s.size ∧ validB r = true ∧ repS r k = s ∧ cy r.data.toList = cy s.data.toList ∧ IsRoot s.data.toList p ∧ r.data.toList = s.data.toList.take p := by
  obtain ⟨p, h1, h2, h3, h4⟩ := rtP_root s h
  have hs : s.data.toList.length = s.size := by simp
  obtain ⟨e1, e2, e3⟩ := rt_some hv h1
  have hp1 := h4.1
  have hrl := ext_list s p
  have hr : (s.extract 0 p).size = p := by rw [ByteArray.size_extract]; omega
  have hcy : cy (s.extract 0 p).data.toList = cy s.data.toList := by rw [hrl]; exact cy_of_per h4.2.1 hp1 (by omega)
  have hkp : s.size / p * p = s.size := by have := Nat.div_add_mod s.size p; rw [h3, Nat.add_zero, Nat.mul_comm] at this; exact this
  have hk1 : 1 ≤ s.size / p := Nat.div_pos h2 hp1
  refine ⟨s.extract 0 p, p, s.size / p, e1, by rw [e2]; rfl, e3, hr, hp1, h2, hk1, hkp, ?_, ?_, hcy, h4, hrl⟩
  · unfold validB at hv ⊢
    simp only [Bool.and_eq_true, decide_eq_true_eq] at hv ⊢
    refine ⟨?_, by omega⟩
    unfold allL at hv ⊢
    rw [hrl, List.all_eq_true]
    intro c hc
    exact List.all_eq_true.1 hv.1 c (List.mem_of_mem_take hc)
  · apply ByteArray.ext
    apply Array.toList_inj.1
    show (Lib.repeatL (s.extract 0 p).data.toList (s.size / p)).toArray.toList = _
    have hl2 : (s.extract 0 p).data.toList.length = p := by rw [← hr]; simp
    apply getD_ext
    · show (Lib.repeatL (s.extract 0 p).data.toList (s.size / p)).length = _
      rw [rep_length, hl2, hkp]; simp
    · intro i hi
      have hi2 : i < (Lib.repeatL (s.extract 0 p).data.toList (s.size / p)).length := hi
      rw [rep_length] at hi2
      show (Lib.repeatL (s.extract 0 p).data.toList (s.size / p)).getD i 0 = _
      rw [rep_getD _ _ _ hi2, hcy, cy_lt (by rw [hl2, hkp] at hi2; omega)]
theorem rt_root {s r : ByteArray} {p : Nat} (hv : validB r = true) (hr : r.size = p) (h1 : 1 ≤ p) (hcy : cy r.data.toList = cy s.data.toList) (hroot : IsRoot s.data.toList p) : rtS r = r ∧ rtK r = 1 ∧ rtC r = 0 := by
  obtain ⟨r2, p2, k2, e1, e2, e3, e4, e5, e6, e7, e8, -, -, -, h4, h5⟩ := rt_full hv (by omega)
  have : p2 = p := h4.uniq hroot hcy
  subst this
  have hk : k2 = 1 := by
    rw [hr] at e8
    have := Nat.eq_of_mul_eq_mul_right h1 (show k2 * p2 = 1 * p2 by omega)
    omega
  subst hk
  refine ⟨?_, e2, e3⟩
  rw [e1]
  apply ByteArray.ext
  apply Array.toList_inj.1
  rw [h5]
  exact List.take_of_length_le (by simp; omega)
theorem rt_empty {s : ByteArray} (hv : validB s = true) (h : s.size = 0) : rtC s = 4 := by
  have h1 : rtP s = none := by
    unfold rtP
    rw [(per_none s h).1]; rfl
  exact (rt_none hv h1).2.2
theorem rep_comm {u v : List UInt8} (h : u ++ v = v ++ u) : ∀ t, Lib.repeatL u t ++ v = v ++ Lib.repeatL u t
  | 0 => by simp [Lib.repeatL]
  | t + 1 => by
    show (u ++ Lib.repeatL u t) ++ v = v ++ (u ++ Lib.repeatL u t)
    rw [List.append_assoc, rep_comm h t, ← List.append_assoc, h, List.append_assoc]
theorem comm_cy {u v : List UInt8} (hu : 1 ≤ u.length) (hv : 1 ≤ v.length) : u ++ v = v ++ u ↔ cy u = cy v := by
  constructor
  · intro h
    have h1 := rep_comm (rep_comm h v.length).symm u.length
    have hl : (Lib.repeatL v u.length).length = (Lib.repeatL u v.length).length := by rw [rep_length, rep_length, Nat.mul_comm]
    have h2 := (List.append_inj h1 hl).1
    funext i
    have hpos : 0 < u.length * v.length := Nat.mul_pos hu hv
    have hm := Nat.mod_lt i hpos
    have a1 := rep_getD v u.length _ hm
    have a2 := rep_getD u v.length _ (show i % (u.length * v.length) < v.length * u.length by rw [Nat.mul_comm v.length]; exact hm)
    rw [h2, a2] at a1
    rw [cy, cy, Nat.mod_mod_of_dvd _ (Nat.dvd_mul_right _ _), Nat.mod_mod_of_dvd _ (Nat.dvd_mul_left _ _)] at a1
    exact a1
  · intro h
    apply getD_ext
    · simp [Nat.add_comm]
    · intro i hi
      rw [List.length_append] at hi
      have e1 : ∀ {u v : List UInt8}, cy u = cy v → i < u.length + v.length → (u ++ v).getD i 0 = cy u i := by
        intro u v h hi
        by_cases hlt : i < u.length
        · rw [getD_app_l hlt, cy_lt hlt]
        · rw [getD_app_r (by omega), ← cy_lt (by omega), ← h]
          have := cy_len u (i - u.length)
          rw [show i - u.length + u.length = i by omega] at this
          exact this.symm
      rw [e1 h hi, e1 h.symm (by omega), h]
theorem root_comm {s u r t : ByteArray} {p q : Nat} (hs : 1 ≤ s.size) (hu : 1 ≤ u.size) (hp : IsRoot s.data.toList p) (hq : IsRoot u.data.toList q) (hr : r.data.toList = s.data.toList.take p) (ht : t.data.toList = u.data.toList.take q)
    (cr : cy r.data.toList = cy s.data.toList) (ct : cy t.data.toList = cy u.data.toList) (hps : p ≤ s.size) (hqu : q ≤ u.size) : (s ++ u).toList = (u ++ s).toList ↔ t.toList = r.toList := by
  have ls : s.data.toList.length = s.size := by simp
  have lu : u.data.toList.length = u.size := by simp
  rw [ByteArray.toList_eq, ByteArray.toList_eq, ByteArray.toList_eq, ByteArray.toList_eq, ByteArray.data_append, ByteArray.data_append, Array.toList_append, Array.toList_append, comm_cy (by omega) (by omega)]
  constructor
  · intro h
    have e := hp.uniq hq h
    subst e
    rw [hr, ht]
    apply getD_ext
    · simp; omega
    · intro i hi
      have hi2 : i < p := by simp at hi; omega
      rw [getD_take hi2, getD_take hi2, ← cy_lt (by omega), ← cy_lt (by omega), h]
  · intro h
    rw [← cr, ← ct, h]
end Go.Proofs.Ytdighfjoechbkaa

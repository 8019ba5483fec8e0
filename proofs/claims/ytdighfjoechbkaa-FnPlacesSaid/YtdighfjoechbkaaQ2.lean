/- Plain laws of words: borders and periods, Fine and Wilf. -/
import Derived.Test.YtdighfjoechbkaaQ1
namespace Go.Proofs.Ytdighfjoechbkaa
open Go.ChangeShapes Go.WideShapes Go.RowKit
set_option linter.unusedVariables false
set_option linter.unusedSimpArgs false
set_option maxHeartbeats 1000000
set_option maxRecDepth 100000
def PerN (f : Nat → UInt8) (p n : Nat) : Prop := ∀ i, i + p < n → f (i + p) = f i
theorem PerN.mul {f : Nat → UInt8} {p n : Nat} (h : PerN f p n) : ∀ k i, i + p * k < n → f (i + p * k) = f i
  | 0, i, _ => rfl
  | k + 1, i, hi => by
    rw [Nat.mul_succ, ← Nat.add_assoc] at hi ⊢
    rw [h _ hi, PerN.mul h k i (by omega)]
theorem fine_wilf (f : Nat → UInt8) : ∀ s p q n : Nat, p + q ≤ s → 1 ≤ p → 1 ≤ q → PerN f p n → PerN f q n → p + q ≤ n + Nat.gcd p q → PerN f (Nat.gcd p q) n
  | 0, p, q, n, hs, h1, _, _, _, _ => by omega
  | s + 1, p, q, n, hs, h1, h2, hp, hq, hn => by
    by_cases heq : p = q
    · subst heq; rwa [Nat.gcd_self]
    have key : ∀ p q : Nat, p + q ≤ s + 1 → 1 ≤ p → 1 ≤ q → PerN f p n → PerN f q n → p + q ≤ n + Nat.gcd p q → q < p → PerN f (Nat.gcd p q) n := by
      intro p q hs h1 h2 hp hq hn hlt
      have hg : Nat.gcd (p - q) q = Nat.gcd p q := by
        conv => rhs; rw [show p = p - q + q by omega]
        rw [Nat.gcd_add_self_left]
      have hd1 : Nat.gcd (p - q) q ≤ p - q := Nat.gcd_le_left _ (by omega)
      have hd0 : 1 ≤ Nat.gcd (p - q) q := Nat.gcd_pos_of_pos_right _ h2
      obtain ⟨m, hm⟩ := Nat.gcd_dvd_right (p - q) q
      have ih := fine_wilf f s (p - q) q (n - q) (by omega) (by omega) h2 (fun i hi => by
        have a := hp i (by omega)
        have b := hq (i + (p - q)) (by omega)
        rw [show i + (p - q) + q = i + p by omega] at b
        rw [← b, a]) (fun i hi => hq i (by omega)) (by omega)
      rw [hg] at ih hm hd1 hd0
      generalize Nat.gcd p q = d at *
      have aux : ∀ i, i + d < n → f (i + d) = f i := by
        intro i
        induction i using Nat.strongRecOn with
        | _ i ihi =>
          intro hi
          by_cases h3 : i + d < n - q
          · exact ih i h3
          · have e1 := hq (i + d - q) (by omega)
            rw [show i + d - q + q = i + d by omega] at e1
            by_cases h4 : q ≤ i
            · have e2 := hq (i - q) (by omega)
              rw [show i - q + q = i by omega] at e2
              have e3 := ihi (i - q) (by omega) (by omega)
              rw [e1, e2, ← e3]
              congr 1
              omega
            · rw [e1]
              cases m with
              | zero => omega
              | succ m =>
                rw [Nat.mul_succ] at hm
                have e4 := ih.mul m (i + d - q) (by omega)
                rw [show i + d - q + d * m = i by omega] at e4
                exact e4.symm
      exact aux
    rcases Nat.lt_or_gt_of_ne heq with h | h
    · rw [Nat.gcd_comm]
      exact key q p (by omega) h2 h1 hq hp (by rw [Nat.gcd_comm]; omega) h
    · exact key p q hs h1 h2 hp hq hn h
theorem pdB_perN (s : ByteArray) (p : Nat) (h : p ≤ s.size) : pdB s p = true ↔ PerN (fun i => s.data.toList.getD i 0) p s.size := pdB_iff s p h
theorem pd_mem (s : ByteArray) : ∀ (k a : Nat), ((a : Int) ∈ pdTo s k ↔ 1 ≤ a ∧ a < k ∧ pdB s a = true)
  | 0, a => by simp [pdTo]
  | k + 1, a => by
    have ih := pd_mem s k a
    have hstep : pdTo s (k + 1) = if k ≠ 0 ∧ pdB s k = true then pdTo s k ++ [(k : Int)] else pdTo s k := rfl
    rw [hstep]
    by_cases hc : k ≠ 0 ∧ pdB s k = true
    · rw [if_pos hc, List.mem_append, ih, List.mem_singleton]
      constructor
      · rintro (h | h)
        · exact ⟨h.1, by omega, h.2.2⟩
        · have : a = k := by omega
          subst this
          exact ⟨by omega, by omega, hc.2⟩
      · rintro ⟨h1, h2, h3⟩
        by_cases e : a = k
        · right; omega
        · left; exact ⟨h1, by omega, h3⟩
    · rw [if_neg hc, ih]
      constructor
      · rintro ⟨h1, h2, h3⟩; exact ⟨h1, by omega, h3⟩
      · rintro ⟨h1, h2, h3⟩
        refine ⟨h1, ?_, h3⟩
        by_cases e : a = k
        · subst e; exact absurd ⟨by omega, h3⟩ hc
        · omega
theorem pd_nat (s : ByteArray) : ∀ k, ∀ x ∈ pdTo s k, ∃ a : Nat, x = (a : Int) ∧ 1 ≤ a ∧ a < k ∧ pdB s a = true
  | 0, x, h => by simp [pdTo] at h
  | k + 1, x, h => by
    have hstep : pdTo s (k + 1) = if k ≠ 0 ∧ pdB s k = true then pdTo s k ++ [(k : Int)] else pdTo s k := rfl
    rw [hstep] at h
    by_cases hc : k ≠ 0 ∧ pdB s k = true
    · rw [if_pos hc, List.mem_append, List.mem_singleton] at h
      rcases h with h | h
      · obtain ⟨a, h1, h2, h3, h4⟩ := pd_nat s k x h
        exact ⟨a, h1, h2, by omega, h4⟩
      · exact ⟨k, h, by omega, by omega, hc.2⟩
    · rw [if_neg hc] at h
      obtain ⟨a, h1, h2, h3, h4⟩ := pd_nat s k x h
      exact ⟨a, h1, h2, by omega, h4⟩
theorem pd_sorted (s : ByteArray) : ∀ k, (pdTo s k).Pairwise (· < ·)
  | 0 => List.Pairwise.nil
  | k + 1 => by
    have hstep : pdTo s (k + 1) = if k ≠ 0 ∧ pdB s k = true then pdTo s k ++ [(k : Int)] else pdTo s k := rfl
    rw [hstep]
    split
    · rw [List.pairwise_append]
      refine ⟨pd_sorted s k, List.pairwise_singleton _ _, fun a ha b hb => ?_⟩
      obtain ⟨x, h1, h2, h3, h4⟩ := pd_nat s k a ha
      rw [List.mem_singleton] at hb
      omega
    · exact pd_sorted s k
theorem bd_mem (s : ByteArray) : ∀ (k a : Nat), ((a : Int) ∈ bdTo s k ↔ 1 ≤ a ∧ a < k ∧ ((s.extract 0 a).toList == (s.extract (s.size - a) s.size).toList) = true)
  | 0, a => by simp [bdTo]
  | k + 1, a => by
    have ih := bd_mem s k a
    rw [bdTo]
    by_cases hc : k ≠ 0 ∧ ((s.extract 0 k).toList == (s.extract (s.size - k) s.size).toList) = true
    · rw [if_pos hc, List.mem_append, ih, List.mem_singleton]
      constructor
      · rintro (h | h)
        · exact ⟨h.1, by omega, h.2.2⟩
        · have : a = k := by omega
          subst this
          exact ⟨by omega, by omega, hc.2⟩
      · rintro ⟨h1, h2, h3⟩
        by_cases e : a = k
        · right; omega
        · left; exact ⟨h1, by omega, h3⟩
    · rw [if_neg hc, ih]
      constructor
      · rintro ⟨h1, h2, h3⟩; exact ⟨h1, by omega, h3⟩
      · rintro ⟨h1, h2, h3⟩
        refine ⟨h1, ?_, h3⟩
        by_cases e : a = k
        · subst e; exact absurd ⟨by omega, h3⟩ hc
        · omega
/-- a border is told just where what it lacks is a period -/
theorem bd_pd (s : ByteArray) (k : Nat) (h1 : 1 ≤ k) (h2 : k < s.size) :
    decide ((k : Int) ∈ bdTo s s.size) = ((s.extract 0 k).toList == (s.extract (s.size - k) s.size).toList) ∧ decide ((s.size : Int) - k ∈ pdTo s (s.size + 1)) = ((s.extract 0 k).toList == (s.extract (s.size - k) s.size).toList) := by
  have e1 := bd_mem s s.size k
  have e2 := pd_mem s (s.size + 1) (s.size - k)
  rw [show ((s.size - k : Nat) : Int) = (s.size : Int) - k by omega] at e2
  have e3 : pdB s (s.size - k) = ((s.extract 0 k).toList == (s.extract (s.size - k) s.size).toList) := by
    rw [pdB, show s.size - (s.size - k) = k by omega]
    exact BEq.comm
  rw [e3] at e2
  generalize ((s.extract 0 k).toList == (s.extract (s.size - k) s.size).toList) = b at *
  cases b
  · simp only [decide_eq_false_iff_not, e1, e2]
    exact ⟨by simp, by simp⟩
  · simp only [decide_eq_true_eq, e1, e2]
    exact ⟨⟨h1, h2, trivial⟩, by omega, by omega, trivial⟩
theorem pd_fw {s : ByteArray} {a b : Nat} (ha1 : 1 ≤ a) (ha2 : a ≤ s.size) (hb1 : 1 ≤ b) (hb2 : b ≤ s.size) (ha : pdB s a = true) (hb : pdB s b = true) (h : a + b ≤ s.size + Nat.gcd a b) : ((Nat.gcd a b : Nat) : Int) ∈ pdTo s (s.size + 1) := by
  have hg1 : 1 ≤ Nat.gcd a b := Nat.gcd_pos_of_pos_left _ ha1
  have hg2 : Nat.gcd a b ≤ a := Nat.gcd_le_left _ ha1
  rw [pd_mem]
  refine ⟨hg1, by omega, ?_⟩
  rw [pdB_perN s _ (by omega)]
  exact fine_wilf _ (a + b) a b s.size (Nat.le_refl _) ha1 hb1 ((pdB_perN s a ha2).1 ha) ((pdB_perN s b hb2).1 hb) h
theorem pd_whole (s : ByteArray) (h : 1 ≤ s.size) : (s.size : Int) ∈ pdTo s (s.size + 1) := by
  rw [pd_mem]
  refine ⟨h, by omega, ?_⟩
  rw [pdB_perN s _ (Nat.le_refl _)]
  intro i hi
  omega
theorem pd_at (s : ByteArray) {i : Nat} (h : i < (pdTo s (s.size + 1)).length) : ∃ a : Nat, (pdTo s (s.size + 1))[i] = (a : Int) ∧ 1 ≤ a ∧ a ≤ s.size ∧ pdB s a = true := by
  obtain ⟨a, h1, h2, h3, h4⟩ := pd_nat s (s.size + 1) _ (List.getElem_mem h)
  exact ⟨a, h1, h2, by omega, h4⟩
theorem pd_lt (s : ByteArray) {i k : Nat} (h : i < (pdTo s (s.size + 1)).length) (hk : k < i) : (pdTo s (s.size + 1))[k] < (pdTo s (s.size + 1))[i] :=
  List.pairwise_iff_getElem.1 (pd_sorted s (s.size + 1)) k i (by omega) h hk
end Go.Proofs.Ytdighfjoechbkaa

/- FnUses: plain law: uses, letters, lengths, depth. -/
import Derived.Test.YtimfbnjgodbgoaaGB
import Derived.Test.YtimfbnjgodbgoaaGE
namespace Go.Proofs.Ytimfbnjgodbgoaa
open Go.ChangeShapes Go.WideShapes Go.RowKit
set_option linter.unusedVariables false
set_option linter.unusedSimpArgs false
set_option maxHeartbeats 2000000
set_option maxRecDepth 100000
/-- equal modulo 2^64 -/
def EqW (a b : Int) : Prop := ∃ q : Int, a = b + 18446744073709551616 * q
theorem EqW.refl (a : Int) : EqW a a := ⟨0, by omega⟩
theorem EqW.symm {a b : Int} (h : EqW a b) : EqW b a := by obtain ⟨q, h⟩ := h; exact ⟨-q, by omega⟩
theorem EqW.trans {a b c : Int} (h : EqW a b) (h2 : EqW b c) : EqW a c := by
  obtain ⟨q, h⟩ := h
  obtain ⟨r, h2⟩ := h2
  exact ⟨q + r, by omega⟩
theorem EqW.add {a b c d : Int} (h : EqW a b) (h2 : EqW c d) : EqW (a + c) (b + d) := by
  obtain ⟨q, h⟩ := h
  obtain ⟨r, h2⟩ := h2
  exact ⟨q + r, by omega⟩
theorem EqW.mul {a b : Int} (h : EqW a b) (c : Int) : EqW (a * c) (b * c) := by
  obtain ⟨q, rfl⟩ := h
  exact ⟨q * c, by rw [Int.add_mul, Int.mul_assoc]⟩
theorem wrap_eqW (a : Int) : EqW (wrap64 a) a := ⟨-((a + 9223372036854775808) / 18446744073709551616), by unfold wrap64; omega⟩
theorem eqW_small {a b : Int} (h : EqW (wrap64 a) b) (h0 : 0 ≤ b) (h1 : b ≤ 1000000000000000) : wrap64 a = b := by
  obtain ⟨q, h⟩ := h
  have : -9223372036854775808 ≤ wrap64 a ∧ wrap64 a ≤ 9223372036854775807 := by unfold wrap64; omega
  omega
/-- sum of the first k, weighed -/
def Sw (out ls : List Int) : Nat → Int
  | 0 => 0
  | k + 1 => Sw out ls k + out.getD k 0 * ls.getD k 0
/-- sum over the letters' rules of the first k -/
def Lw (l : List Ru) (us : List Int) : Nat → Int
  | 0 => 0
  | k + 1 => if (ruA l k).1.size = 0 then Lw l us k else Lw l us k + us.getD k 0
theorem getD_set_self {out : List Int} {p : Nat} (x : Int) (h : p < out.length) : (out.set p x).getD p 0 = x := by
  simp [List.getD, h]
theorem getD_set_other {out : List Int} {p j : Nat} (x : Int) (h : p ≠ j) : (out.set p x).getD j 0 = out.getD j 0 := by
  simp [List.getD, List.getElem?_set_ne h]
theorem Sw_out {out ls : List Int} {p : Nat} (x : Int) : ∀ {k : Nat}, k ≤ p → Sw (out.set p x) ls k = Sw out ls k
  | 0, h => rfl
  | k + 1, h => by
    rw [Sw, Sw, Sw_out x (by omega), getD_set_other x (by omega)]
theorem Sw_set {out ls : List Int} {p : Nat} (x : Int) (hp : p < out.length) : ∀ {k : Nat}, p < k → Sw (out.set p x) ls k = Sw out ls k + (x - out.getD p 0) * ls.getD p 0
  | 0, h => by omega
  | k + 1, h => by
    rw [Sw, Sw]
    by_cases e : p = k
    · subst e
      rw [Sw_out x (Nat.le_refl _), getD_set_self x hp, Int.sub_mul]
      omega
    · rw [Sw_set x hp (by omega), getD_set_other x e]
      omega
/-- a pair's share -/
theorem Sw_pair {l : List Ru} {out ls : List Int} {k p q : Nat} (hp : p < k) (hq : q < k) (hk : k < out.length) (h0 : (ruA l k).1.size = 0) (h1 : (ruA l k).2.1 = p) (h2 : (ruA l k).2.2 = q) (h3 : ls.getD k 0 = ls.getD p 0 + ls.getD q 0) :
    EqW (Sw (usS l out k) ls k) (Sw out ls (k + 1)) ∧ ∀ j, k ≤ j → (usS l out k).getD j 0 = out.getD j 0 := by
  rw [usS_pair h0 h1 h2 rfl]
  have ep : (out.set p (wrap64 (out.getD p 0 + out.getD k 0))).getD k 0 = out.getD k 0 := getD_set_other _ (by omega)
  rw [ep]
  refine ⟨?_, fun j hj => by rw [getD_set_other _ (by omega), getD_set_other _ (by omega)]⟩
  rw [Sw_set _ (by simp; omega) hq, Sw_set _ (by omega) hp, Sw, h3, Int.mul_add]
  generalize (out.set p (wrap64 (out.getD p 0 + out.getD k 0))).getD q 0 = y
  generalize out.getD p 0 = x
  generalize out.getD k 0 = z
  have a1 : EqW ((wrap64 (x + z) - x) * ls.getD p 0) (z * ls.getD p 0) := EqW.mul (by obtain ⟨c, hc⟩ := wrap_eqW (x + z); exact ⟨c, by omega⟩) _
  have a2 : EqW ((wrap64 (y + z) - y) * ls.getD q 0) (z * ls.getD q 0) := EqW.mul (by obtain ⟨c, hc⟩ := wrap_eqW (y + z); exact ⟨c, by omega⟩) _
  have := ((EqW.refl (Sw out ls k)).add a1).add a2
  rwa [Int.add_assoc (Sw out ls k) (z * _) (z * _)] at this
theorem usD_above {l : List Ru} (hok : gOk l = true) : ∀ (k : Nat) (out : List Int) (j : Nat), k ≤ l.length → k ≤ j + 1 → (usD l k out).getD j 0 = out.getD j 0
  | 0, out, j, _, _ => rfl
  | k + 1, out, j, hk, hj => by
    rw [usD, usD_above hok k _ j (by omega) (by omega)]
    by_cases hz : (ruA l k).1.size = 0
    · obtain ⟨q1, q2, q3, q4⟩ := (gOk_rule hok (show k < l.length by omega)).1 hz
      obtain ⟨p, hp⟩ := Int.eq_ofNat_of_zero_le q1
      obtain ⟨q, hq⟩ := Int.eq_ofNat_of_zero_le q3
      rw [usS_pair hz hp hq rfl, getD_set_other _ (by omega), getD_set_other _ (by omega)]
    · rw [usS_let hz]
theorem Sw_Lw {l : List Ru} (hok : gOk l = true) : ∀ (k : Nat) (out : List Int), k ≤ l.length → out.length = l.length → EqW (Lw l (usD l k out) k) (Sw out (gLn l) k)
  | 0, out, _, _ => EqW.refl _
  | k + 1, out, hk, ho => by
    have hlen := gOk_len hok (show k < l.length by omega)
    have ih := Sw_Lw hok k (usS l out k) (by omega) (by rw [usS_len]; exact ho)
    have hat := usD_above hok (k + 1) out k hk (Nat.le_refl _)
    rw [Lw, hat]
    by_cases hz : (ruA l k).1.size = 0
    · rw [if_pos hz]
      obtain ⟨q1, q2, q3, q4⟩ := (gOk_rule hok (show k < l.length by omega)).1 hz
      obtain ⟨p, hp⟩ := Int.eq_ofNat_of_zero_le q1
      obtain ⟨q, hq⟩ := Int.eq_ofNat_of_zero_le q3
      have h3 := hlen.1 hz
      rw [hp, hq] at h3
      exact ih.trans (Sw_pair (by omega) (by omega) (by omega) hz hp hq h3).1
    · rw [if_neg hz, Sw, hlen.2 hz, Int.mul_one]
      rw [usS_let hz] at ih
      have : usD l (k + 1) out = usD l k out := by rw [usD, usS_let hz]
      rw [this]
      exact ih.add (EqW.refl _)
theorem Sw_zero (ls : List Int) (n : Nat) : ∀ k, Sw (List.replicate n (0 : Int)) ls k = 0
  | 0 => rfl
  | k + 1 => by
    rw [Sw, Sw_zero ls n k]
    have : (List.replicate n (0 : Int)).getD k 0 = 0 := by
      rw [List.getD]
      by_cases h : k < n
      · simp [h]
      · simp [List.getElem?_eq_none (show (List.replicate n (0 : Int)).length ≤ k by simp; omega)]
    rw [this]; simp
theorem lastI_getD (ls : List Int) (h : ls ≠ []) : lastI ls = ls.getD (ls.length - 1) 0 := lastI_at (by intro e; exact h (List.eq_nil_of_length_eq_zero e))
/-- the letters' rules are used as often as the word has letters -/
theorem Lw_all {l : List Ru} (hok : gOk l = true) (h0 : l ≠ []) : EqW (Lw l (gU l) l.length) (lastI (gLn l)) := by
  obtain ⟨-, -, hl, -⟩ := gOk_some hok
  have hp : 0 < l.length := List.length_pos_iff.2 h0
  have h := Sw_Lw hok l.length (usZ l.length) (Nat.le_refl _) (by simp [usZ])
  rw [gU]
  refine h.trans ?_
  rw [usZ, Sw_set _ (by simp; omega) (by omega), Sw_zero]
  have e0 : (List.replicate l.length (0 : Int)).getD (l.length - 1) 0 = 0 := by
    simp [List.getD, show l.length - 1 < l.length by omega]
  have e1 : lastI (gLn l) = (gLn l).getD (l.length - 1) 0 := by
    rw [lastI_getD _ (by intro e; rw [e] at hl; simp at hl; omega), hl]
  rw [e0, e1]
  simp
  exact EqW.refl _
/-- the whole is used once -/
theorem gU_last {l : List Ru} (hok : gOk l = true) (h0 : l ≠ []) : (gU l).getD (l.length - 1) 0 = 1 := by
  have hp : 0 < l.length := List.length_pos_iff.2 h0
  rw [gU, usD_above hok _ _ _ (Nat.le_refl _) (by omega), usZ]
  exact getD_set_self _ (by simp; omega)
/-- the sum of the four counts -/
def s4 (c : List Int) : Int := c.getD 0 0 + c.getD 1 0 + c.getD 2 0 + c.getD 3 0
theorem s4_set {c : List Int} (h4 : c.length = 4) {t : Nat} (ht : t < 4) (x : Int) : s4 (c.set t x) = s4 c + (x - c.getD t 0) := by
  match c, h4 with
  | [c0, c1, c2, c3], _ =>
    have : t = 0 ∨ t = 1 ∨ t = 2 ∨ t = 3 := by omega
    rcases this with rfl | rfl | rfl | rfl <;> simp [s4] <;> omega
theorem lc_sum {l : List Ru} (hok : gOk l = true) (u : List Int) : ∀ k, k ≤ l.length → EqW (s4 (lcT l u k)) (Lw l u k)
  | 0, _ => ⟨0, by rfl⟩
  | k + 1, hk => by
    have ih := lc_sum hok u k (by omega)
    rw [Lw]
    by_cases hz : (ruA l k).1.size = 0
    · rw [if_pos hz, lcT_pair hz]; exact ih
    · rw [if_neg hz]
      obtain ⟨h1, hv, h2, h3⟩ := (gOk_rule hok (show k < l.length by omega)).2 hz
      obtain ⟨hc4, -⟩ := lcJ_ok h1 hv (by omega)
      rw [lcT_let hz rfl, s4_set (lcT_len l u k) hc4]
      generalize (lcT l u k).getD (lcJ (ruA l k).1) 0 = x
      refine ih.add ?_
      obtain ⟨c, hc⟩ := wrap_eqW (x + u.getD k 0)
      exact ⟨c, by omega⟩
/-- depths lie between one and the number of rules -/
theorem gDp_bd {l : List Ru} (hok : gOk l = true) (h0 : l ≠ []) : 1 ≤ gDp l ∧ gDp l ≤ l.length := by
  have hp : 0 < l.length := List.length_pos_iff.2 h0
  have hl := dpT_len l l.length
  have hne : dpT l l.length ≠ [] := by intro e; rw [e] at hl; simp at hl; omega
  rw [gDp_ok hok, lastI_getD _ hne, hl]
  have hm : (dpT l l.length).getD (l.length - 1) 0 ∈ dpT l l.length := by
    rw [List.getD, List.getElem?_eq_getElem (by omega)]; exact List.getElem_mem _
  refine ⟨?_, (dpT_bd l l.length _ hm).2⟩
  obtain ⟨n, hn⟩ : ∃ n, l.length = n + 1 := ⟨l.length - 1, by omega⟩
  rw [hn, dpT]
  have hb := dpT_bd l n
  have hg : ∀ k, 0 ≤ (dpT l n).getD k 0 := by
    intro k
    rw [List.getD]
    cases he : (dpT l n)[k]? with
    | none => simp
    | some x => exact (hb x (List.mem_of_getElem? he)).1
  have e : (dpT l n ++ [dpN (dpT l n) (ruA l n)]).getD (n + 1 - 1) 0 = dpN (dpT l n) (ruA l n) := by
    have hl2 := dpT_len l n
    rw [List.getD, List.getElem?_append_right (by omega)]
    simp [hl2]
  rw [e, dpN]
  have g1 := hg (ruA l n).2.1.toNat
  have g2 := hg (ruA l n).2.2.toNat
  split
  · split <;> omega
  · omega
end Go.Proofs.Ytimfbnjgodbgoaa

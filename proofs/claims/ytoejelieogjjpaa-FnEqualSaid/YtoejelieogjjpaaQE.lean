/- Grammars by their structure: words of rules, more rules behind; plain. -/
import Derived.Test.YtoejelieogjjpaaUF
import Derived.Test.YtoejelieogjjpaaGE
namespace Go.Proofs.Ytoejelieogjjpaa
open Go.ChangeShapes Go.WideShapes Go.RowKit
set_option linter.unusedVariables false
set_option linter.unusedSimpArgs false
set_option maxHeartbeats 1000000
set_option maxRecDepth 100000
/-- a rule that may stand at the place k -/
def okR (r : Ru) (k : Nat) : Prop := (r.1.size = 0 → 0 ≤ r.2.1 ∧ r.2.1 < k ∧ 0 ≤ r.2.2 ∧ r.2.2 < k) ∧ (r.1.size ≠ 0 → r.1.size = 1 ∧ validB r.1 = true ∧ r.2.1 = 0 ∧ r.2.2 = 0)
/-- all rules are right, but for lengths -/
def gW (l : List Ru) : Prop := ∀ k, k < l.length → okR (ruA l k) k
theorem okR.more {r : Ru} {k m : Nat} (h : okR r k) (hm : k ≤ m) : okR r m := ⟨fun hz => by have := h.1 hz; omega, h.2⟩
theorem gW_nil : gW [] := fun k hk => by simp at hk
theorem gW_of {l : List Ru} (h : gOk l = true) : gW l := fun k hk => gOk_rule h hk
/-- the word of a rule -/
def wo (l : List Ru) (k : Nat) : List UInt8 := exF l (k + 1) k
theorem exW {l : List Ru} (hw : gW l) : ∀ (f f' k : Nat), k < f → k < f' → k < l.length → exF l f k = exF l f' k
  | 0, _, k, h, _, _ => by omega
  | f + 1, 0, k, _, h, _ => by omega
  | f + 1, f' + 1, k, h, h', hk => by
    by_cases hz : (ruA l k).1.size = 0
    · obtain ⟨q1, q2, q3, q4⟩ := (hw k hk).1 hz
      rw [exF_pair hz, exF_pair hz, exW hw f f' _ (by omega) (by omega) (by omega), exW hw f f' _ (by omega) (by omega) (by omega)]
    · rw [exF_let hz, exF_let hz]
theorem wo_pair {l : List Ru} (hw : gW l) {k : Nat} (hk : k < l.length) (hz : (ruA l k).1.size = 0) : wo l k = wo l (ruA l k).2.1.toNat ++ wo l (ruA l k).2.2.toNat := by
  obtain ⟨q1, q2, q3, q4⟩ := (hw k hk).1 hz
  rw [wo, exF_pair hz, wo, wo, exW hw k _ _ (by omega) (Nat.lt_succ_self _) (by omega), exW hw k _ (ruA l k).2.2.toNat (by omega) (Nat.lt_succ_self _) (by omega)]
theorem wo_let {l : List Ru} {k : Nat} (hz : (ruA l k).1.size ≠ 0) : wo l k = (ruA l k).1.data.toList := exF_let hz
theorem wd_wo {l : List Ru} (hw : gW l) (h0 : l ≠ []) : wd l = wo l (l.length - 1) := by
  have : l.length ≠ 0 := fun e => h0 (List.eq_nil_of_length_eq_zero e)
  rw [wd, wo, exW hw _ _ _ (by omega) (Nat.lt_succ_self _) (by omega)]
theorem wd_nil : wd [] = [] := rfl
theorem wo_ne {l : List Ru} (hw : gW l) : ∀ (k : Nat), k < l.length → 1 ≤ (wo l k).length := by
  intro k
  induction k using Nat.strongRecOn with
  | ind k ih =>
    intro hk
    by_cases hz : (ruA l k).1.size = 0
    · obtain ⟨q1, q2, q3, q4⟩ := (hw k hk).1 hz
      have := ih (ruA l k).2.1.toNat (by omega) (by omega)
      rw [wo_pair hw hk hz, List.length_append]; omega
    · rw [wo_let hz]
      have := ((hw k hk).2 hz).1
      simp [this]
theorem ruA_app {l m : List Ru} {k : Nat} (hk : k < l.length) : ruA (l ++ m) k = ruA l k := by
  rw [ruA, ruA, List.getD, List.getD, List.getElem?_append_left hk]
theorem ruA_end (l : List Ru) (r : Ru) : ruA (l ++ [r]) l.length = r := by
  rw [ruA, List.getD, List.getElem?_append_right (Nat.le_refl _)]; simp
theorem exF_app {l : List Ru} (hw : gW l) (m : List Ru) : ∀ (f k : Nat), k < f → k < l.length → exF (l ++ m) f k = exF l f k
  | 0, k, h, _ => by omega
  | f + 1, k, h, hk => by
    have e : ruA (l ++ m) k = ruA l k := ruA_app hk
    by_cases hz : (ruA l k).1.size = 0
    · obtain ⟨q1, q2, q3, q4⟩ := (hw k hk).1 hz
      rw [exF_pair (by rw [e]; exact hz), exF_pair hz, e, exF_app hw m f _ (by omega) (by omega), exF_app hw m f _ (by omega) (by omega)]
    · rw [exF_let (by rw [e]; exact hz), exF_let hz, e]
theorem wo_app {l : List Ru} (hw : gW l) (m : List Ru) {k : Nat} (hk : k < l.length) : wo (l ++ m) k = wo l k := exF_app hw m _ _ (Nat.lt_succ_self _) hk
theorem gW_app {l : List Ru} {r : Ru} (hw : gW l) (h : okR r l.length) : gW (l ++ [r]) := by
  intro k hk
  rw [List.length_append, List.length_cons, List.length_nil] at hk
  by_cases hkl : k < l.length
  · rw [ruA_app hkl]; exact hw k hkl
  · obtain rfl : k = l.length := by omega
    rw [ruA_end]; exact h
/-- the word of a pair that is added -/
theorem wo_new {l : List Ru} (hw : gW l) {p q : Int} (hp0 : 0 ≤ p) (hp : p < l.length) (hq0 : 0 ≤ q) (hq : q < l.length) : wo (l ++ [((⟨#[]⟩ : ByteArray), p, q)]) l.length = wo l p.toNat ++ wo l q.toNat := by
  have h2 : gW (l ++ [((⟨#[]⟩ : ByteArray), p, q)]) := gW_app hw ⟨fun _ => ⟨hp0, hp, hq0, hq⟩, fun h => absurd rfl h⟩
  have e := ruA_end l ((⟨#[]⟩ : ByteArray), p, q)
  rw [wo_pair h2 (by simp) (by rw [e]; rfl), e]
  show wo _ p.toNat ++ wo _ q.toNat = _
  rw [wo_app hw _ (by omega), wo_app hw _ (by omega)]
theorem wo_newlet {l : List Ru} {r : Ru} (hz : r.1.size ≠ 0) : wo (l ++ [r]) l.length = r.1.data.toList := by
  have e := ruA_end l r
  rw [wo_let (by rw [e]; exact hz), e]
theorem gW_take {l : List Ru} (hw : gW l) (n : Nat) : gW (l.take n) := by
  intro k hk
  rw [List.length_take] at hk
  have e : ruA (l.take n) k = ruA l k := by
    rw [ruA, ruA, List.getD, List.getD, List.getElem?_take_of_lt (by omega)]
  rw [e]; exact hw k (by omega)
theorem wo_take {l : List Ru} (hw : gW l) {n k : Nat} (hk : k < n) (hn : n ≤ l.length) : wo (l.take n) k = wo l k := by
  have h := wo_app (gW_take hw n) (l.drop n) (k := k) (by rw [List.length_take]; omega)
  rw [List.take_append_drop] at h
  exact h.symm
/-- lengths that are small enough make a grammar right -/
theorem lnT_of {l : List Ru} (hw : gW l) (hb : ∀ k, k < l.length → (wo l k).length ≤ 1000000000000000) : ∀ n, n ≤ l.length → lnT l n = some ((List.range n).map fun k => ((wo l k).length : Int))
  | 0, _ => rfl
  | n + 1, hn => by
    have ih := lnT_of hw hb n (by omega)
    have hr := hw n (by omega)
    have hg : ∀ k : Int, 0 ≤ k → k < n → ((List.range n).map fun k => ((wo l k).length : Int)).getD k.toNat 0 = (wo l k.toNat).length := fun k h1 h2 => by
      rw [List.getD, List.getElem?_map, List.getElem?_range (by omega)]; rfl
    have key : ruP ((List.range n).map fun k => ((wo l k).length : Int)) (ruA l n) = some ((wo l n).length : Int) := by
      by_cases hz : (ruA l n).1.size = 0
      · obtain ⟨q1, q2, q3, q4⟩ := hr.1 hz
        have hp := wo_pair hw (show n < l.length by omega) hz
        have hbn := hb n (by omega)
        have e : ((wo l n).length : Int) = (wo l (ruA l n).2.1.toNat).length + (wo l (ruA l n).2.2.toNat).length := by rw [hp, List.length_append]; omega
        rw [ruP_pair hz (by simp; omega) (by rw [hg _ q1 q2, hg _ q3 q4]; omega), hg _ q1 q2, hg _ q3 q4, e]
      · obtain ⟨q1, q2, q3, q4⟩ := hr.2 hz
        rw [ruP_let q1 q2 q3 q4, wo_let hz]
        simp [q1]
    rw [lnT_step ih key, List.range_succ, List.map_append]
    rfl
theorem gOk_of {l : List Ru} (hw : gW l) (hn : l.length ≤ 400) (hb : ∀ k, k < l.length → (wo l k).length ≤ 1000000000000000) : gOk l = true := by
  simp [gOk, lnT_of hw hb l.length (Nat.le_refl _), hn]
theorem wo_bd {l : List Ru} (hok : gOk l = true) {k : Nat} (hk : k < l.length) : (wo l k).length ≤ 1000000000000000 := by
  have h := exF_len hok (k + 1) k (Nat.lt_succ_self _) hk
  have := (gOk_some hok).2.2.2 _ (getD_mem (show k < (gLn l).length by rw [(gOk_some hok).2.2.1]; exact hk))
  unfold wo; omega
end Go.Proofs.Ytoejelieogjjpaa

/- What a right automaton is; the reference's walks. -/
import Derived.Test.YtimfbnjgodbgoaaHD
namespace Go.Proofs.Ytimfbnjgodbgoaa
open Go.ChangeShapes Go.WideShapes Go.RowKit
set_option linter.unusedVariables false
set_option linter.unusedSimpArgs false
set_option maxHeartbeats 4000000
set_option maxRecDepth 100000
def riP (m : Int) (xs : List Int) (t : Nat) : Prop := (0 ≤ xs.getD t 0 ∧ xs.getD t 0 ≤ m) ∧ (0 < t → xs.getD (t - 1) 0 < xs.getD t 0)
instance (m : Int) (xs : List Int) (t : Nat) : Decidable (riP m xs t) := by unfold riP; infer_instance
def riOk (m : Int) (xs : List Int) : Bool := decide (∀ t, t < xs.length → riP m xs t)
theorem riOk_t {m : Int} {xs : List Int} (h : ∀ t, t < xs.length → riP m xs t) : riOk m xs = true := by unfold riOk; exact decide_eq_true h
theorem riOk_f {m : Int} {xs : List Int} {k : Nat} (hk : k < xs.length) (h : ¬ riP m xs k) : riOk m xs = false := by unfold riOk; exact decide_eq_false (fun g => h (g k hk))
def roP (m : Int) (r : List Int) : Prop := r.length = 4 ∧ ∀ l, l < 4 → 0 ≤ r.getD l 0 ∧ r.getD l 0 ≤ m
instance (m : Int) (r : List Int) : Decidable (roP m r) := by unfold roP; infer_instance
def nxOk (m : Int) (t : Tb) : Bool := decide (∀ s, s < t.length → roP m (tA t s))
theorem nxOk_t {m : Int} {t : Tb} (h : ∀ s, s < t.length → roP m (tA t s)) : nxOk m t = true := by unfold nxOk; exact decide_eq_true h
theorem nxOk_f {m : Int} {t : Tb} {k : Nat} (hk : k < t.length) (h : ¬ roP m (tA t k)) : nxOk m t = false := by unfold nxOk; exact decide_eq_false (fun g => h (g k hk))
/-- a right automaton -/
def auOk (a : Au) : Bool := decide (1 ≤ a.st ∧ a.st ≤ 24) && decide (0 ≤ a.sa ∧ a.sa ≤ a.st - 1) && riOk (a.st - 1) a.fi && (nxOk (a.st - 1) a.nx && decide ((a.nx.length : Int) = a.st))
theorem in_f {x lo hi : Int} (h : ¬ (lo ≤ x ∧ x ≤ hi)) : (decide (lo ≤ x) && decide (x ≤ hi)) = false := by simp; omega
theorem in_t {x lo hi : Int} (h : lo ≤ x ∧ x ≤ hi) : (decide (lo ≤ x) && decide (x ≤ hi)) = true := by simp; omega
theorem auOk_st {a : Au} (h : ¬ (1 ≤ a.st ∧ a.st ≤ 24)) : auOk a = false := by simp only [auOk, h, decide_false, Bool.false_and]
theorem auOk_sa {a : Au} (h : ¬ (0 ≤ a.sa ∧ a.sa ≤ a.st - 1)) : auOk a = false := by simp only [auOk, h, decide_false, Bool.and_false, Bool.false_and]
theorem auOk_fi {a : Au} (h : riOk (a.st - 1) a.fi = false) : auOk a = false := by simp only [auOk, h, Bool.and_false, Bool.false_and]
theorem auOk_nx {a : Au} (h1 : 1 ≤ a.st ∧ a.st ≤ 24) (h2 : 0 ≤ a.sa ∧ a.sa ≤ a.st - 1) (h3 : riOk (a.st - 1) a.fi = true) : auOk a = (nxOk (a.st - 1) a.nx && decide ((a.nx.length : Int) = a.st)) := by simp only [auOk, h1, h2, h3, and_self, decide_true, Bool.and_self, Bool.true_and]
end Go.Proofs.Ytimfbnjgodbgoaa

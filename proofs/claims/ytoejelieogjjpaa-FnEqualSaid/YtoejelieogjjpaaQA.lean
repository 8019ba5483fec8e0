/- Prints of parts of two words that differ late: plain. -/
import Derived.Test.YtoejelieogjjpaaZH
namespace Go.Proofs.Ytoejelieogjjpaa
open Go.ChangeShapes Go.WideShapes Go.RowKit
set_option linter.unusedVariables false
set_option linter.unusedSimpArgs false
set_option maxHeartbeats 1000000
theorem mod_cancel {A a b : Nat} (ha : a < fP) (hb : b < fP) (h : (A + a) % fP = (A + b) % fP) : a = b := by
  unfold fP at *
  omega
theorem evN_tail {B : Nat} {p u v : List UInt8} (hl : u.length = v.length) (h : evN B (p ++ u) = evN B (p ++ v)) : evN B u = evN B v := by
  rw [evN_app, evN_app, hl] at h
  exact mod_cancel (evN_lt B u) (evN_lt B v) h
/-- two words of one length that have the same prints and differ, if at all, in their last 30 letters -/
theorem late_inj {x y : List UInt8} (c : Nat) (hl : x.length = y.length) (hp : x.take c = y.take c) (h30 : x.length ≤ c + 30) (hx : letC x) (hy : letC y) (h1 : evN bA x = evN bA y) (h2 : evN bB x = evN bB y) : x = y := by
  have ex := (List.take_append_drop c x).symm
  have ey := (List.take_append_drop c y).symm
  have hl2 : (x.drop c).length = (y.drop c).length := by rw [List.length_drop, List.length_drop, hl]
  rw [ex, ey, hp] at h1 h2
  have e := print_inj hl2 (by rw [List.length_drop]; omega) (fun z hz => hx z (List.mem_of_mem_drop hz)) (fun z hz => hy z (List.mem_of_mem_drop hz)) (evN_tail hl2 h1) (evN_tail hl2 h2)
  rw [ex, ey, hp, e]
theorem prt_eq2 {l m : List Ru} (hl : letC (wd l)) (hm : letC (wd m)) {i j k : Int} (hi : 0 ≤ i) (hj : 0 ≤ j) (hk : 0 ≤ k) (hik : i + k ≤ (wd l).length) (hjk : j + k ≤ (wd m).length) (h30 : k.toNat ≤ cpl (sfx l i) (sfx m j) + 30) :
    (evN bA (ptX l i (i + k)) = evN bA (ptX m j (j + k)) ∧ evN bB (ptX l i (i + k)) = evN bB (ptX m j (j + k))) ↔ k.toNat ≤ cpl (sfx l i) (sfx m j) := by
  rw [ptX_take l hi hk, ptX_take m hj hk]
  have e1 : ((sfx l i).take k.toNat).length = k.toNat := by rw [List.length_take, sfx_len]; omega
  have e2 : ((sfx m j).take k.toNat).length = k.toNat := by rw [List.length_take, sfx_len]; omega
  have hle := cpl_le (sfx l i) (sfx m j)
  have ht := cpl_take (sfx l i) (sfx m j) k.toNat (by rw [sfx_len]; omega) (by rw [sfx_len]; omega)
  have hc := (cpl_take (sfx l i) (sfx m j) (cpl (sfx l i) (sfx m j)) hle.1 hle.2).2 (Nat.le_refl _)
  generalize cpl (sfx l i) (sfx m j) = c at *
  constructor
  · rintro ⟨h1, h2⟩
    by_cases hkc : k.toNat ≤ c
    · exact hkc
    · refine ht.1 (late_inj c (by rw [e1, e2]) ?_ (by rw [e1]; exact h30) (letC_take hl _ _) (letC_take hm _ _) h1 h2)
      rw [List.take_take, List.take_take, Nat.min_eq_left (by omega)]
      exact hc
  · intro h
    rw [ht.2 h]
    exact ⟨rfl, rfl⟩
end Go.Proofs.Ytoejelieogjjpaa

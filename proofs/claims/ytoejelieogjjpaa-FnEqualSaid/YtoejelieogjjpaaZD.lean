/- Prints of words, plain: what a word's print is; of words side by side; short words with the same prints. -/
import Derived.Test.YtoejelieogjjpaaZC
import Derived.Test.YtoejelieogjjpaaY8
namespace Go.Proofs.Ytoejelieogjjpaa
open Go.ChangeShapes Go.WideShapes Go.RowKit
set_option linter.unusedVariables false
set_option linter.unusedSimpArgs false
set_option maxHeartbeats 1000000
set_option maxRecDepth 100000
def poI (B : Int) : Nat → Int
  | 0 => 1
  | n + 1 => poI B n * B % cP
theorem modStep (m p e B x : Int) : ((m * p + e) % cP * B + x) % cP = (m * (p * B % cP) + (e * B + x) % cP) % cP := by
  apply Int.emod_eq_emod_iff_emod_sub_eq_zero.2
  apply Int.emod_eq_zero_of_dvd
  have a1 := Int.mul_ediv_add_emod (m * p + e) cP
  have a2 := Int.mul_ediv_add_emod (p * B) cP
  have a3 := Int.mul_ediv_add_emod (e * B + x) cP
  generalize (m * p + e) % cP = r1 at *
  generalize p * B % cP = r2 at *
  generalize (e * B + x) % cP = r3 at *
  generalize (m * p + e) / cP = t1 at *
  generalize p * B / cP = t2 at *
  generalize (e * B + x) / cP = t3 at *
  refine ⟨m * t2 + t3 - t1 * B, ?_⟩
  have b1 : (cP * t1 + r1) * B = (m * p + e) * B := by rw [a1]
  have b2 : m * (cP * t2 + r2) = m * (p * B) := by rw [a2]
  simp only [Int.mul_add, Int.mul_sub, Int.add_mul, Int.mul_assoc, Int.mul_left_comm, Int.mul_comm] at a3 b1 b2 ⊢
  omega
theorem evI_lt (B : Int) : ∀ (u : List Int) (a : Int), 0 ≤ a → a < cP → 0 ≤ evI B u a ∧ evI B u a < cP
  | [], a, h0, h1 => ⟨h0, h1⟩
  | x :: u, a, _, _ => evI_lt B u _ (Int.emod_nonneg _ (by decide)) (Int.emod_lt_of_pos _ (by decide))
theorem evI_app (B : Int) (u : List Int) : ∀ (n : Nat) (v : List Int), v.length = n → evI B (u ++ v) 0 = (evI B u 0 * poI B n + evI B v 0) % cP
  | 0, v, h => by
    have : v = [] := List.eq_nil_of_length_eq_zero h
    subst this
    have hu := evI_lt B u 0 (by decide) (by decide)
    rw [List.append_nil, poI, evI, Int.mul_one, Int.add_zero, Int.emod_eq_of_lt hu.1 hu.2]
  | n + 1, v, h => by
    rcases List.eq_nil_or_concat v with rfl | ⟨w, x, rfl⟩
    · simp at h
    · rw [List.concat_eq_append] at *
      have ih := evI_app B u n w (by simpa using h)
      rw [← List.append_assoc, evI_snoc, evI_snoc, ih, poI, modStep]
/-- a word's letters as numbers -/
def uI (u : List UInt8) : List Int := u.map fun c => (c.toNat : Int)
theorem uI_app (u v : List UInt8) : uI (u ++ v) = uI u ++ uI v := List.map_append
theorem uI_len (u : List UInt8) : (uI u).length = u.length := List.length_map _
theorem uI_inj {u v : List UInt8} (h : uI u = uI v) : u = v := by
  have hl : u.length = v.length := by have := congrArg List.length h; rwa [uI_len, uI_len] at this
  apply List.ext_getElem hl
  intro i h1 h2
  have e : (uI u)[i]? = (uI v)[i]? := by rw [h]
  rw [uI, uI, List.getElem?_map, List.getElem?_map, List.getElem?_eq_getElem h1, List.getElem?_eq_getElem h2] at e
  simp at e
  exact UInt8.toNat_inj.1 (by exact_mod_cast e)
/-- prints and steps as natural numbers -/
def evN (B : Nat) (u : List UInt8) : Nat := (evI (B : Int) (uI u) 0).toNat
def poN (B n : Nat) : Nat := (poI (B : Int) n).toNat
theorem evN_I (B : Nat) (u : List UInt8) : (evN B u : Int) = evI (B : Int) (uI u) 0 := by
  have := (evI_lt (B : Int) (uI u) 0 (by decide) (by decide)).1
  unfold evN; omega
theorem cP_fP : cP = (fP : Int) := rfl
theorem evN_lt (B : Nat) (u : List UInt8) : evN B u < fP := by
  have h := (evI_lt (B : Int) (uI u) 0 (by decide) (by decide)).2
  rw [← evN_I, cP_fP] at h
  omega
theorem poI_lt (B : Int) : ∀ n, 0 ≤ poI B n ∧ poI B n < cP
  | 0 => ⟨by rw [poI]; decide, by rw [poI]; decide⟩
  | n + 1 => ⟨Int.emod_nonneg _ (by decide), Int.emod_lt_of_pos _ (by decide)⟩
theorem poN_I (B n : Nat) : (poN B n : Int) = poI (B : Int) n := by
  have := (poI_lt (B : Int) n).1
  unfold poN; omega
theorem poN_lt (B n : Nat) : poN B n < fP := by
  have h := (poI_lt (B : Int) n).2
  rw [← poN_I, cP_fP] at h
  omega
theorem evN_app (B : Nat) (u v : List UInt8) : evN B (u ++ v) = (evN B u * poN B v.length % fP + evN B v) % fP := by
  have h := evI_app (B : Int) (uI u) v.length (uI v) (uI_len v)
  rw [← uI_app, ← evN_I, ← evN_I, ← evN_I, ← poN_I, cP_fP] at h
  rw [Nat.mod_add_mod]
  exact_mod_cast h
theorem poI_add (B : Int) (m : Nat) : ∀ n, poI B (m + n) = poI B m * poI B n % cP
  | 0 => by
    have := poI_lt B m
    rw [Nat.add_zero, poI, Int.mul_one, Int.emod_eq_of_lt this.1 this.2]
  | n + 1 => by
    have h := modStep (poI B m) (poI B n) 0 B 0
    simp only [Int.add_zero, Int.zero_mul] at h
    rw [show m + (n + 1) = (m + n) + 1 by omega, poI, poI_add B m n, h, poI]
    simp
theorem poN_add (B m n : Nat) : poN B (m + n) = poN B m * poN B n % fP := by
  have h := poI_add (B : Int) m n
  rw [← poN_I, ← poN_I, ← poN_I, cP_fP] at h
  exact_mod_cast h
theorem evN_one (B : Nat) (c : UInt8) : evN B [c] = c.toNat := by
  have h := evN_I B [c]
  have e : evI (B : Int) (uI [c]) 0 = (c.toNat : Int) := by
    show (0 * (B : Int) + (c.toNat : Int)) % cP = _
    have := c.toNat_lt
    rw [Int.zero_mul, Int.zero_add]
    exact Int.emod_eq_of_lt (by omega) (by unfold cP; omega)
  rw [e] at h
  exact_mod_cast h
theorem poN_one {B : Nat} (h : B < fP) : poN B 1 = B := by
  have h2 := poN_I B 1
  have e : poI (B : Int) 1 = (B : Int) := by
    show 1 * (B : Int) % cP = _
    rw [Int.one_mul]
    exact Int.emod_eq_of_lt (by omega) (by rw [cP_fP]; omega)
  rw [e] at h2
  exact_mod_cast h2
theorem evN_nil (B : Nat) : evN B [] = 0 := rfl
def bA : Nat := 1234567890123456789
def bB : Nat := 987654321987654321
def letC (u : List UInt8) : Prop := ∀ x ∈ u, 97 ≤ x.toNat ∧ x.toNat ≤ 99
/-- two short words of one length with the same two prints are the same -/
theorem print_inj {u v : List UInt8} (hl : u.length = v.length) (h30 : u.length ≤ 30) (hu : letC u) (hv : letC v) (h1 : evN bA u = evN bA v) (h2 : evN bB u = evN bB v) : u = v := by
  apply uI_inj
  refine noCol (by rw [uI_len, uI_len, hl]) (by rw [uI_len]; exact h30) (fun x hx => ?_) (fun x hx => ?_) ?_ ?_
  · obtain ⟨c, hc, rfl⟩ := List.mem_map.1 hx
    have := hu c hc
    omega
  · obtain ⟨c, hc, rfl⟩ := List.mem_map.1 hx
    have := hv c hc
    omega
  · have e1 := evN_I bA u
    have e2 := evN_I bA v
    rw [h1] at e1
    exact e1.symm.trans e2
  · have e1 := evN_I bB u
    have e2 := evN_I bB v
    rw [h2] at e1
    exact e1.symm.trans e2
/-- the word of a rule -/
def rwd (l : List Ru) (k : Nat) : List UInt8 := exF l l.length k
theorem rwd_pair {l : List Ru} (hok : gOk l = true) {k : Nat} (hk : k < l.length) (hz : (ruA l k).1.size = 0) : rwd l k = rwd l (ruA l k).2.1.toNat ++ rwd l (ruA l k).2.2.toNat := by
  obtain ⟨q1, q2, q3, q4⟩ := (gOk_rule hok hk).1 hz
  rw [rwd, exF_same hok l.length (k + 1) k hk (by omega) hk, exF_pair hz, rwd, rwd, exF_same hok k l.length _ (by omega) (by omega) (by omega), exF_same hok k l.length _ (by omega) (by omega) (by omega)]
theorem rwd_let {l : List Ru} {k : Nat} (hk : k < l.length) (hz : (ruA l k).1.size ≠ 0) : rwd l k = (ruA l k).1.data.toList := by
  obtain ⟨n, hn⟩ : ∃ n, l.length = n + 1 := ⟨l.length - 1, by omega⟩
  rw [rwd, hn, exF_let hz]
/-- the print of what some rules spell -/
theorem ev_vis (B : Nat) (l : List Ru) (vis : List Nat) (k : Nat) : evN B ((vis ++ [k]).flatMap (rwd l)) = (evN B (vis.flatMap (rwd l)) * poN B (rwd l k).length % fP + evN B (rwd l k)) % fP := by
  rw [List.flatMap_append, List.flatMap_cons, List.flatMap_nil, List.append_nil, evN_app]
end Go.Proofs.Ytoejelieogjjpaa

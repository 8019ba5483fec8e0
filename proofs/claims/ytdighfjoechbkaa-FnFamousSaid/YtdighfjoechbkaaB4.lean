/- FibonacciWord and ThueWord, of the program and of the reference, and their laws. -/
import Derived.Test.YtdighfjoechbkaaB1
namespace Go.Proofs.Ytdighfjoechbkaa
open Go.ChangeShapes Go.WideShapes Go.RowKit
set_option linter.unusedVariables false
set_option linter.unusedSimpArgs false
set_option maxHeartbeats 2000000
set_option maxRecDepth 100000
def fibw : Nat → ByteArray
  | 0 => ⟨#[98]⟩
  | 1 => ⟨#[97]⟩
  | k + 2 => fibw (k + 1) ++ fibw k
/-- some word from 1 to n is too long -/
def badB (f : Nat → ByteArray) (n : Nat) : Bool := (List.range n).any fun k => decide (2000 < (f (k + 1)).size)
theorem badB_step {f : Nat → ByteArray} {k : Nat} (h : badB f k = false) (h2 : (f (k + 1)).size ≤ 2000) : badB f (k + 1) = false := by
  unfold badB at *
  rw [List.range_succ, List.any_append, h]
  simpa using h2
theorem badB_hit {f : Nat → ByteArray} {k n : Nat} (h : k < n) (h2 : 2000 < (f (k + 1)).size) : badB f n = true := by
  unfold badB
  rw [List.any_eq_true]
  exact ⟨k, by simpa using h, by simpa using h2⟩
/-- the word and the code of a row of words that grow -/
def grW (f : Nat → ByteArray) (n : Int) : ByteArray := if n < 0 ∨ 20 < n then ⟨#[]⟩ else if badB f n.toNat = true then ⟨#[]⟩ else f n.toNat
def grC (f : Nat → ByteArray) (n : Int) : Int := if n < 0 ∨ 20 < n then 2 else if badB f n.toNat = true then 3 else 0
theorem gr_out (f : Nat → ByteArray) {n : Int} (h : n < 0 ∨ 20 < n) : grW f n = ⟨#[]⟩ ∧ grC f n = 2 := by simp [grW, grC, h]
theorem gr_bad (f : Nat → ByteArray) {m : Nat} (hm : m ≤ 20) (h : badB f m = true) : grW f m = ⟨#[]⟩ ∧ grC f m = 3 := by
  have : ¬ ((m : Int) < 0 ∨ 20 < (m : Int)) := by omega
  simp [grW, grC, this, h]
theorem gr_ok (f : Nat → ByteArray) {m : Nat} (hm : m ≤ 20) (h : badB f m = false) : grW f m = f m ∧ grC f m = 0 := by
  have : ¬ ((m : Int) < 0 ∨ 20 < (m : Int)) := by omega
  simp [grW, grC, this, h]
/-- the length of the word with a number -/
def fibl : Nat → Nat
  | 0 => 1
  | 1 => 1
  | k + 2 => fibl (k + 1) + fibl k
theorem fibw_len : ∀ k, (fibw k).size = fibl k ∧ (fibw (k + 1)).size = fibl (k + 1)
  | 0 => ⟨rfl, rfl⟩
  | k + 1 => by
    have ih := fibw_len k
    refine ⟨ih.2, ?_⟩
    show (fibw (k + 1) ++ fibw k).size = fibl (k + 1) + fibl k
    rw [ByteArray.size_append, ih.1, ih.2]
theorem fibl_small : ∀ k, k ≤ 23 → fibl k ≤ 50000 := by decide
theorem fibw_small (k : Nat) (hk : k ≤ 22) : (fibw k).size ≤ 50000 := by
  rw [(fibw_len k).1]
  exact fibl_small k (by omega)
theorem i_FibonacciWord_1 (u v : ByteArray) (w : World) (h : v.size + u.size ≤ 1048576) : Calls Try.prog 83 #[.string u, .string v] w fun e w' => e = .returned (.string (v ++ u)) ∧ w = w' := by
  go_enter Try.func83, Try.ntmps83
  go_wp2
  go_ret
  exact ⟨rfl, rfl⟩
theorem i_grown_fib (n : Int) (w : World) : Calls Try.prog 82 #[.int .i64 n, .string ⟨#[98]⟩, .string ⟨#[97]⟩, .func (.func 83) #[] #[]] w fun e w' => e = .returned (.tuple #[.string (grW fibw n), .int .i64 (grC fibw n)]) ∧ w = w' := by
  by_cases hn : n < 0 ∨ 20 < n
  · have H := Lib.hid (gr_out fibw hn)
    go_enter Try.func82, Try.ntmps82
    go_wp2_with (go_at_call 80; refine (i_within_r _ _ _ false (by simp; omega) _).mono ?_; rintro e w' ⟨rfl, rfl⟩)
    go_ret2
    exact ⟨ret_si H.out.1.symm H.out.2.symm, rfl⟩
  · obtain ⟨m, rfl⟩ := Int.eq_ofNat_of_zero_le (show 0 ≤ n by omega)
    have hm : m ≤ 20 := by omega
    clear hn
    go_enter Try.func82, Try.ntmps82
    go_wp2_with (go_at_call 80; refine (i_within_r _ _ _ true (by simp; omega) _).mono ?_; rintro e w' ⟨rfl, rfl⟩)
    go_loop [1, 2, 14] (fun u v i => ∃ k : Nat, k ≤ m ∧ i = .int .i64 k ∧ u = .string (fibw k) ∧ v = .string (fibw (k + 1)) ∧ badB fibw k = false) (fun _ _ i => m - (intOf i).toNat)
    case atStart => exact ⟨0, by omega, rfl, rfl, rfl, rfl⟩
    case round =>
      obtain ⟨k, hk, rfl, rfl, rfl, hbad⟩ := hrel
      by_cases hlt : k < m
      · have hs1 := fibw_small k (by omega)
        have hs2 := fibw_small (k + 1) (by omega)
        have HN : Hid (fibw (k + 1 + 1) = fibw (k + 1) ++ fibw k) := rfl
        have HS := Lib.hid (badB_step (k := k) hbad)
        have HH := Lib.hid (badB_hit (f := fibw) hlt)
        have HG := Lib.hid (gr_bad fibw hm)
        clear hbad
        by_cases hbig : 2000 < (fibw (k + 1)).size
        · have HF := Lib.hid (HG.out (HH.out hbig))
          generalize fibw (k + 1) = y at *
          generalize fibw k = x at *
          go_wp2_with (go_at_call 83; refine (i_FibonacciWord_1 _ _ _ (by omega)).mono ?_; rintro e w' ⟨rfl, rfl⟩)
          go_ret2
          exact ⟨ret_si HF.out.1.symm HF.out.2.symm, rfl⟩
        · have HF := Lib.hid (HS.out (by omega))
          generalize hy : fibw (k + 1) = y at *
          have HY := Lib.hid hy
          clear hy
          generalize fibw k = x at *
          go_wp2_with (go_at_call 83; refine (i_FibonacciWord_1 _ _ _ (by omega)).mono ?_; rintro e w' ⟨rfl, rfl⟩)
          go_round
          case rel => exact ⟨k + 1, by omega, by go_num, by rw [HY.out], by rw [HN.out], HF.out⟩
          case measure => first | (simp [intOf]; done) | (simp [intOf]; omega)
      · have ek : k = m := by omega
        subst ek
        have HF := Lib.hid (gr_ok fibw hm hbad)
        clear hbad
        go_wp2
        go_ret2
        exact ⟨ret_si HF.out.1.symm HF.out.2.symm, rfl⟩
theorem i_FibonacciWord (n : Int) (w : World) : Calls Try.prog 52 #[.int .i64 n] w fun e w' => e = .returned (.tuple #[.string (grW fibw n), .int .i64 (grC fibw n)]) ∧ w = w' := by
  go_enter Try.func52, Try.ntmps52
  go_wp2_with (go_at_call 82; refine (i_grown_fib _ _).mono ?_; rintro e w' ⟨rfl, rfl⟩)
  go_ret2
  exact ⟨ret_si rfl rfl, rfl⟩
end Go.Proofs.Ytdighfjoechbkaa

/- Arithmetic modulo 2^61 - 1: mulField, addField; prints: bases, times, plus. -/
import Derived.Test.YtoejelieogjjpaaZA
import Derived.Test.YtoejelieogjjpaaShelf
import Derived.Test.YtoejelieogjjpaaY1
import Derived.Laws.Bits64b
import Derived.Deep.DeepCutAuto
namespace Go.Proofs.Ytoejelieogjjpaa
open Go.ChangeShapes Go.WideShapes Go.RowKit
set_option linter.unusedVariables false
set_option linter.unusedSimpArgs false
set_option maxHeartbeats 2000000
set_option maxRecDepth 100000
def fP : Nat := 2305843009213693951
theorem mk61 (a : Nat) (ha : a < 18446744073709551616) : bits .and .u64 (a : Int) 2305843009213693951 = ((a % 2305843009213693952 : Nat) : Int) := by
  have h := bits_and_u64_nat a 2305843009213693951 ha (by omega)
  have e : a &&& 2305843009213693951 = a % 2305843009213693952 := Nat.and_two_pow_sub_one_eq_mod a 61
  rw [e] at h
  exact h
theorem or61 (a b : Nat) (ha : a < 8) (hb : b < 288230376151711744) : bits .or .u64 (a : Int) ((b * 8 : Nat) : Int) = ((b * 8 + a : Nat) : Int) := by
  have h := bits_or_u64_nat a (b * 8) (by omega) (by omega)
  have e : a ||| (b * 8) = b * 8 + a := by
    rw [Nat.or_comm, Nat.mul_comm]
    exact (Nat.two_pow_add_eq_or_of_lt (i := 3) ha b).symm
  rw [e] at h
  exact h
theorem red61 (Q : Nat) (s s2 : Nat) (hs : s = Q % 2305843009213693952 + Q / 2305843009213693952) (hs2 : s2 = s % 2305843009213693952 + s / 2305843009213693952) (hq : Q < 5316911983139663491615228241121378304) : s < 4611686018427387904 ∧ s2 < 4611686018427387902 ∧ Q % fP = if fP ≤ s2 then s2 - fP else s2 := by
  have h1 : Q = fP * (Q / 2305843009213693952) + s := by unfold fP; omega
  have h2 : s = fP * (s / 2305843009213693952) + s2 := by unfold fP; omega
  have h3 : s < 4611686018427387904 := by omega
  have h4 : s2 < 4611686018427387902 := by omega
  refine ⟨h3, h4, ?_⟩
  have e : Q % fP = s2 % fP := by
    rw [h1, Nat.mul_add_mod, h2, Nat.mul_add_mod]
  rw [e]
  unfold fP
  split <;> omega
theorem i_mulField (x y : Nat) (hx : x < fP) (hy : y < fP) (w : World) :
    Calls Try.prog 57 #[.int .u64 x, .int .u64 y] w fun e w' => e = .returned (.int .u64 ((x * y % fP : Nat) : Int)) ∧ w = w' := by
  have hq : x * y < 5316911983139663491615228241121378304 := by
    have h := Nat.mul_le_mul (Nat.le_of_lt hx) (Nat.le_of_lt hy)
    unfold fP at h; omega
  have hc := Try.bits_Mul64 x y (by unfold fP at hx; omega) (by unfold fP at hy; omega) w
  obtain ⟨q1, q2, q3⟩ := red61 (x * y) _ _ rfl rfl hq
  obtain ⟨r, hr0⟩ : ∃ r, x * y % fP = r := ⟨_, rfl⟩
  rw [hr0] at q3 ⊢
  have HR := Lib.hid q3
  clear q3 hr0
  generalize x * y = Q at *
  obtain ⟨hi, hhi⟩ : ∃ h, h = Q / 18446744073709551616 := ⟨_, rfl⟩
  obtain ⟨lo, hlo⟩ : ∃ h, h = Q % 18446744073709551616 := ⟨_, rfl⟩
  rw [← hhi, ← hlo] at hc
  have hh : hi < 288230376151711744 := by omega
  have hl : lo < 18446744073709551616 := by omega
  have e1 : Q % 2305843009213693952 = lo % 2305843009213693952 := by omega
  have e2 : Q / 2305843009213693952 = hi * 8 + lo / 2305843009213693952 := by omega
  rw [e1, e2] at q1 q2 HR
  clear e1 e2 hhi hlo hx hy hq
  have HC := Lib.hid hc
  clear hc
  go_enter Try.func57, Try.ntmps57
  go_wp2_with fail
  refine HC.out.mono ?_
  rintro e w' ⟨rfl, rfl⟩
  go_upto_region 4 with fail
  have n1 : bits .and .u64 (lo : Int) 2305843009213693951 = ((lo % 2305843009213693952 : Nat) : Int) := mk61 lo hl
  have n2 : bits .or .u64 ((lo : Int) / 2305843009213693952) ((hi : Int) * 8) = ((hi * 8 + lo / 2305843009213693952 : Nat) : Int) := by
    have := or61 (lo / 2305843009213693952) hi (by omega) hh
    rw [← this]; congr 1
  rw [n1, n2]
  generalize hA : lo % 2305843009213693952 = A at *
  generalize hB : hi * 8 + lo / 2305843009213693952 = B at *
  have n3 : IntKind.u64.wrap ((A : Int) + (B : Int)) = ((A + B : Nat) : Int) := by rw [IntKind.wrap_u64]; omega
  rw [n3]
  generalize A + B = s at *
  have n4 : bits .and .u64 (s : Int) 2305843009213693951 = ((s % 2305843009213693952 : Nat) : Int) := mk61 s (by omega)
  have n5 : IntKind.u64.wrap (((s % 2305843009213693952 : Nat) : Int) + (s : Int) / 2305843009213693952) = ((s % 2305843009213693952 + s / 2305843009213693952 : Nat) : Int) := by rw [IntKind.wrap_u64]; omega
  rw [n4, n5]
  generalize s % 2305843009213693952 + s / 2305843009213693952 = u at *
  clear n1 n2 n3 n4 n5 hA hB HC hh hl
  by_cases hu : fP ≤ u
  · have hr : r = u - fP := by rw [HR.out, if_pos hu]
    have hu' : (2305843009213693951 : Int) ≤ (u : Int) := by unfold fP at hu; omega
    have hw : IntKind.u64.wrap ((u : Int) - 2305843009213693951) = ((u - fP : Nat) : Int) := by rw [IntKind.wrap_u64]; unfold fP at *; omega
    have HR2 := Lib.hid hr
    clear HR hr hu
    go_wp2
    rw [HR2.out]
    go_ret
    exact ⟨rfl, rfl⟩
  · have hr : r = u := by rw [HR.out, if_neg hu]
    have hu' : ¬ (2305843009213693951 : Int) ≤ (u : Int) := by unfold fP at hu; omega
    have HR2 := Lib.hid hr
    clear HR hr hu
    go_wp2
    rw [HR2.out]
    go_ret
    exact ⟨rfl, rfl⟩
theorem i_addField (x y : Nat) (hx : x < fP) (hy : y < fP) (w : World) :
    Calls Try.prog 58 #[.int .u64 x, .int .u64 y] w fun e w' => e = .returned (.int .u64 (((x + y) % fP : Nat) : Int)) ∧ w = w' := by
  obtain ⟨r, hr0⟩ : ∃ r, (x + y) % fP = r := ⟨_, rfl⟩
  rw [hr0]
  have hw : IntKind.u64.wrap ((x : Int) + (y : Int)) = ((x + y : Nat) : Int) := by rw [IntKind.wrap_u64]; unfold fP at *; omega
  by_cases hu : fP ≤ x + y
  · have hr : r = x + y - fP := by rw [← hr0]; unfold fP at *; omega
    have hu' : (2305843009213693951 : Int) ≤ ((x + y : Nat) : Int) := by unfold fP at hu; omega
    have hw2 : IntKind.u64.wrap (((x + y : Nat) : Int) - 2305843009213693951) = ((x + y - fP : Nat) : Int) := by rw [IntKind.wrap_u64]; unfold fP at *; omega
    have HR2 := Lib.hid hr
    clear hr hr0 hu hx hy
    go_enter Try.func58, Try.ntmps58
    generalize hs : x + y = s at *
    go_wp2
    rw [HR2.out]
    go_ret
    exact ⟨rfl, rfl⟩
  · have hr : r = x + y := by rw [← hr0]; unfold fP at *; omega
    have hu' : ¬ (2305843009213693951 : Int) ≤ ((x + y : Nat) : Int) := by unfold fP at hu; omega
    have HR2 := Lib.hid hr
    clear hr hr0 hu hx hy
    go_enter Try.func58, Try.ntmps58
    generalize hs : x + y = s at *
    go_wp2
    rw [HR2.out]
    go_ret
    exact ⟨rfl, rfl⟩
end Go.Proofs.Ytoejelieogjjpaa

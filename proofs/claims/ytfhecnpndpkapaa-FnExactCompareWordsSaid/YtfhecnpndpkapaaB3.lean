/- CompareWords and FibonacciWord, of the program and of the reference, and their laws. -/
import Derived.Test.YtfhecnpndpkapaaB1
namespace Go.Proofs.Ytfhecnpndpkapaa
open Go.ChangeShapes Go.WideShapes Go.RowKit
set_option linter.unusedVariables false
set_option linter.unusedSimpArgs false
set_option maxHeartbeats 2000000
/-- the order of two texts -/
def cmpV (u v : ByteArray) : Int := if Op.bytesLess u.toList v.toList = true then -1 else if (u.toList == v.toList) = true then 0 else 1
theorem s_l01Compare (u v : ByteArray) (w : World) : Calls Try.prog 56 #[.string u, .string v] w fun e w' => e = .returned (.int .i64 (cmpV u v)) ∧ w = w' := by
  cases h1 : Op.bytesLess u.toList v.toList
  · cases h2 : (u.toList == v.toList)
    all_goals
      go_enter Try.func56, Try.ntmps56
      go_wp2
      go_ret
      exact ⟨ret_int (by simp [cmpV, h1, h2]), rfl⟩
  · go_enter Try.func56, Try.ntmps56
    go_wp2
    go_ret
    exact ⟨ret_int (by simp [cmpV, h1]), rfl⟩
theorem f_isNaN (u : ByteArray) (w : World) : Calls Try.prog 60 #[.string u] w fun e w' => e = .returned (.bool false) ∧ w = w' := by
  go_enter Try.func60, Try.ntmps60
  go_wp2
  go_ret
  exact ⟨ret_bool (by simp), rfl⟩
theorem f_Compare (u v : ByteArray) (w : World) : Calls Try.prog 57 #[.string u, .string v] w fun e w' => e = .returned (.int .i64 (cmpV u v)) ∧ w = w' := by
  cases h1 : Op.bytesLess u.toList v.toList
  · cases h2 : (u.toList == v.toList)
    all_goals
      go_enter Try.func57, Try.ntmps57
      go_wp2_with (go_at_call 60; refine (f_isNaN _ _).mono ?_; rintro e w' ⟨rfl, rfl⟩)
      go_ret
      exact ⟨ret_int (by simp [cmpV, h1, h2]), rfl⟩
  · go_enter Try.func57, Try.ntmps57
    go_wp2_with (go_at_call 60; refine (f_isNaN _ _).mono ?_; rintro e w' ⟨rfl, rfl⟩)
    go_ret
    exact ⟨ret_int (by simp [cmpV, h1]), rfl⟩
theorem s_CompareWords (u v : ByteArray) (w : World) (hu : u.size ≤ maxLen) (hv : v.size ≤ maxLen) : Calls Try.prog 33 #[.string u, .string v] w fun e w' => e = .returned (.tuple #[.int .i64 (ifv (validB u && validB v) (cmpV u v)), .int .i64 (okc (validB u && validB v))]) ∧ w = w' := by
  cases h1 : validB u <;> cases h2 : validB v
  all_goals
    go_enter Try.func33, Try.ntmps33
    go_wp2_with (first | (go_at_call 41; refine (s_l01Ok _ _ (by assumption)).mono ?_; rintro e w' ⟨rfl, rfl⟩) | (go_at_call 56; refine (s_l01Compare _ _ _).mono ?_; rintro e w' ⟨rfl, rfl⟩))
    go_ret2
    exact ⟨ret_ii rfl rfl, rfl⟩
theorem i_CompareWords (u v : ByteArray) (w : World) (hu : u.size ≤ maxLen) (hv : v.size ≤ maxLen) : Calls Try.prog 34 #[.string u, .string v] w fun e w' => e = .returned (.tuple #[.int .i64 (ifv (validB u && validB v) (cmpV u v)), .int .i64 (okc (validB u && validB v))]) ∧ w = w' := by
  cases h1 : validB u <;> cases h2 : validB v
  all_goals
    go_enter Try.func34, Try.ntmps34
    go_wp2_with (first | (go_at_call 18; refine (i_ValidWord _ _ (by assumption)).mono ?_; rintro e w' ⟨rfl, rfl⟩) | (go_at_call 57; refine (f_Compare _ _ _).mono ?_; rintro e w' ⟨rfl, rfl⟩))
    go_ret2
    exact ⟨ret_ii rfl rfl, rfl⟩
theorem walk_FnExactCompareWords (u v : ByteArray) (hu : u.size ≤ maxLen) (hv : v.size ≤ maxLen) (w : World) : Calls Try.prog 13 #[.string u, .string v] w fun e w' => e = .returned (.bool true) ∧ Below w.heap.size w w' := by
  have hu' : u.size ≤ 9223372036854775807 := by unfold maxLen at hu; omega
  have hv' : v.size ≤ 9223372036854775807 := by unfold maxLen at hv; omega
  by_cases hbig : 1048576 < u.size
  · go_enter Try.func13, Try.ntmps13
    go_wp2
    go_ret
    exact ⟨rfl, Below.refl _ _⟩
  by_cases hbig2 : 1048576 < v.size
  · go_enter Try.func13, Try.ntmps13
    go_wp2
    go_ret
    exact ⟨rfl, Below.refl _ _⟩
  go_enter Try.func13, Try.ntmps13
  go_wp2_with (first | (go_at_call 33; refine (s_CompareWords _ _ _ (by assumption) (by assumption)).mono ?_; rintro e w' ⟨rfl, rfl⟩) | (go_at_call 34; refine (i_CompareWords _ _ _ (by assumption) (by assumption)).mono ?_; rintro e w' ⟨rfl, rfl⟩))
  go_ret
  exact ⟨rfl, Below.refl _ _⟩
end Go.Proofs.Ytfhecnpndpkapaa

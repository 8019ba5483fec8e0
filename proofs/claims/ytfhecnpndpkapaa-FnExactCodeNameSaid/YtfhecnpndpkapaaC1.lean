/- Walks of CodeName, of the program and of the reference, and the law FnExactCodeName: both return the same name for every number. -/
import Derived.Test.YtfhecnpndpkapaaW1
namespace Go.Proofs.Ytfhecnpndpkapaa
open Go.ChangeShapes Go.WideShapes Go.RowKit
set_option linter.unusedVariables false
set_option maxHeartbeats 2000000

theorem s_l00In (n a b : Int) (w : World) : Calls Try.prog 40 #[.int .i64 n, .int .i64 a, .int .i64 b] w fun e w' => e = .returned (.bool (decide (a ≤ n) && decide (n ≤ b))) ∧ w = w' := by
  by_cases h1 : a ≤ n
  all_goals
    go_enter Try.func40, Try.ntmps40
    go_wp2
    go_ret
    exact ⟨ret_bool (by simp; omega), rfl⟩

def codeNm (n : Int) : ByteArray :=
  if n = 0 then ⟨#[111, 107]⟩ else if n = 1 then ⟨#[105, 110, 118, 97, 108, 105, 100]⟩ else if n = 2 then ⟨#[114, 97, 110, 103, 101]⟩ else
  if n = 3 then ⟨#[108, 105, 109, 105, 116]⟩ else if n = 4 then ⟨#[115, 116, 97, 116, 101]⟩ else if n = 5 then ⟨#[115, 121, 110, 116, 97, 120]⟩ else
  if n = 6 then ⟨#[110, 111, 116, 102, 111, 117, 110, 100]⟩ else if n = 7 then ⟨#[98, 117, 100, 103, 101, 116]⟩ else if n = 8 then ⟨#[112, 114, 111, 111, 102]⟩ else ByteArray.empty
theorem codeNm_out (n : Int) (h : n < 0 ∨ 8 < n) : codeNm n = ByteArray.empty := by
  unfold codeNm
  repeat (rw [if_neg (by omega)])
theorem ret_str {a b : ByteArray} (h : a = b) : Ending.returned (.string a) = .returned (.string b) := by rw [h]

theorem s_CodeName_out (n : Int) (w : World) (h : n < 0 ∨ 8 < n) : Calls Try.prog 15 #[.int .i64 n] w fun e w' => e = .returned (.string (codeNm n)) ∧ Below w.heap.size w w' := by
  have hb : (decide ((0:Int) ≤ n) && decide (n ≤ 8)) = false := by simp; omega
  have H := Lib.hid (codeNm_out n h)
  go_enter Try.func15, Try.ntmps15
  go_wp2_with (go_at_call 40; refine (s_l00In _ _ _ _).mono ?_; rintro e w' ⟨rfl, rfl⟩)
  go_ret
  exact ⟨ret_str H.out.symm, (by repeat (first | exact Below.refl _ _ | assumption | apply Below.drew | (refine Below.alloc ?_ (by simp) _) | (refine Below.setCell ?_ (by simp) _)))⟩

theorem s_CodeName_in (n : Int) (w : World) (h1 : 0 ≤ n) (h2 : n ≤ 8) : Calls Try.prog 15 #[.int .i64 n] w fun e w' => e = .returned (.string (codeNm n)) ∧ Below w.heap.size w w' := by
  have h : n = 0 ∨ n = 1 ∨ n = 2 ∨ n = 3 ∨ n = 4 ∨ n = 5 ∨ n = 6 ∨ n = 7 ∨ n = 8 := by omega
  clear h1 h2
  rcases h with h | h | h | h | h | h | h | h | h
  all_goals
    subst h
    go_enter Try.func15, Try.ntmps15
    go_wp2_with (go_at_call 40; refine (s_l00In _ _ _ _).mono ?_; rintro e w' ⟨rfl, rfl⟩)
    go_ret
    exact ⟨ret_str (by simp [codeNm]), (by repeat (first | exact Below.refl _ _ | assumption | apply Below.drew | (refine Below.alloc ?_ (by simp) _) | (refine Below.setCell ?_ (by simp) _)))⟩

theorem i_CodeName_out (n : Int) (w : World) (h : n < 0 ∨ 8 < n) : Calls Try.prog 16 #[.int .i64 n] w fun e w' => e = .returned (.string (codeNm n)) ∧ Below w.heap.size w w' := by
  have H := Lib.hid (codeNm_out n h)
  rcases h with h | h
  · go_enter Try.func16, Try.ntmps16
    go_wp2
    go_ret
    exact ⟨ret_str H.out.symm, (by repeat (first | exact Below.refl _ _ | assumption | apply Below.drew | (refine Below.alloc ?_ (by simp) _) | (refine Below.setCell ?_ (by simp) _)))⟩
  · have h0 : ¬ n < 0 := by omega
    have h9 : 9 ≤ n := by omega
    go_enter Try.func16, Try.ntmps16
    go_wp2
    go_ret
    exact ⟨ret_str H.out.symm, (by repeat (first | exact Below.refl _ _ | assumption | apply Below.drew | (refine Below.alloc ?_ (by simp) _) | (refine Below.setCell ?_ (by simp) _)))⟩

theorem i_CodeName_in (n : Int) (w : World) (h1 : 0 ≤ n) (h2 : n ≤ 8) : Calls Try.prog 16 #[.int .i64 n] w fun e w' => e = .returned (.string (codeNm n)) ∧ Below w.heap.size w w' := by
  have h : n = 0 ∨ n = 1 ∨ n = 2 ∨ n = 3 ∨ n = 4 ∨ n = 5 ∨ n = 6 ∨ n = 7 ∨ n = 8 := by omega
  clear h1 h2
  rcases h with h | h | h | h | h | h | h | h | h
  all_goals
    subst h
    go_enter Try.func16, Try.ntmps16
    go_wp2
    go_ret
    exact ⟨ret_str (by simp [codeNm]), (by repeat (first | exact Below.refl _ _ | assumption | apply Below.drew | (refine Below.alloc ?_ (by simp) _) | (refine Below.setCell ?_ (by simp) _)))⟩

theorem s_CodeName (n : Int) (w : World) : Calls Try.prog 15 #[.int .i64 n] w fun e w' => e = .returned (.string (codeNm n)) ∧ Below w.heap.size w w' := by
  by_cases h : n < 0 ∨ 8 < n
  · exact s_CodeName_out n w h
  · exact s_CodeName_in n w (by omega) (by omega)
theorem i_CodeName (n : Int) (w : World) : Calls Try.prog 16 #[.int .i64 n] w fun e w' => e = .returned (.string (codeNm n)) ∧ Below w.heap.size w w' := by
  by_cases h : n < 0 ∨ 8 < n
  · exact i_CodeName_out n w h
  · exact i_CodeName_in n w (by omega) (by omega)

theorem walk_FnExactCodeName (n : Int) (_ : (Lit.int .i64 n).wf = true) (w : World) : Calls Try.prog 4 #[.int .i64 n] w fun e w' => e = .returned (.bool true) ∧ Below w.heap.size w w' := by
  go_enter Try.func4, Try.ntmps4
  go_wp2_with (first | (go_at_call 15; refine (s_CodeName _ _).mono ?_; rintro e w' ⟨rfl, hb1⟩) | (go_at_call 16; refine (i_CodeName _ _).mono ?_; rintro e w' ⟨rfl, hb2⟩))
  go_ret
  exact ⟨rfl, hb1.trans (hb2.mono hb1.size)⟩
end Go.Proofs.Ytfhecnpndpkapaa

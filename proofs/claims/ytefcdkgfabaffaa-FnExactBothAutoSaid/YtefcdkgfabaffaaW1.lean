/- Walks of the small functions on letters and plain words: what isLetter, l01Ok and ValidWord return. -/
import Derived.Test.YtefcdkgfabaffaaProg
import Derived.WalkKit
import Derived.WalkSpells
import Derived.WalkLawsBesides
import Derived.Lib.Hide
import Derived.IntWalk
namespace Go.Proofs.Ytefcdkgfabaffaa
open Go.ChangeShapes Go.WideShapes Go.RowKit
set_option linter.unusedVariables false

theorem ret_bool {a b : Bool} (h : a = b) : Ending.returned (.bool a) = .returned (.bool b) := by rw [h]
theorem ret_int {k : IntKind} {a b : Int} (h : a = b) : Ending.returned (.int k a) = .returned (.int k b) := by rw [h]

def letB (c : Int) : Bool := decide (97 ≤ c) && decide (c ≤ 100)
theorem letB_t {c : Int} (h : letB c = true) : 97 ≤ c ∧ c ≤ 100 := by simpa [letB] using h
theorem letB_f {c : Int} (h : letB c = false) : c < 97 ∨ 100 < c := by
  simp [letB] at h
  by_cases hc : 97 ≤ c
  · exact .inr (h hc)
  · exact .inl (by omega)

def allL (l : List UInt8) : Bool := l.all fun c => letB (c.toNat : Int)
def validB (s : ByteArray) : Bool := allL s.data.toList && decide (s.size ≤ 2000)

theorem i_isLetter (c : Int) (w : World) : Calls Try.prog 127 #[.int .u8 c] w fun e w' => e = .returned (.bool (letB c)) ∧ w = w' := by
  by_cases h1 : 97 ≤ c
  all_goals
    go_enter Try.func127, Try.ntmps127
    go_wp2
    go_ret
    exact ⟨ret_bool (by simp [letB]; omega), rfl⟩

theorem take_snoc (s : ByteArray) (k : Nat) (h : k < s.size) : s.data.toList.take (k + 1) = s.data.toList.take k ++ [s[k]] := by
  rw [List.take_succ_eq_append_getElem (by simpa using h)]; rfl
theorem allL_snoc (s : ByteArray) (k : Nat) (h : k < s.size) : allL (s.data.toList.take (k + 1)) = (allL (s.data.toList.take k) && letB (s[k].toNat : Int)) := by
  rw [take_snoc s k h]; simp [allL]
theorem allL_of_not (s : ByteArray) (k : Nat) (h : k < s.size) (h' : letB (s[k].toNat : Int) = false) : allL s.data.toList = false := by
  simp only [allL, List.all_eq_false]
  exact ⟨s[k], by simp [ByteArray.getElem_eq_getElem_data], by simp [h']⟩
theorem allL_all (s : ByteArray) (h : allL (s.data.toList.take s.size) = true) : allL s.data.toList = true := by
  rwa [List.take_of_length_le (by simp)] at h

set_option maxHeartbeats 400000 in
theorem i_ValidWord (s : ByteArray) (w : World) (hs : s.size ≤ maxLen) : Calls Try.prog 76 #[.string s] w fun e w' => e = .returned (.bool (validB s)) ∧ w = w' := by
  unfold maxLen at hs
  go_enter Try.func76, Try.ntmps76
  go_wp2
  go_loop [3, 6] (fun _ i => ∃ k : Nat, k ≤ s.size ∧ i = .int .i64 k ∧ allL (s.data.toList.take k) = true) (fun _ i => s.size - (intOf i).toNat)
  case atStart => exact ⟨0, Nat.zero_le _, rfl, rfl⟩
  case round =>
    obtain ⟨k, hk, rfl, hall⟩ := hrel
    by_cases hlt : k < s.size
    · have hsn := allL_snoc s k hlt
      have hno := allL_of_not s k hlt
      have HA := Lib.hid hall
      have HS := Lib.hid hsn
      have HN := Lib.hid hno
      clear hall hsn hno
      cases hb : letB (s[k].toNat : Int)
      all_goals
        go_wp2_with (go_at_call 127; refine (i_isLetter _ _).mono ?_; rintro e w' ⟨rfl, rfl⟩)
      · go_ret
        exact ⟨ret_bool (by simp [validB, HN.out hb]), rfl⟩
      · go_round
        case rel => exact ⟨k + 1, by omega, by go_num, by rw [HS.out, HA.out, hb]; rfl⟩
        case measure => simp [intOf]; omega
    · have e : k = s.size := by omega
      subst e
      have hfin := allL_all s hall
      have HF := Lib.hid hfin
      clear hall hfin
      go_wp2
      go_ret
      exact ⟨ret_bool (by rw [validB, HF.out]; simp; omega), rfl⟩
end Go.Proofs.Ytefcdkgfabaffaa

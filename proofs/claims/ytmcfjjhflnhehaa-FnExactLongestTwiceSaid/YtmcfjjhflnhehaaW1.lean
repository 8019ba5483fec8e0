/- Walks of the small functions on letters and plain words: what isLetter, l01Ok and ValidWord return. -/
import Derived.Test.YtmcfjjhflnhehaaProg
import Derived.WalkKit
import Derived.WalkSpells
import Derived.WalkLawsBesides
import Derived.Lib.Hide
import Derived.IntWalk
namespace Go.Proofs.Ytmcfjjhflnhehaa
open Go.ChangeShapes Go.WideShapes Go.RowKit
set_option linter.unusedVariables false

theorem ret_bool {a b : Bool} (h : a = b) : Ending.returned (.bool a) = .returned (.bool b) := by rw [h]
theorem ret_int {k : IntKind} {a b : Int} (h : a = b) : Ending.returned (.int k a) = .returned (.int k b) := by rw [h]

def letB (c : Int) : Bool := decide (97 ≤ c) && decide (c ≤ 100)
theorem letB_t {c : Int} (h : letB c = true) : 97 ≤ c ∧ c ≤ 100 := by simpa [letB] using h
theorem letB_f {c : Int} (h : letB c = false) : c < 97 ∨ 100 < c := by
  simp [letB] at h
  by_cases hc : 97 ≤ c
  · exact .inr (h hc)
  · exact .inl (by omega)

def allL (l : List UInt8) : Bool := l.all fun c => letB (c.toNat : Int)
def validB (s : ByteArray) : Bool := allL s.data.toList && decide (s.size ≤ 2000)

theorem i_isLetter (c : Int) (w : World) : Calls Try.prog 71 #[.int .u8 c] w fun e w' => e = .returned (.bool (letB c)) ∧ w = w' := by
  by_cases h1 : 97 ≤ c
  all_goals
    go_enter Try.func71, Try.ntmps71
    go_wp2
    go_ret
    exact ⟨ret_bool (by simp [letB]; omega), rfl⟩

theorem take_snoc (s : ByteArray) (k : Nat) (h : k < s.size) : s.data.toList.take (k + 1) = s.data.toList.take k ++ [s[k]] := by
  rw [List.take_succ_eq_append_getElem (by simpa using h)]; rfl
theorem allL_snoc (s : ByteArray) (k : Nat) (h : k < s.size) : allL (s.data.toList.take (k + 1)) = (allL (s.data.toList.take k) && letB (s[k].toNat : Int)) := by
  rw [take_snoc s k h]; simp [allL]
theorem allL_of_not (s : ByteArray) (k : Nat) (h : k < s.size) (h' : letB (s[k].toNat : Int) = false) : allL s.data.toList = false := by
  simp only [allL, List.all_eq_false]
  exact ⟨s[k], by simp [ByteArray.getElem_eq_getElem_data], by simp [h']⟩
theorem allL_all (s : ByteArray) (h : allL (s.data.toList.take s.size) = true) : allL s.data.toList = true := by
  rwa [List.take_of_length_le (by simp)] at h

end Go.Proofs.Ytmcfjjhflnhehaa

/- Walks: CommonStart, LeastShift, of the program and of the reference, and their laws. -/
import Derived.Test.YtdighfjoechbkaaW2
namespace Go.Proofs.Ytdighfjoechbkaa
open Go.ChangeShapes Go.WideShapes Go.RowKit
set_option linter.unusedVariables false
set_option maxHeartbeats 2000000
set_option maxRecDepth 100000

/-- the code: 0 if all is well, 1 if not -/
def okc (b : Bool) : Int := if b then 0 else 1
def ifv (b : Bool) (x : Int) : Int := if b then x else 0
theorem ret_ii {a b c d : Int} (h : a = b) (h' : c = d) : Ending.returned (.tuple #[.int .i64 a, .int .i64 c]) = .returned (.tuple #[.int .i64 b, .int .i64 d]) := by rw [h, h']

theorem ret_si {a b : ByteArray} {c d : Int} (h : a = b) (h' : c = d) : Ending.returned (.tuple #[.string a, .int .i64 c]) = .returned (.tuple #[.string b, .int .i64 d]) := by rw [h, h']
def ifs (b : Bool) (s : ByteArray) : ByteArray := if b then s else ⟨#[]⟩
theorem ret_bi {a b : Bool} {c d : Int} (h : a = b) (h' : c = d) : Ending.returned (.tuple #[.bool a, .int .i64 c]) = .returned (.tuple #[.bool b, .int .i64 d]) := by rw [h, h']
def ifb (b : Bool) (s : Bool) : Bool := if b then s else false
theorem validB_le {s : ByteArray} (h : validB s = true) : s.size ≤ 2000 := by
  simp [validB] at h; exact h.2


def shf (s : ByteArray) (k : Nat) : ByteArray := s.extract k s.size ++ s.extract 0 k
theorem s_l01Shift (s : ByteArray) (k : Nat) (w : World) (hs : s.size ≤ maxLen) (hk : k ≤ s.size) : Calls Try.prog 68 #[.string s, .int .i64 k] w fun e w' => e = .returned (.string (shf s k)) ∧ Qt w w' := by
  unfold maxLen at hs
  go_enter Try.func68, Try.ntmps68
  go_wp2
  go_quiet (fail)
  go_wp2
  go_ret
  exact ⟨rfl, (Qt.refl _).drewN _⟩
/-- the place of the least shift among those by fewer than k places -/
def lsB (s : ByteArray) : Nat → Nat
  | 0 => 0
  | k + 1 => if Op.bytesLess (shf s k).toList (shf s (lsB s k)).toList = true then k else lsB s k
theorem lsB_le (s : ByteArray) : ∀ k, lsB s k ≤ k
  | 0 => by simp [lsB]
  | k + 1 => by
    have := lsB_le s k
    rw [lsB]
    split <;> omega
theorem lsB_yes (s : ByteArray) (k : Nat) (h : Op.bytesLess (shf s k).toList (shf s (lsB s k)).toList = true) : lsB s (k + 1) = k := by
  rw [lsB, if_pos h]
theorem lsB_no (s : ByteArray) (k : Nat) (h : Op.bytesLess (shf s k).toList (shf s (lsB s k)).toList = false) : lsB s (k + 1) = lsB s k := by
  rw [lsB, if_neg (by rw [h]; decide)]
theorem i_LeastShift (s : ByteArray) (w : World) (hs : s.size ≤ maxLen) : Calls Try.prog 57 #[.string s] w fun e w' => e = .returned (.tuple #[.int .i64 (ifv (validB s) (lsB s s.size : Nat)), .int .i64 (okc (validB s))]) ∧ Qt w w' := by
  have hs' : s.size ≤ 9223372036854775807 := by unfold maxLen at hs; omega
  cases h1 : validB s
  · go_enter Try.func57, Try.ntmps57
    go_wp2_with (go_at_call 60; refine (i_ValidWord _ _ (by assumption)).mono ?_; rintro e w' ⟨rfl, rfl⟩)
    go_ret2
    exact ⟨ret_ii rfl rfl, Qt.refl _⟩
  · go_enter Try.func57, Try.ntmps57
    go_wp2_with (go_at_call 60; refine (i_ValidWord _ _ (by assumption)).mono ?_; rintro e w' ⟨rfl, rfl⟩)
    go_loopw [4, 5, 11] (fun b _ i wr => Qt w wr ∧ ∃ k : Nat, k ≤ s.size ∧ i = .int .i64 k ∧ b = .int .i64 (lsB s k : Nat)) (fun _ _ i _ => s.size - (intOf i).toNat)
    case atStart => exact ⟨Qt.refl _, 0, by omega, rfl, rfl⟩
    case round =>
      obtain ⟨hq, k, hk, rfl, rfl⟩ := hrel
      have hbk := lsB_le s k
      have HY := Lib.hid (lsB_yes s k)
      have HN := Lib.hid (lsB_no s k)
      have HQ := Lib.hid hq
      have HE : Hid (k = s.size → lsB s k = lsB s s.size) := fun e => by rw [e]
      clear hq
      generalize lsB s k = b at *
      by_cases hlt : k < s.size
      · cases hb : Op.bytesLess (s.extract k s.size ++ s.extract 0 k).toList (s.extract b s.size ++ s.extract 0 b).toList
        · have HR := Lib.hid (HN.out hb)
          go_wp2
          go_quiet (fail)
          go_wp2
          go_roundw
          case rel => exact ⟨HQ.out.drewN _, k + 1, by omega, by go_num, by rw [HR.out]⟩
          case measure => simp [intOf]; omega
        · have HR := Lib.hid (HY.out hb)
          go_wp2
          go_quiet (fail)
          go_wp2
          go_roundw
          case rel => exact ⟨HQ.out.drewN _, k + 1, by omega, by go_num, by rw [HR.out]⟩
          case measure => simp [intOf]; omega
      · have HR := Lib.hid (HE.out (by omega))
        go_wp2
        go_ret2
        exact ⟨ret_ii (by rw [HR.out]; rfl) rfl, HQ.out⟩
theorem lsB_one (s : ByteArray) : lsB s 1 = 0 := by
  cases c : Op.bytesLess (shf s 0).toList (shf s (lsB s 0)).toList
  · exact lsB_no s 0 c
  · exact lsB_yes s 0 c
end Go.Proofs.Ytdighfjoechbkaa

/- Walks: CommonStart, LeastShift, of the program and of the reference, and their laws. -/
import Derived.Test.YtfhecnpndpkapaaW2
namespace Go.Proofs.Ytfhecnpndpkapaa
open Go.ChangeShapes Go.WideShapes Go.RowKit
set_option linter.unusedVariables false
set_option maxHeartbeats 2000000

/-- the code: 0 if all is well, 1 if not -/
def okc (b : Bool) : Int := if b then 0 else 1
def ifv (b : Bool) (x : Int) : Int := if b then x else 0
theorem ret_ii {a b c d : Int} (h : a = b) (h' : c = d) : Ending.returned (.tuple #[.int .i64 a, .int .i64 c]) = .returned (.tuple #[.int .i64 b, .int .i64 d]) := by rw [h, h']

theorem walk_FnExactValidWord (s : ByteArray) (hs : s.size ≤ maxLen) (w : World) : Calls Try.prog 5 #[.string s] w fun e w' => e = .returned (.bool true) ∧ Below w.heap.size w w' := by
  by_cases hbig : 1048576 < s.size
  · unfold maxLen at hs
    go_enter Try.func5, Try.ntmps5
    go_wp2
    go_ret
    exact ⟨rfl, (by repeat (first | exact Below.refl _ _ | assumption | apply Below.drew | (refine Below.alloc ?_ (by simp) _) | (refine Below.setCell ?_ (by simp) _)))⟩
  · have hs' : s.size ≤ 9223372036854775807 := by unfold maxLen at hs; omega
    go_enter Try.func5, Try.ntmps5
    go_wp2_with (first | (go_at_call 17; refine (s_ValidWord _ _ hs).mono ?_; rintro e w' ⟨rfl, rfl⟩) | (go_at_call 18; refine (i_ValidWord _ _ hs).mono ?_; rintro e w' ⟨rfl, rfl⟩))
    go_ret
    exact ⟨rfl, (by repeat (first | exact Below.refl _ _ | assumption | apply Below.drew | (refine Below.alloc ?_ (by simp) _) | (refine Below.setCell ?_ (by simp) _)))⟩

theorem s_CommonStart (u v : ByteArray) (w : World) (hu : u.size ≤ maxLen) (hv : v.size ≤ maxLen) : Calls Try.prog 23 #[.string u, .string v] w fun e w' => e = .returned (.tuple #[.int .i64 (ifv (validB u && validB v) (cst u.data.toList v.data.toList : Nat)), .int .i64 (okc (validB u && validB v))]) ∧ Qt w w' := by
  cases h1 : validB u <;> cases h2 : validB v
  all_goals
    go_enter Try.func23, Try.ntmps23
    go_wp2_with (first | (go_at_call 41; refine (s_l01Ok _ _ (by assumption)).mono ?_; rintro e w' ⟨rfl, rfl⟩) | (go_at_call 46; refine (s_l01Start _ _ _ hu hv).mono ?_; rintro e w' ⟨rfl, hq⟩))
    go_ret2
    exact ⟨ret_ii rfl rfl, by first | exact Qt.refl _ | assumption⟩
theorem i_CommonStart (u v : ByteArray) (w : World) (hu : u.size ≤ maxLen) (hv : v.size ≤ maxLen) : Calls Try.prog 24 #[.string u, .string v] w fun e w' => e = .returned (.tuple #[.int .i64 (ifv (validB u && validB v) (cst u.data.toList v.data.toList : Nat)), .int .i64 (okc (validB u && validB v))]) ∧ Qt w w' := by
  cases h1 : validB u <;> cases h2 : validB v
  all_goals
    go_enter Try.func24, Try.ntmps24
    go_wp2_with (first | (go_at_call 18; refine (i_ValidWord _ _ (by assumption)).mono ?_; rintro e w' ⟨rfl, rfl⟩) | (go_at_call 47; refine (i_commonStart _ _ _ hu hv).mono ?_; rintro e w' ⟨rfl, hq⟩))
    go_ret2
    exact ⟨ret_ii rfl rfl, by first | exact Qt.refl _ | assumption⟩
theorem walk_FnExactCommonStart (u v : ByteArray) (hu : u.size ≤ maxLen) (hv : v.size ≤ maxLen) (w : World) : Calls Try.prog 8 #[.string u, .string v] w fun e w' => e = .returned (.bool true) ∧ Below w.heap.size w w' := by
  have hu' : u.size ≤ 9223372036854775807 := by unfold maxLen at hu; omega
  have hv' : v.size ≤ 9223372036854775807 := by unfold maxLen at hv; omega
  by_cases hbig : 1048576 < u.size
  · go_enter Try.func8, Try.ntmps8
    go_wp2
    go_ret
    exact ⟨rfl, (by repeat (first | exact Below.refl _ _ | assumption | apply Below.drew | (refine Below.alloc ?_ (by simp) _) | (refine Below.setCell ?_ (by simp) _)))⟩
  by_cases hbig2 : 1048576 < v.size
  · go_enter Try.func8, Try.ntmps8
    go_wp2
    go_ret
    exact ⟨rfl, (by repeat (first | exact Below.refl _ _ | assumption | apply Below.drew | (refine Below.alloc ?_ (by simp) _) | (refine Below.setCell ?_ (by simp) _)))⟩
  go_enter Try.func8, Try.ntmps8
  go_wp2_with (first | (go_at_call 23; refine (s_CommonStart _ _ _ (by assumption) (by assumption)).mono ?_; rintro e w' ⟨rfl, hq1⟩) | (go_at_call 24; refine (i_CommonStart _ _ _ (by assumption) (by assumption)).mono ?_; rintro e w' ⟨rfl, hq2⟩))
  go_ret
  exact ⟨rfl, (hq1.trans hq2).below _⟩

def shf (s : ByteArray) (k : Nat) : ByteArray := s.extract k s.size ++ s.extract 0 k
theorem s_l01Shift (s : ByteArray) (k : Nat) (w : World) (hs : s.size ≤ maxLen) (hk : k ≤ s.size) : Calls Try.prog 45 #[.string s, .int .i64 k] w fun e w' => e = .returned (.string (shf s k)) ∧ Qt w w' := by
  unfold maxLen at hs
  go_enter Try.func45, Try.ntmps45
  go_wp2
  go_quiet (fail)
  go_wp2
  go_ret
  exact ⟨rfl, (Qt.refl _).drewN _⟩
/-- the place of the least shift among those by fewer than k places -/
def lsB (s : ByteArray) : Nat → Nat
  | 0 => 0
  | k + 1 => if Op.bytesLess (shf s k).toList (shf s (lsB s k)).toList = true then k else lsB s k
theorem lsB_le (s : ByteArray) : ∀ k, lsB s k ≤ k
  | 0 => by simp [lsB]
  | k + 1 => by
    have := lsB_le s k
    rw [lsB]
    split <;> omega
theorem lsB_yes (s : ByteArray) (k : Nat) (h : Op.bytesLess (shf s k).toList (shf s (lsB s k)).toList = true) : lsB s (k + 1) = k := by
  rw [lsB, if_pos h]
theorem lsB_no (s : ByteArray) (k : Nat) (h : Op.bytesLess (shf s k).toList (shf s (lsB s k)).toList = false) : lsB s (k + 1) = lsB s k := by
  rw [lsB, if_neg (by rw [h]; decide)]
theorem i_LeastShift (s : ByteArray) (w : World) (hs : s.size ≤ maxLen) : Calls Try.prog 22 #[.string s] w fun e w' => e = .returned (.tuple #[.int .i64 (ifv (validB s) (lsB s s.size : Nat)), .int .i64 (okc (validB s))]) ∧ Qt w w' := by
  have hs' : s.size ≤ 9223372036854775807 := by unfold maxLen at hs; omega
  cases h1 : validB s
  · go_enter Try.func22, Try.ntmps22
    go_wp2_with (go_at_call 18; refine (i_ValidWord _ _ (by assumption)).mono ?_; rintro e w' ⟨rfl, rfl⟩)
    go_ret2
    exact ⟨ret_ii rfl rfl, Qt.refl _⟩
  · go_enter Try.func22, Try.ntmps22
    go_wp2_with (go_at_call 18; refine (i_ValidWord _ _ (by assumption)).mono ?_; rintro e w' ⟨rfl, rfl⟩)
    go_loopw [4, 5, 11] (fun b _ i wr => Qt w wr ∧ ∃ k : Nat, k ≤ s.size ∧ i = .int .i64 k ∧ b = .int .i64 (lsB s k : Nat)) (fun _ _ i _ => s.size - (intOf i).toNat)
    case atStart => exact ⟨Qt.refl _, 0, by omega, rfl, rfl⟩
    case round =>
      obtain ⟨hq, k, hk, rfl, rfl⟩ := hrel
      have hbk := lsB_le s k
      have HY := Lib.hid (lsB_yes s k)
      have HN := Lib.hid (lsB_no s k)
      have HQ := Lib.hid hq
      have HE : Hid (k = s.size → lsB s k = lsB s s.size) := fun e => by rw [e]
      clear hq
      generalize lsB s k = b at *
      by_cases hlt : k < s.size
      · cases hb : Op.bytesLess (s.extract k s.size ++ s.extract 0 k).toList (s.extract b s.size ++ s.extract 0 b).toList
        · have HR := Lib.hid (HN.out hb)
          go_wp2
          go_quiet (fail)
          go_wp2
          go_roundw
          case rel => exact ⟨HQ.out.drewN _, k + 1, by omega, by go_num, by rw [HR.out]⟩
          case measure => simp [intOf]; omega
        · have HR := Lib.hid (HY.out hb)
          go_wp2
          go_quiet (fail)
          go_wp2
          go_roundw
          case rel => exact ⟨HQ.out.drewN _, k + 1, by omega, by go_num, by rw [HR.out]⟩
          case measure => simp [intOf]; omega
      · have HR := Lib.hid (HE.out (by omega))
        go_wp2
        go_ret2
        exact ⟨ret_ii (by rw [HR.out]; rfl) rfl, HQ.out⟩
theorem lsB_one (s : ByteArray) : lsB s 1 = 0 := by
  cases c : Op.bytesLess (shf s 0).toList (shf s (lsB s 0)).toList
  · exact lsB_no s 0 c
  · exact lsB_yes s 0 c
theorem s_LeastShift (s : ByteArray) (w : World) (hs : s.size ≤ maxLen) : Calls Try.prog 21 #[.string s] w fun e w' => e = .returned (.tuple #[.int .i64 (ifv (validB s) (lsB s s.size : Nat)), .int .i64 (okc (validB s))]) ∧ Qt w w' := by
  have hs' : s.size ≤ 9223372036854775807 := by unfold maxLen at hs; omega
  cases h1 : validB s
  · go_enter Try.func21, Try.ntmps21
    go_wp2_with (go_at_call 41; refine (s_l01Ok _ _ (by assumption)).mono ?_; rintro e w' ⟨rfl, rfl⟩)
    go_ret2
    exact ⟨ret_ii rfl rfl, Qt.refl _⟩
  · have h0 := lsB_one s
    have H0 := Lib.hid h0
    clear h0
    go_enter Try.func21, Try.ntmps21
    go_wp2_with (go_at_call 41; refine (s_l01Ok _ _ (by assumption)).mono ?_; rintro e w' ⟨rfl, rfl⟩)
    go_loopw [4, 5] (fun b i wr => Qt w wr ∧ ∃ k : Nat, 1 ≤ k ∧ (k ≤ s.size ∨ k = 1) ∧ i = .int .i64 k ∧ b = .int .i64 (lsB s k : Nat)) (fun _ i _ => s.size + 1 - (intOf i).toNat)
    case atStart => exact ⟨Qt.refl _, 1, by omega, by omega, rfl, by rw [H0.out]; rfl⟩
    case round =>
      obtain ⟨hq, k, hk1, hk, rfl, rfl⟩ := hrel
      have hbk := lsB_le s k
      have HY := Lib.hid (lsB_yes s k)
      have HN := Lib.hid (lsB_no s k)
      have HQ := Lib.hid hq
      have HE : Hid (s.size ≤ k → lsB s k = lsB s s.size) := fun e => by
        by_cases h : k = s.size
        · rw [h]
        · have e1 : k = 1 := by omega
          have e0 : s.size = 0 := by omega
          rw [e1, e0, H0.out]; rfl
      clear hq
      generalize lsB s k = b at *
      by_cases hlt : k < s.size
      · clear hk
        cases hb : Op.bytesLess (shf s k).toList (shf s b).toList
        · have HR := Lib.hid (HN.out hb)
          go_wp2_with (go_at_call 45; refine (s_l01Shift _ _ _ (by assumption) (by omega)).mono ?_; rintro e w' ⟨rfl, hq⟩)
          go_roundw
          case rel => exact ⟨(HQ.out.trans (by assumption)).trans (by assumption), k + 1, by omega, by omega, by go_num, by rw [HR.out]⟩
          case measure => simp [intOf]; omega
        · have HR := Lib.hid (HY.out hb)
          go_wp2_with (go_at_call 45; refine (s_l01Shift _ _ _ (by assumption) (by omega)).mono ?_; rintro e w' ⟨rfl, hq⟩)
          go_roundw
          case rel => exact ⟨(HQ.out.trans (by assumption)).trans (by assumption), k + 1, by omega, by omega, by go_num, by rw [HR.out]⟩
          case measure => simp [intOf]; omega
      · have HR := Lib.hid (HE.out (by omega))
        clear hk
        go_wp2
        go_ret2
        exact ⟨ret_ii (by rw [HR.out]; rfl) rfl, HQ.out⟩
theorem walk_FnExactLeastShift (s : ByteArray) (hs : s.size ≤ maxLen) (w : World) : Calls Try.prog 7 #[.string s] w fun e w' => e = .returned (.bool true) ∧ Below w.heap.size w w' := by
  have hs' : s.size ≤ 9223372036854775807 := by unfold maxLen at hs; omega
  by_cases hbig : 1048576 < s.size
  · go_enter Try.func7, Try.ntmps7
    go_wp2
    go_ret
    exact ⟨rfl, (by repeat (first | exact Below.refl _ _ | assumption | apply Below.drew | (refine Below.alloc ?_ (by simp) _) | (refine Below.setCell ?_ (by simp) _)))⟩
  · go_enter Try.func7, Try.ntmps7
    go_wp2_with (first | (go_at_call 21; refine (s_LeastShift _ _ hs).mono ?_; rintro e w' ⟨rfl, hq1⟩) | (go_at_call 22; refine (i_LeastShift _ _ hs).mono ?_; rintro e w' ⟨rfl, hq2⟩))
    go_ret
    exact ⟨rfl, (hq1.trans hq2).below _⟩
end Go.Proofs.Ytfhecnpndpkapaa

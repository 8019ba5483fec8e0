/- turned, TurnWord and IsPalindrome of the program, and their laws. -/
import Derived.Test.YtdighfjoechbkaaB1
import Derived.Lib.ConvBytes
namespace Go.Proofs.Ytdighfjoechbkaa
open Go.ChangeShapes Go.WideShapes Go.RowKit
set_option linter.unusedVariables false
set_option linter.unusedSimpArgs false
set_option maxHeartbeats 2000000
set_option maxRecDepth 100000
theorem conv_bytes (s : ByteArray) (w : World) : ∃ cap w1, (convert 9 52 (.string s)).run Try.prog w = .ok (.slice (some ⟨w.heap.size, 0, none⟩) s.size cap) w1 ∧ Rw w1 w.heap.size (u8s s.data.toList) ∧ Below w.heap.size w w1 ∧ w1.heap.size = w.heap.size + 1 := by
  refine ⟨_, _, Lib.run_convert_string_bytes w 9 52 5 s Try.underlying9 Try.underlying52 Try.underlying5, ⟨by rw [Lib.bytesWorld_size]; omega, ?_, ?_⟩, ⟨?_, ?_, ?_, ?_, ?_⟩, Lib.bytesWorld_size _ _ _⟩
  · intro j hj
    have hj' : j < s.size := by simpa [u8s] using hj
    rw [Lib.bytesWorld_cell _ _ _ _ hj']
    have : j < s.data.toList.length := by simpa using hj'
    simp [u8s, List.getD, List.getElem?_eq_getElem this]
  · intro j hj
    have hj' : j < s.size := by simpa [u8s] using hj
    unfold World.frozen?
    simp only [Lib.bytesWorld_at_new]
    have : s.size ≤ (Lib.bytesCells w 5 s).size := by
      simp [Lib.bytesCells]
    simp; omega
  · unfold Lib.bytesWorld World.freeze; split <;> rfl
  · unfold Lib.bytesWorld World.freeze; split <;> rfl
  · unfold Lib.bytesWorld World.freeze; split <;> rfl
  · rw [Lib.bytesWorld_size]; omega
  · intro k hk
    exact Lib.bytesWorld_at_old w _ s k hk
theorem i_turned (s : ByteArray) (w : World) (hs : s.size ≤ 1048576) : Calls Try.prog 88 #[.string s] w fun e w' => e = .returned (.string (revS s)) ∧ Below w.heap.size w w' := by
  have hs' : s.size ≤ 9223372036854775807 := by omega
  obtain ⟨cap, w1, hcv, hrw, hb, hsz⟩ := conv_bytes s w
  have HR := Lib.hid hrw
  have HB := Lib.hid hb
  have HS := Lib.hid hsz
  clear hrw hb hsz
  go_enter Try.func88, Try.ntmps88
  go_wp2_with fail
  have hrw := HR.out
  have e0 : u8s s.data.toList = (s.data.toList.map fun b : UInt8 => (b.toNat : Int)).map (Value.int .u8) := by simp [u8s]
  rw [e0] at hrw
  refine (f_Reverse_byte _ _ _ _ _ (by simp) (by simp; omega) hrw).mono ?_
  rintro e w2 ⟨rfl, hr2, hg2⟩
  have e1 : ((s.data.toList.map fun b : UInt8 => (b.toNat : Int)).reverse.map (Value.int .u8)) = u8s s.data.toList.reverse := by simp [u8s]
  rw [e1] at hr2
  have hc2 := byt_conv (n := s.size) (cap := cap) (by simp) hr2
  have HR2 := Lib.hid hr2
  have HG2 := Lib.hid hg2
  clear hr2 hg2 e0 e1 hrw
  go_wp2
  go_ret
  exact ⟨rfl, HB.out.grown HG2.out (by rw [HS.out]; omega) (fun k hk => by injection hk; omega)⟩
theorem i_TurnWord (s : ByteArray) (w : World) (hs : s.size ≤ maxLen) : Calls Try.prog 55 #[.string s] w fun e w' => e = .returned (.tuple #[.string (ifs (validB s) (revS s)), .int .i64 (okc (validB s))]) ∧ Below w.heap.size w w' := by
  have hs' : s.size ≤ 9223372036854775807 := by unfold maxLen at hs; omega
  cases h1 : validB s
  · go_enter Try.func55, Try.ntmps55
    go_wp2_with (go_at_call 60; refine (i_ValidWord _ _ (by assumption)).mono ?_; rintro e w' ⟨rfl, rfl⟩)
    go_ret2
    exact ⟨ret_si rfl rfl, Below.refl _ _⟩
  · have hle := validB_le h1
    go_enter Try.func55, Try.ntmps55
    go_wp2_with (first | (go_at_call 60; refine (i_ValidWord _ _ (by assumption)).mono ?_; rintro e w' ⟨rfl, rfl⟩) | (go_at_call 88; refine (i_turned _ _ (by omega)).mono ?_; rintro e w' ⟨rfl, hb⟩))
    go_ret2
    exact ⟨ret_si rfl rfl, hb⟩
theorem i_IsPalindrome (s : ByteArray) (w : World) (hs : s.size ≤ maxLen) : Calls Try.prog 56 #[.string s] w fun e w' => e = .returned (.tuple #[.bool (ifb (validB s) ((revS s).toList == s.toList)), .int .i64 (okc (validB s))]) ∧ Below w.heap.size w w' := by
  have hs' : s.size ≤ 9223372036854775807 := by unfold maxLen at hs; omega
  cases h1 : validB s
  · go_enter Try.func56, Try.ntmps56
    go_wp2_with (go_at_call 60; refine (i_ValidWord _ _ (by assumption)).mono ?_; rintro e w' ⟨rfl, rfl⟩)
    go_ret2
    exact ⟨ret_bi rfl rfl, Below.refl _ _⟩
  · have hle := validB_le h1
    go_enter Try.func56, Try.ntmps56
    go_wp2_with (first | (go_at_call 60; refine (i_ValidWord _ _ (by assumption)).mono ?_; rintro e w' ⟨rfl, rfl⟩) | (go_at_call 88; refine (i_turned _ _ (by omega)).mono ?_; rintro e w' ⟨rfl, hb⟩))
    go_ret2
    exact ⟨ret_bi rfl rfl, hb⟩
end Go.Proofs.Ytdighfjoechbkaa

/- isPart and the closures of SortParts. -/
import Derived.Test.YtecmnebppngcbaaZM
namespace Go.Proofs.Ytecmnebppngcbaa
open Go.ChangeShapes Go.WideShapes Go.RowKit
set_option linter.unusedVariables false
set_option linter.unusedSimpArgs false
set_option maxHeartbeats 4000000
set_option maxRecDepth 100000
theorem i_isPart0 (base bw cap : Nat) (a : Option Addr) (l : List Ru) (i : Int) (W : World) (hok : gOk l = true) (hw : WvR base W bw l (.slice a l.length cap)) (h0 : 0 ≤ i) (h1 : i ≤ (wd l).length) (h30 : (wd l).length ≤ 30) :
    Calls Try.prog 16 #[.pointer (some ⟨bw, 0, none⟩), .int .i64 i, .int .i64 0] W fun e W' => e = .returned (.bool true) ∧ Below W.heap.size W W' := by
  have HL := Lib.hid (fun W hw => i_length base bw cap a l W hok hw)
  have HW := Lib.hid hw
  obtain ⟨n, hn⟩ : ∃ n, n = (wd l).length := ⟨_, rfl⟩
  rw [← hn] at HL h1 h30
  have k1 : IntKind.i64.wrap ((n : Int) - i) = n - i := by rw [IntKind.wrap_i64]; omega
  clear hn hw
  go_enter Try.func16, Try.ntmps16
  go_wp2_with fail
  refine (HL.out _ HW.out).mono ?_
  rintro e W2 ⟨rfl, hb2⟩
  have HB := Lib.hid hb2
  have HW2 := Lib.hid (HW.out.bel hb2)
  clear hb2 HW
  go_wp2_with fail
  have hr1 : (decide ((0 : Int) ≤ i) && decide (i ≤ (n : Int))) = true := by simp [h0, h1]
  have hr2 : (decide ((0 : Int) ≤ 0) && decide (0 ≤ (n : Int) - i)) = true := by simp; omega
  have HR1 := Lib.hid (fun w => i_within_r i 0 n true hr1 w)
  have HR2 := Lib.hid (fun w => i_within_r 0 0 ((n : Int) - i) true hr2 w)
  clear hr1 hr2
  refine (HR1.out _).mono ?_
  rintro e W3 ⟨rfl, rfl⟩
  go_wp2_with fail
  refine (HL.out _ HW2.out).mono ?_
  rintro e W4 ⟨rfl, hb4⟩
  have HB4 := Lib.hid (HB.out.trans (hb4.mono HB.out.size))
  clear hb4 HW2 HB HL
  go_wp2_with fail
  refine (HR2.out _).mono ?_
  rintro e W5 ⟨rfl, rfl⟩
  go_wp2
  go_ret
  exact ⟨rfl, HB4.out⟩
theorem c_inPart (base b3 bw cap : Nat) (a : Option Addr) (l : List Ru) (i : Int) (W : World) (hok : gOk l = true) (hw : WvR base W bw l (.slice a l.length cap)) (h30 : (wd l).length ≤ 30)
    (hi : 0 ≤ i) (hin : i ≤ (wd l).length) (h3 : W.cell? ⟨b3, 0, none⟩ = some (.pointer (some ⟨bw, 0, none⟩))) :
    Calls Try.prog 15 #[.int .i64 i, .pointer (some ⟨b3, 0, none⟩)] W fun e W' => e = .returned (.bool false) ∧ Below W.heap.size W W' := by
  have HC := Lib.hid (i_isPart0 base bw cap a l i W hok hw hi hin h30)
  clear hw hin
  go_enter Try.func15, Try.ntmps15
  go_wp2_with fail
  refine HC.out.mono ?_
  rintro e W2 ⟨rfl, hb2⟩
  have HB := Lib.hid hb2
  clear hb2 HC
  go_wp2
  go_ret
  exact ⟨rfl, HB.out⟩
theorem c_less (base b3 bw cap : Nat) (a : Option Addr) (l : List Ru) (i j : Int) (W : World) (hok : gOk l = true) (hw : WvR base W bw l (.slice a l.length cap)) (hl : letC (wd l)) (h30 : (wd l).length ≤ 30)
    (hi : 0 ≤ i) (hj : 0 ≤ j) (hin : i ≤ (wd l).length) (hjn : j ≤ (wd l).length) (h3 : W.cell? ⟨b3, 0, none⟩ = some (.pointer (some ⟨bw, 0, none⟩))) :
    Calls Try.prog 19 #[.int .i64 i, .int .i64 j, .pointer (some ⟨b3, 0, none⟩)] W fun e W' => e = .returned (.int .i64 (cmpB (sfx l i) (sfx l j))) ∧ Below W.heap.size W W' := by
  have HC := Lib.hid (i_compare base bw cap a l i j W hok hw hl h30 hi hj hin hjn)
  clear hw hl hin hjn
  generalize cmpB (sfx l i) (sfx l j) = z at *
  go_enter Try.func19, Try.ntmps19
  go_wp2_with fail
  refine HC.out.mono ?_
  rintro e W2 ⟨rfl, hb2⟩
  have HB := Lib.hid hb2
  clear hb2 HC
  go_wp2
  go_ret
  exact ⟨rfl, HB.out⟩
end Go.Proofs.Ytecmnebppngcbaa

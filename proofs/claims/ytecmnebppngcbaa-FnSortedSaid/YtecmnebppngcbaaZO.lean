/- IndexFunc, ContainsFunc, where the function holds of none. -/
import Derived.Test.YtecmnebppngcbaaZN
namespace Go.Proofs.Ytecmnebppngcbaa
open Go.ChangeShapes Go.WideShapes Go.RowKit
set_option linter.unusedVariables false
set_option linter.unusedSimpArgs false
set_option maxHeartbeats 4000000
set_option maxRecDepth 100000
theorem f_indexNone (g cap n : Nat) (ps : List Int) (F : Nat) (C : Array Value) (W : World) (hn : n ≤ 1048576) (hl : ps.length = n) (hps : ∀ k, k < n → W.cell? ⟨g, k, none⟩ = some (.int .i64 (ps.getD k 0)))
    (eF : ∀ args w, (callFunc F args).run Try.prog w = .ok (.enter F args) w)
    (hC : ∀ w' x, Below W.heap.size W w' → x ∈ ps → Calls Try.prog F (#[.int .i64 x] ++ C) w' fun e w2 => e = .returned (.bool false) ∧ Below w'.heap.size w' w2) :
    Calls Try.prog 34 #[.slice (some ⟨g, 0, none⟩) n cap, .func (.func F) #[] C] W fun e W' => e = .returned (.int .i64 (-1)) ∧ Below W.heap.size W W' := by
  have HC := Lib.hid hC
  have HPS := Lib.hid hps
  have HL := Lib.hid hl
  clear hC hps hl
  go_enter Try.func34, Try.ntmps34
  go_wp2
  go_loopw [8] (fun x wr => ∃ k : Nat, x = .int .i64 k ∧ k ≤ n ∧ Below W.heap.size W wr) (fun x _ => n - (intOf x).toNat)
  case atStart => exact ⟨0, rfl, by omega, Below.refl _ _⟩
  case round =>
    obtain ⟨k, rfl, hk, hb⟩ := hrel
    have HB := Lib.hid hb
    clear hb
    by_cases hlt : k < n
    · have hkI : (k : Int) < n := by omega
      have c0 := cell_later HB.out (HPS.out k hlt)
      have HCX := Lib.hid (HC.out wr (ps.getD k 0) HB.out (getD_mem (by rw [HL.out]; exact hlt)))
      generalize ps.getD k 0 = x at *
      go_wp2_with fail
      refine HCX.out.mono ?_
      rintro e w2 ⟨rfl, hb2⟩
      have HB2 := Lib.hid (HB.out.trans (hb2.mono HB.out.size))
      clear hb2 HCX HB c0
      go_wp2
      exact ⟨⟨k + 1, by simp, by omega, HB2.out⟩, by simp only [intOf]; omega⟩
    · have hkI : ¬ (k : Int) < n := by omega
      go_wp2
      go_ret
      exact ⟨rfl, HB.out⟩
theorem f_containsNone (g cap n : Nat) (ps : List Int) (F : Nat) (C : Array Value) (W : World) (hn : n ≤ 1048576) (hl : ps.length = n) (hps : ∀ k, k < n → W.cell? ⟨g, k, none⟩ = some (.int .i64 (ps.getD k 0)))
    (eF : ∀ args w, (callFunc F args).run Try.prog w = .ok (.enter F args) w)
    (hC : ∀ w' x, Below W.heap.size W w' → x ∈ ps → Calls Try.prog F (#[.int .i64 x] ++ C) w' fun e w2 => e = .returned (.bool false) ∧ Below w'.heap.size w' w2) :
    Calls Try.prog 14 #[.slice (some ⟨g, 0, none⟩) n cap, .func (.func F) #[] C] W fun e W' => e = .returned (.bool false) ∧ Below W.heap.size W W' := by
  have HI := Lib.hid (f_indexNone g cap n ps F C W hn hl hps eF hC)
  clear hC hps hl eF
  go_enter Try.func14, Try.ntmps14
  go_wp2_with fail
  refine HI.out.mono ?_
  rintro e w2 ⟨rfl, hb⟩
  have HB := Lib.hid hb
  clear hb HI
  go_wp2
  go_ret
  exact ⟨rfl, HB.out⟩
end Go.Proofs.Ytecmnebppngcbaa

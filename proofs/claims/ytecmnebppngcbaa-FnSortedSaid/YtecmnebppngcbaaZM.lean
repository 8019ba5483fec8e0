/- stableCmpFunc, SortStableFunc, of short rows. -/
import Derived.Test.YtecmnebppngcbaaZL
namespace Go.Proofs.Ytecmnebppngcbaa
open Go.ChangeShapes Go.WideShapes Go.RowKit
set_option linter.unusedVariables false
set_option linter.unusedSimpArgs false
set_option maxHeartbeats 4000000
set_option maxRecDepth 100000
theorem f_stable (W0 : World) (g cap n : Nat) (d0 : List Int) (F : Nat) (C : Array Value) (l : List Ru) (W : World) (hn : n < 20) (hS : SrtR W0 g cap n d0 d0 W)
    (eF : ∀ args w, (callFunc F args).run Try.prog w = .ok (.enter F args) w)
    (hC : ∀ w' x y, Below W0.heap.size W0 w' → x ∈ d0 → y ∈ d0 → Calls Try.prog F (#[.int .i64 x, .int .i64 y] ++ C) w' fun e w2 => e = .returned (.int .i64 (cmpB (sfx l x) (sfx l y))) ∧ Below w'.heap.size w' w2) :
    Calls Try.prog 36 #[.slice (some ⟨g, 0, none⟩) n cap, .int .i64 n, .func (.func F) #[] C] W fun e W' => e = .returned (.tuple #[]) ∧ ∃ d, ordU l d n ∧ SrtR W0 g cap n d0 d W' := by
  have HI := Lib.hid (f_insert W0 g cap n d0 F C l W (by omega) hS eF hC)
  have h1 : ¬ (20 : Int) ≤ n := by omega
  have h2 : ¬ (20 : Int) < n := by omega
  clear hS hC eF
  go_enter Try.func36, Try.ntmps36
  go_wp2_with fail
  go_loopw [7, 8] (fun x y wr => x = .int .i64 0 ∧ y = .int .i64 20 ∧ wr = W) (fun _ _ _ => 0)
  case atStart => exact ⟨rfl, rfl, rfl⟩
  case round =>
    obtain ⟨rfl, rfl, rfl⟩ := hrel
    go_wp2_with fail
    refine HI.out.mono ?_
    rintro e w2 ⟨rfl, d, hd, hs⟩
    have HD := Lib.hid (And.intro hd hs)
    clear hd hs HI
    go_wp2_with fail
    go_loopw [6] (fun x wr => x = .int .i64 20 ∧ wr = w2) (fun _ _ => 0)
    case atStart => exact ⟨rfl, rfl⟩
    case round =>
      obtain ⟨rfl, rfl⟩ := hrel
      go_wp2
      go_end0
      exact ⟨rfl, d, HD.out.1, HD.out.2⟩
theorem f_sortStable (W0 : World) (g cap n : Nat) (d0 : List Int) (F : Nat) (C : Array Value) (l : List Ru) (W : World) (hn : n < 20) (hS : SrtR W0 g cap n d0 d0 W)
    (eF : ∀ args w, (callFunc F args).run Try.prog w = .ok (.enter F args) w)
    (hC : ∀ w' x y, Below W0.heap.size W0 w' → x ∈ d0 → y ∈ d0 → Calls Try.prog F (#[.int .i64 x, .int .i64 y] ++ C) w' fun e w2 => e = .returned (.int .i64 (cmpB (sfx l x) (sfx l y))) ∧ Below w'.heap.size w' w2) :
    Calls Try.prog 18 #[.slice (some ⟨g, 0, none⟩) n cap, .func (.func F) #[] C] W fun e W' => e = .returned (.tuple #[]) ∧ ∃ d, ordU l d n ∧ SrtR W0 g cap n d0 d W' := by
  have HI := Lib.hid (f_stable W0 g cap n d0 F C l W hn hS eF hC)
  clear hS hC eF
  go_enter Try.func18, Try.ntmps18
  go_wp2_with fail
  refine HI.out.mono ?_
  rintro e w2 ⟨rfl, d, hd, hs⟩
  have HD := Lib.hid (And.intro hd hs)
  clear hd hs HI
  go_wp2
  go_end0
  exact ⟨rfl, d, HD.out.1, HD.out.2⟩
end Go.Proofs.Ytecmnebppngcbaa

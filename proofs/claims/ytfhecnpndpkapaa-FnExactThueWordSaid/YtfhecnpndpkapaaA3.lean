/- BordersOf, of the program and of the reference, and its law. -/
import Derived.Test.YtfhecnpndpkapaaA2
namespace Go.Proofs.Ytfhecnpndpkapaa
open Go.ChangeShapes Go.WideShapes Go.RowKit
set_option linter.unusedVariables false
set_option linter.unusedSimpArgs false
set_option maxHeartbeats 2000000

theorem validB_le {s : ByteArray} (h : validB s = true) : s.size ≤ 2000 := by
  simp [validB] at h; exact h.2
def ifl (b : Bool) (l : List Int) : List Int := if b then l else []
/-- a slice of int64 of the call's own -/
def Own64 (w w' : World) (v : Value) (l : List Int) : Prop := w'.ownsRow w.heap.size 2 1 v l.length (l.map (Value.int .i64)) ∧ Below w.heap.size w w'
theorem own64_nil {w w' : World} (hb : Below w.heap.size w w') : Own64 w w' (.slice none 0 0) [] := ⟨World.ownsRow_nil _ _ _ _, hb⟩
theorem own64_empty (w : World) : Own64 w (w.alloc (.cells #[] 2)) (.slice (some ⟨w.heap.size, 0, none⟩) 0 0) [] :=
  ⟨World.ownsRow_made w #[] 0 (Nat.le_refl _) (by decide) (by simp), (Below.refl _ _).alloc (Nat.le_refl _) _⟩

theorem l_mark1 (v : Value) (n : Nat) (ys : List Value) (base : Nat) (w : World) (hk : n ≤ 1099511627000) (hown : w.ownsRow base 2 1 v n ys) :
    Calls Try.prog 38 #[v, .int .i64 1] w fun e w' => e = .returned (.int .i64 ((1 + n : Nat) : Int)) ∧ w'.ownsRow base 2 1 v n ((mks 1 n).map (Value.int .i64)) ∧ w.grownBy w' v.ownBlock :=
  l_markInt64S v n 1 ys base w (by omega) hown
theorem l_held1 (v : Value) (n : Nat) (base : Nat) (w : World) (hk : n ≤ 1099511627000) (hown : w.ownsRow base 2 1 v n ((mks 1 n).map (Value.int .i64))) :
    Calls Try.prog 39 #[v, .int .i64 1] w fun e w' => e = .returned (.int .i64 ((1 + n : Nat) : Int)) ∧ w = w' :=
  l_heldInt64S v n 1 base w (by omega) hown
/-- what one result holds while the other one is marked -/
theorem keep1 {w w1 w2 w3 w4 : World} {e size : Nat} {v1 v2 : Value} {n m : Nat} {xs ys : List Value} (h1 : w1.ownsRow w.heap.size e size v1 n xs) (h2 : w2.ownsRow w1.heap.size e size v2 m ys) (hb : Below w1.heap.size w1 w2) (hq : Qt w2 w3) (hg : w3.grownBy w4 v2.ownBlock) : w4.ownsRow w.heap.size e size v1 n xs := by
  refine World.ownsRow.kept (owns_qt (owns_after h1 hb) hq) hg ?_
  cases h : v1.ownBlock with
  | none => exact .inl rfl
  | some k =>
    right
    intro h'
    have a := (h1.lt k h).2
    have b := (h2.lt k h'.symm).1
    omega
theorem chain {w w1 w2 w3 w4 w6 w7 : World} {e size : Nat} {v2 : Value} {m : Nat} {ys : List Value} (hb1 : Below w.heap.size w w1) (hb2 : Below w1.heap.size w1 w2) (hq3 : Qt w2 w3) (h2 : w2.ownsRow w1.heap.size e size v2 m ys) (hg : w3.grownBy w4 v2.ownBlock) (hb6 : Below w4.heap.size w4 w6) (hq7 : Qt w6 w7) : Below w.heap.size w w7 := by
  have s1 := hb1.size
  have s2 := hb2.size
  have s3 := qt_size hq3
  have s4 := hg.size
  have e1 : Below w.heap.size w w3 := (hb1.trans (hb2.mono s1)).trans (hq3.below _)
  have e2 : Below w.heap.size w w4 := e1.grown hg (by omega) (fun k hk => by have := (h2.lt k hk).1; omega)
  exact (e2.trans (hb6.mono (by omega))).trans (hq7.below _)
theorem i_BordersOf (s : ByteArray) (w : World) (hs : s.size ≤ maxLen) : Calls Try.prog 36 #[.string s] w fun e w' => ∃ v, e = .returned (.tuple #[v, .int .i64 (okc (validB s))]) ∧ Own64 w w' v (ifl (validB s) (bdTo s s.size)) := by
  have hs' : s.size ≤ 9223372036854775807 := by unfold maxLen at hs; omega
  cases h1 : validB s
  · go_enter Try.func36, Try.ntmps36
    go_wp2_with (go_at_call 18; refine (i_ValidWord _ _ (by assumption)).mono ?_; rintro e w' ⟨rfl, rfl⟩)
    go_ret2
    exact ⟨_, rfl, own64_nil (Below.refl _ _)⟩
  · have hle := validB_le h1
    go_enter Try.func36, Try.ntmps36
    go_wp2_with (first | (go_at_call 18; refine (i_ValidWord _ _ (by assumption)).mono ?_; rintro e w' ⟨rfl, rfl⟩) | (go_at_call 58; refine (i_borders _ _ (by omega)).mono ?_; rintro e w' ⟨v, rfl, hown, hb⟩))
    go_ret2
    exact ⟨_, rfl, hown, hb⟩
theorem s_BordersOf (s : ByteArray) (w : World) (hs : s.size ≤ maxLen) : Calls Try.prog 35 #[.string s] w fun e w' => ∃ v, e = .returned (.tuple #[v, .int .i64 (okc (validB s))]) ∧ Own64 w w' v (ifl (validB s) (bdTo s s.size)) := by
  have hs' : s.size ≤ 9223372036854775807 := by unfold maxLen at hs; omega
  cases h1 : validB s
  · go_enter Try.func35, Try.ntmps35
    go_wp2_with (go_at_call 41; refine (s_l01Ok _ _ (by assumption)).mono ?_; rintro e w' ⟨rfl, rfl⟩)
    go_ret2
    exact ⟨_, rfl, own64_empty _⟩
  have hle := validB_le h1
  go_enter Try.func35, Try.ntmps35
  go_wp2_with (go_at_call 41; refine (s_l01Ok _ _ (by assumption)).mono ?_; rintro e w' ⟨rfl, rfl⟩)
  go_loopw [4, 5] (fun v i wr => Below w.heap.size w wr ∧ ∃ k : Nat, 1 ≤ k ∧ (k ≤ s.size ∨ k = 1) ∧ i = .int .i64 k ∧ wr.ownsRow w.heap.size 2 1 v (bdTo s k).length ((bdTo s k).map (Value.int .i64))) (fun _ i _ => s.size + 1 - (intOf i).toNat)
  case atStart => exact ⟨(Below.refl _ _).alloc (Nat.le_refl _) _, 1, by omega, by omega, rfl, World.ownsRow_made w #[] 0 (Nat.le_refl _) (by decide) (by simp)⟩
  case round =>
    obtain ⟨hb, k, hk1, hk, rfl, hown⟩ := hrel
    have hsz := hb.size
    have hlen := bdTo_len s k
    have HE := Lib.hid (bdTo_end s k hk1 hk)
    by_cases hlt : k < s.size
    · clear hk
      have ew : IntKind.i64.wrap ((s.size : Int) - k) = (s.size : Int) - k := IntWalk.i64_in _ (by omega)
      cases ht : ((s.extract 0 k).toList == (s.extract (s.size - k) s.size).toList)
      · have HN := Lib.hid (bdTo_no s k ht)
        go_wp2
        go_quiet (fail)
        go_wp2
        go_roundw
        case rel => exact ⟨below_drewN hb _, k + 1, by omega, by omega, by go_num, by rw [HN.out]; exact ownsRow_drewN hown _⟩
        case measure => simp [intOf]; omega
      · have HN := Lib.hid (bdTo_yes s k hk1 ht)
        go_wp2
        go_quiet (fail)
        have hown1 := ownsRow_drewN hown nq
        go_wp2_with (at_builtin; refine app_i64 rfl (.tmp 27) (.tmp 29) rfl w.heap.size _ _ _ _ _ _ rfl hown1 rfl (by simp) (by omega) (by simpa using hsz) ?_; intro v' w1 ho1 hb1 hsz1)
        go_roundw
        case rel => exact ⟨(below_drewN hb _).trans hb1, k + 1, by omega, by omega, by go_num, owns_snoc ho1 HN.out⟩
        case measure => simp [intOf]; omega
    · have HX := Lib.hid (HE.out hlt)
      clear hk
      go_wp2
      go_ret2
      exact ⟨_, rfl, by show World.ownsRow _ _ _ _ _ (bdTo s s.size).length _; rw [← HX.out]; exact hown, hb⟩
theorem walk_FnExactBordersOf (s : ByteArray) (hs : s.size ≤ maxLen) (w : World) : Calls Try.prog 14 #[.string s] w fun e w' => e = .returned (.bool true) ∧ Below w.heap.size w w' := by
  have hs' : s.size ≤ 9223372036854775807 := by unfold maxLen at hs; omega
  by_cases hbig : 1048576 < s.size
  · go_enter Try.func14, Try.ntmps14
    go_wp2
    go_ret
    exact ⟨rfl, (by repeat (first | exact Below.refl _ _ | assumption | apply Below.drew | (refine Below.alloc ?_ (by simp) _) | (refine Below.setCell ?_ (by simp) _)))⟩
  have hlen : (ifl (validB s) (bdTo s s.size)).length ≤ 1048576 := by
    have := bdTo_len s s.size
    unfold ifl; split <;> simp <;> omega
  -- FnExactBordersOf: the law; s w hs: args of the contracts, w the world; okc (validB s): the code; ifl (validB s) (bdTo s s.size): the list; s_BordersOf i_BordersOf: the contracts
  have hS := fun w => s_BordersOf s w hs
  have hI := fun w => i_BordersOf s w hs
  generalize okc (validB s) = c at hS hI
  generalize ifl (validB s) (bdTo s s.size) = l at hS hI hlen
  have HS := Lib.hid hS
  have HI := Lib.hid hI
  clear hS hI
  go_enter Try.func14, Try.ntmps14
  go_wp2_with fail
  refine (HS.out _).mono ?_
  rintro e w1 ⟨v1, rfl, ho1, hb1⟩
  go_wp2_with fail
  refine (HI.out _).mono ?_
  rintro e w2 ⟨v2, rfl, ho2, hb2⟩
  go_wp2_with fail
  refine (l_eqInt64S _ _ l l _ _ _ ho2 (owns_after ho1 hb2) (by omega) (by omega)).mono ?_
  rintro e w3 ⟨rfl, hq3⟩
  go_wp2_with fail
  refine (l_mark1 _ l.length _ _ _ (by omega) (owns_qt ho2 hq3)).mono ?_
  rintro e w4 ⟨rfl, ho4, hg4⟩
  go_wp2_with fail
  refine (l_held1 _ l.length _ _ (by omega) ho4).mono ?_
  rintro e w5 ⟨rfl, rfl⟩
  go_wp2_with fail
  refine (HI.out _).mono ?_
  rintro e w6 ⟨v6, rfl, ho6, hb6⟩
  have hk1 := keep1 ho1 ho2 hb2 hq3 hg4
  go_wp2_with fail
  refine (l_eqInt64S _ _ l l _ _ _ ho6 (owns_after hk1 hb6) (by omega) (by omega)).mono ?_
  rintro e w7 ⟨rfl, hq7⟩
  go_wp2_with fail
  refine (l_held1 _ l.length _ _ (by omega) (owns_qt (owns_after ho4 hb6) hq7)).mono ?_
  rintro e w8 ⟨rfl, rfl⟩
  go_wp2
  go_ret
  exact ⟨rfl, chain hb1 hb2 hq3 ho2 hg4 hb6 hq7⟩
end Go.Proofs.Ytfhecnpndpkapaa

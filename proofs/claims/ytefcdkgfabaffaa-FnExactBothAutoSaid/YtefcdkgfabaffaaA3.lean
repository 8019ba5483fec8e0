/- BordersOf, of the program and of the reference, and its law. -/
import Derived.Test.YtefcdkgfabaffaaA2
namespace Go.Proofs.Ytefcdkgfabaffaa
open Go.ChangeShapes Go.WideShapes Go.RowKit
set_option linter.unusedVariables false
set_option linter.unusedSimpArgs false
set_option maxHeartbeats 2000000
set_option maxRecDepth 100000

def ifl (b : Bool) (l : List Int) : List Int := if b then l else []
/-- a slice of int64 of the call's own -/
def Own64 (w w' : World) (v : Value) (l : List Int) : Prop := w'.ownsRow w.heap.size 2 1 v l.length (l.map (Value.int .i64)) ∧ Below w.heap.size w w'
theorem own64_nil {w w' : World} (hb : Below w.heap.size w w') : Own64 w w' (.slice none 0 0) [] := ⟨World.ownsRow_nil _ _ _ _, hb⟩
theorem own64_empty (w : World) : Own64 w (w.alloc (.cells #[] 2)) (.slice (some ⟨w.heap.size, 0, none⟩) 0 0) [] :=
  ⟨World.ownsRow_made w #[] 0 (Nat.le_refl _) (by decide) (by simp), (Below.refl _ _).alloc (Nat.le_refl _) _⟩

theorem l_mark1 (v : Value) (n : Nat) (ys : List Value) (base : Nat) (w : World) (hk : n ≤ 1099511627000) (hown : w.ownsRow base 2 1 v n ys) :
    Calls Try.prog 61 #[v, .int .i64 1] w fun e w' => e = .returned (.int .i64 ((1 + n : Nat) : Int)) ∧ w'.ownsRow base 2 1 v n ((mks 1 n).map (Value.int .i64)) ∧ w.grownBy w' v.ownBlock :=
  l_markInt64S v n 1 ys base w (by omega) hown
theorem l_held1 (v : Value) (n : Nat) (base : Nat) (w : World) (hk : n ≤ 1099511627000) (hown : w.ownsRow base 2 1 v n ((mks 1 n).map (Value.int .i64))) :
    Calls Try.prog 62 #[v, .int .i64 1] w fun e w' => e = .returned (.int .i64 ((1 + n : Nat) : Int)) ∧ w = w' :=
  l_heldInt64S v n 1 base w (by omega) hown
/-- what one result holds while the other one is marked -/
theorem keep1 {w w1 w2 w3 w4 : World} {e size : Nat} {v1 v2 : Value} {n m : Nat} {xs ys : List Value} (h1 : w1.ownsRow w.heap.size e size v1 n xs) (h2 : w2.ownsRow w1.heap.size e size v2 m ys) (hb : Below w1.heap.size w1 w2) (hq : Qt w2 w3) (hg : w3.grownBy w4 v2.ownBlock) : w4.ownsRow w.heap.size e size v1 n xs := by
  refine World.ownsRow.kept (owns_qt (owns_after h1 hb) hq) hg ?_
  cases h : v1.ownBlock with
  | none => exact .inl rfl
  | some k =>
    right
    intro h'
    have a := (h1.lt k h).2
    have b := (h2.lt k h'.symm).1
    omega
theorem chain {w w1 w2 w3 w4 w6 w7 : World} {e size : Nat} {v2 : Value} {m : Nat} {ys : List Value} (hb1 : Below w.heap.size w w1) (hb2 : Below w1.heap.size w1 w2) (hq3 : Qt w2 w3) (h2 : w2.ownsRow w1.heap.size e size v2 m ys) (hg : w3.grownBy w4 v2.ownBlock) (hb6 : Below w4.heap.size w4 w6) (hq7 : Qt w6 w7) : Below w.heap.size w w7 := by
  have s1 := hb1.size
  have s2 := hb2.size
  have s3 := qt_size hq3
  have s4 := hg.size
  have e1 : Below w.heap.size w w3 := (hb1.trans (hb2.mono s1)).trans (hq3.below _)
  have e2 : Below w.heap.size w w4 := e1.grown hg (by omega) (fun k hk => by have := (h2.lt k hk).1; omega)
  exact (e2.trans (hb6.mono (by omega))).trans (hq7.below _)
end Go.Proofs.Ytefcdkgfabaffaa

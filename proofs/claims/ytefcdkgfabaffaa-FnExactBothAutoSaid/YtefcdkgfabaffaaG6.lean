/- ValidGrammar, LengthOf, LengthsOf, of the program and of the reference, and their laws. -/
import Derived.Test.YtefcdkgfabaffaaG5
namespace Go.Proofs.Ytefcdkgfabaffaa
open Go.ChangeShapes Go.WideShapes Go.RowKit
set_option linter.unusedVariables false
set_option linter.unusedSimpArgs false
set_option maxHeartbeats 2000000
set_option maxRecDepth 100000
theorem s_l02Lengths (bq oq cap : Nat) (a : Option Addr) (l : List Ru) (w : World) (hn : l.length ≤ 1048576) (hsz : ∀ r ∈ l, r.1.size ≤ 1048576) (hcell : w.cell? ⟨bq, oq, none⟩ = some (.slice a l.length cap)) (hin : InRu w (.slice a l.length cap) l) :
    Calls Try.prog 108 #[.pointer (some ⟨bq, oq, none⟩)] w fun e w' => ∃ v', e = .returned (.tuple #[v', .bool (gOk l)]) ∧ Below w.heap.size w w' ∧ (gOk l = true → w'.ownsRow w.heap.size 2 1 v' (gLn l).length ((gLn l).map (Value.int .i64))) := by
  by_cases hbig : 400 < l.length
  · have HF : Hid (gOk l = false) := by show _ = _; simp [gOk]; omega
    have hb2 : (400 : Int) < l.length := by omega
    clear hsz hin
    go_enter Try.func108, Try.ntmps108
    go_wp2
    go_ret2
    exact ⟨_, by rw [HF.out]; rfl, (Below.refl _ _).alloc (Nat.le_refl _) _, fun h => by rw [HF.out] at h; cases h⟩
  · have HS := Lib.hid (s_l02Sizes bq oq cap a l w hn hsz hcell hin)
    have HF : Hid (gOk l = (lnT l l.length).isSome) := by show _ = _; simp [gOk]; omega
    have hb2 : ¬ (400 : Int) < l.length := by omega
    clear hsz hin
    go_enter Try.func108, Try.ntmps108
    go_wp2_with fail
    refine HS.out.mono ?_
    rintro e w2 ⟨v', rfl, hb2, ho2⟩
    have HO := Lib.hid ho2
    clear ho2
    go_wp2
    go_ret2
    exact ⟨_, by rw [HF.out]; rfl, hb2, fun h => HO.out (by rw [← HF.out]; exact h)⟩
theorem s_l02Ok (bq oq cap : Nat) (a : Option Addr) (l : List Ru) (w : World) (hn : l.length ≤ 1048576) (hsz : ∀ r ∈ l, r.1.size ≤ 1048576) (hcell : w.cell? ⟨bq, oq, none⟩ = some (.slice a l.length cap)) (hin : InRu w (.slice a l.length cap) l) :
    Calls Try.prog 97 #[.pointer (some ⟨bq, oq, none⟩)] w fun e w' => e = .returned (.bool (gOk l)) ∧ Below w.heap.size w w' := by
  have HS := Lib.hid (s_l02Lengths bq oq cap a l w hn hsz hcell hin)
  clear hsz hin
  go_enter Try.func97, Try.ntmps97
  go_wp2_with fail
  refine HS.out.mono ?_
  rintro e w2 ⟨v', rfl, hb2, ho2⟩
  clear ho2
  go_wp2
  go_ret
  exact ⟨rfl, hb2⟩
theorem inRu_box {w : World} {v : Value} {l : List Ru} {o : Obj} (h : InRu w v l) : InRu (w.alloc o) v l := inRu_below h ((Below.refl _ _).alloc (Nat.le_refl _) _)
/-- the law's argument -/
def GrIn (w : World) (v : Value) (l : List Ru) : Prop := ∃ u, v = .agg #[u] ∧ InRu w u l
theorem i_ValidGrammar (v : Value) (l : List Ru) (w : World) (hn : l.length ≤ 1048576) (hsz : ∀ r ∈ l, r.1.size ≤ 1048576) (hin : InRu w v l) :
    Calls Try.prog 117 #[.agg #[v]] w fun e w' => e = .returned (.bool (gOk l)) ∧ Below w.heap.size w w' := by
  have HS := Lib.hid (i_lengths v l _ hn hsz (inRu_box (o := .cells #[v] 59) hin))
  clear hsz hin
  go_enter Try.func117, Try.ntmps117
  go_wp2_with fail
  refine HS.out.mono ?_
  rintro e w2 ⟨v2, rfl, ho, hb2⟩
  have hb3 := below_box hb2
  clear hb2 ho
  go_wp2
  go_ret
  exact ⟨rfl, hb3⟩
end Go.Proofs.Ytefcdkgfabaffaa

/- A2Other: another drawn grammar. -/
import Derived.Test.YtoejelieogjjpaaQM
import Derived.Test.YtoejelieogjjpaaZQ
namespace Go.Proofs.Ytoejelieogjjpaa
open Go.ChangeShapes Go.WideShapes Go.RowKit
set_option linter.unusedVariables false
set_option linter.unusedSimpArgs false
set_option maxHeartbeats 2000000
set_option maxRecDepth 100000
theorem s_A2Other (v : Value) (lc : List UInt8) (ag : Option Addr) (cg : Nat) (l : List Ru) (w : World) (hlc : lc.length ≤ 1048576) (hin : InRow w v lc.length 1 (u8s lc)) (h0 : l ≠ []) (hok : gOk l = true) (habc : abcL l) (h14 : l.length ≤ 14) (h60 : lastI (gLn l) ≤ 60) (hg : InRu w (.slice ag l.length cg) l) :
    Calls Try.prog 12 #[v, .agg #[.slice ag l.length cg]] w fun e w' => ∃ v O, e = .returned (.agg #[v]) ∧ OwnRu w' w.heap.size v O ∧ gOk O = true ∧ O ≠ [] ∧ abcL O ∧ (wd O = wd l ∨ (wd l).length < (wd O).length) ∧ (wd O).length ≤ (wd l).length + 3 ∧ Below w.heap.size w w' := by
  obtain ⟨a, n, cap, rfl⟩ : ∃ a n cap, v = .slice a n cap := by
    rcases hin with ⟨_, _, a, cap, rfl⟩ | ⟨b, off, cap, rfl, _⟩
    · exact ⟨_, _, _, rfl⟩
    · exact ⟨_, _, _, rfl⟩
  have hb2 : Below w.heap.size w ((w.alloc (.cells #[.slice ag l.length cg] 26)).alloc (.cells #[.slice none 0 0] 26)) := ((Below.refl _ _).alloc (Nat.le_refl _) _).alloc (by simp) _
  obtain ⟨w2, hw2⟩ : ∃ w2, w2 = (w.alloc (.cells #[.slice ag l.length cg] 26)).alloc (.cells #[.slice none 0 0] 26) := ⟨_, rfl⟩
  rw [← hw2] at hb2
  have HC : Hid (w2.cell? ⟨w.heap.size, 0, none⟩ = some (.slice ag l.length cg) ∧ w2.cell? ⟨w.heap.size + 1, 0, none⟩ = some (.slice none 0 0) ∧ w2.frozen? ⟨w.heap.size + 1, 0, none⟩ = false ∧ w2.heap.size = w.heap.size + 2) := by rw [hw2]; exact ⟨by simp [go_sem], by simp [go_sem], by simp [go_sem], by simp⟩
  have HB2 := Lib.hid hb2
  have HIN := Lib.hid (inRow_below hin hb2)
  have HIG := Lib.hid hg
  clear hb2 hin hg
  go_enter Try.func12, Try.ntmps12
  go_upto_region 1 with fail
  rw [← hw2]
  clear hw2
  go_wp2_with fail
  refine (s_l00From _ lc _ hlc HIN.out).mono ?_
  rintro e w3 ⟨rfl, hg3, hs3⟩
  obtain ⟨gs, hgs⟩ : ∃ gs, gs = w2.heap.size := ⟨_, rfl⟩
  have hgs2 : gs = w.heap.size + 2 := by have := HC.out.2.2.2; omega
  rw [← hgs] at hs3 ⊢
  have hz3 := hg3.size
  have HS3 := Lib.hid hs3
  have c3 : w3.cell? ⟨w.heap.size, 0, none⟩ = some (.slice ag l.length cg) := (hg3.cell_far ⟨w.heap.size, 0, none⟩ (by simp; omega) (by simp)).trans HC.out.1
  have r3 : w3.cell? ⟨w.heap.size + 1, 0, none⟩ = some (.slice none 0 0) := (hg3.cell_far ⟨w.heap.size + 1, 0, none⟩ (by simp; omega) (by simp)).trans HC.out.2.1
  have f3 : w3.frozen? ⟨w.heap.size + 1, 0, none⟩ = false := (hg3.frozen_far ⟨w.heap.size + 1, 0, none⟩ (by simp; omega) (by simp)).trans HC.out.2.2.1
  have HB3 := Lib.hid (Below.grown HB2.out hg3 (by omega) (fun q e => by cases e))
  have hz3' : w.heap.size + 2 < w3.heap.size := by have := hs3.lt; omega
  have HGG : Hid (∀ X, w3.grownBy X (some gs) → X.cell? ⟨w.heap.size, 0, none⟩ = some (.slice ag l.length cg) ∧ InRu X (.slice ag l.length cg) l) := fun X hX =>
    ⟨(hX.cell_far ⟨w.heap.size, 0, none⟩ (by simp; omega) (by simp; omega)).trans c3, inRu_below HIG.out (Below.grown HB3.out hX (by omega) (fun q e => by injection e with e; omega))⟩
  have HRF := Lib.hid (And.intro r3 f3)
  have hgs3 : w.heap.size + 2 ≤ gs := by omega
  have hgs4 : gs ≤ w.heap.size + 2 := by omega
  clear hg3 hs3 HIN c3 r3 f3 HC HB2 hgs hgs2
  go_wp2_with fail
  refine (s_l03Other gs w.heap.size 0 cg ag lc l w3 HS3.out h0 hok habc h14 h60 HGG.out).mono ?_
  rintro e w4 ⟨vo, O, rfl, hoo, hko, hno, hao, hwo, hwo3, hg4⟩
  obtain ⟨ao, co, rfl⟩ := size_OwnRu hoo
  have r4 : w4.cell? ⟨w.heap.size + 1, 0, none⟩ = some (.slice none 0 0) := (hg4.cell_far ⟨w.heap.size + 1, 0, none⟩ (by simp; omega) (by simp; omega)).trans HRF.out.1
  have f4 : w4.frozen? ⟨w.heap.size + 1, 0, none⟩ = false := (hg4.frozen_far ⟨w.heap.size + 1, 0, none⟩ (by simp; omega) (by simp; omega)).trans HRF.out.2
  have HB4 := Lib.hid (Below.grown HB3.out hg4 (by omega) (fun q e => by injection e with e; omega))
  have HOO := Lib.hid hoo
  have HOF := Lib.hid (And.intro hko (And.intro hno (And.intro hao (And.intro hwo hwo3))))
  clear hoo hko hno hao hwo hwo3 hg4 HGG HS3 HRF
  go_wp2
  refine bodyPost_ret (v := .agg #[.slice ao O.length co]) (by simp [results, Try.results12, go_sem, cell_st_same _ r4]) rfl ?_
  have hfin : OwnRu (w4.setCell ⟨w.heap.size + 1, 0, none⟩ (.slice ao O.length co)) w.heap.size (.slice ao O.length co) O := by
    refine OwnRu.weak (OwnRu.kept HOO.out (grownBy_set _ _ _) ?_) (show w.heap.size ≤ w3.heap.size by omega)
    cases he : (Value.slice ao O.length co).ownBlock with
    | none => exact .inl rfl
    | some q => exact .inr (by have := (HOO.out.lt q he).1; intro e; injection e with e; simp at e; omega)
  have hbf := HB4.out.setCell (p := ⟨w.heap.size + 1, 0, none⟩) (by simp) (.slice ao O.length co)
  obtain ⟨f1, f2, f3, f4, f5⟩ := HOF.out
  first
    | exact ⟨_, O, rfl, hfin, f1, f2, f3, f4, f5, hbf⟩
    | exact ⟨_, rfl, O, hfin, f1, f2, f3, f4, f5, hbf⟩
end Go.Proofs.Ytoejelieogjjpaa

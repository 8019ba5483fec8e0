/- EqualWords, FirstDifference, CompareGrammars, StartsWith, EndsWith of words that are the same or of which the second one is longer. -/
import Derived.Test.YtoejelieogjjpaaQO
namespace Go.Proofs.Ytoejelieogjjpaa
open Go.ChangeShapes Go.WideShapes Go.RowKit
set_option linter.unusedVariables false
set_option linter.unusedSimpArgs false
set_option maxHeartbeats 2000000
set_option maxRecDepth 100000
/-- two short grammars -/
def TwoG (ag ah : Option Addr) (kg kh : Nat) (l m : List Ru) (W : World) : Prop := l ≠ [] ∧ m ≠ [] ∧ gOk l = true ∧ gOk m = true ∧ InRu W (.slice ag l.length kg) l ∧ InRu W (.slice ah m.length kh) m ∧ letC (wd l) ∧ letC (wd m) ∧ (wd l).length ≤ 60 ∧ (wd m).length ≤ 100000
theorem i_EqualWords2 (ag ah : Option Addr) (kg kh : Nat) (l m : List Ru) (r : Bool) (W : World) (ht : TwoG ag ah kg kh l m W) (hd : (r = true ∧ wd m = wd l) ∨ (r = false ∧ (wd l).length < (wd m).length)) :
    Calls Try.prog 13 #[.agg #[.slice ag l.length kg], .agg #[.slice ah m.length kh]] W fun e W' => e = .returned (.tuple #[.bool r, .int .i64 0]) ∧ Below W.heap.size W W' := by
  obtain ⟨h0, m0, hok, hom, hin, him, hl, hm, hsl2, hsm2⟩ := ht
  have hsl : ∀ r ∈ l, r.1.size ≤ 1048576 := fun r hr => by have := ru_small hok r hr; omega
  have hsm : ∀ r ∈ m, r.1.size ≤ 1048576 := fun r hr => by have := ru_small hom r hr; omega
  have hal := ((Below.refl W.heap.size W).alloc (Nat.le_refl _) (.cells #[.slice ag l.length kg] 26))
  have hal2 := hal.trans (((Below.refl _ (W.alloc (.cells #[.slice ag l.length kg] 26))).alloc (Nat.le_refl _) (.cells #[.slice ah m.length kh] 26)).mono hal.size)
  have HI1 := Lib.hid (inRu_below hin hal2)
  have HI2 := Lib.hid (inRu_below him hal2)
  have HB0 := Lib.hid hal2
  have HWE := Lib.hid (fun W hin him => i_weaves ag ah kg kh l m W h0 m0 hok hom hsl hsm hin him)
  have hz := hal2.size
  clear hin him hsl hsm hal hal2
  have HS := Lib.hid (fun b1 b2 v1 v2 W hw hv => i_same2 b1 b2 v1 v2 kg kh ag ah l m r W hok hom hw hv hl hm (by omega) hsm2 hd)
  go_enter Try.func13, Try.ntmps13
  go_upto_region 1 with fail
  refine gen_world2 (fun X => X.cell? ⟨W.heap.size, 0, none⟩ = some (.slice ag l.length kg) ∧ X.cell? ⟨W.heap.size + 1, 0, none⟩ = some (.slice ah m.length kh) ∧ InRu X (.slice ag l.length kg) l ∧ InRu X (.slice ah m.length kh) m ∧ Below W.heap.size W X) ⟨by simp [go_sem], by simp [go_sem], HI1.out, HI2.out, HB0.out⟩ ?_
  clear HI1 HI2 HB0 hz
  rintro X ⟨c1, c2, hi1, hi2, hb⟩
  have HI := Lib.hid (And.intro hi1 (And.intro hi2 hb))
  clear hi1 hi2 hb
  go_wp2_with fail
  refine (HWE.out _ HI.out.1 HI.out.2.1).mono ?_
  rintro e W2 ⟨b1, b2, v1, v2, rfl, hw1, hw2, hb2⟩
  have HW := Lib.hid (And.intro hw1 hw2)
  have HB := Lib.hid (HI.out.2.2.trans (hb2.mono HI.out.2.2.size))
  clear hw1 hw2 hb2 HI c1 c2 HWE
  go_wp2_with fail
  refine (HS.out _ _ _ _ _ HW.out.1 HW.out.2).mono ?_
  rintro e W3 ⟨rfl, hb3⟩
  have HB3 := Lib.hid (HB.out.trans (hb3.mono HB.out.size))
  clear HW HB hb3 HS
  go_wp2
  go_ret2
  exact ⟨rfl, HB3.out⟩
theorem i_FirstDifference2 (ag ah : Option Addr) (kg kh : Nat) (l m : List Ru) (W : World) (ht : TwoG ag ah kg kh l m W) (hd : (wd l).length < (wd m).length) :
    Calls Try.prog 14 #[.agg #[.slice ag l.length kg], .agg #[.slice ah m.length kh]] W fun e W' => e = .returned (.tuple #[.int .i64 (cpl (wd l) (wd m) : Nat), .int .i64 0]) ∧ Below W.heap.size W W' := by
  obtain ⟨h0, m0, hok, hom, hin, him, hl, hm, hsl2, hsm2⟩ := ht
  have hsl : ∀ r ∈ l, r.1.size ≤ 1048576 := fun r hr => by have := ru_small hok r hr; omega
  have hsm : ∀ r ∈ m, r.1.size ≤ 1048576 := fun r hr => by have := ru_small hom r hr; omega
  have hal := ((Below.refl W.heap.size W).alloc (Nat.le_refl _) (.cells #[.slice ag l.length kg] 26))
  have hal2 := hal.trans (((Below.refl _ (W.alloc (.cells #[.slice ag l.length kg] 26))).alloc (Nat.le_refl _) (.cells #[.slice ah m.length kh] 26)).mono hal.size)
  have HI1 := Lib.hid (inRu_below hin hal2)
  have HI2 := Lib.hid (inRu_below him hal2)
  have HB0 := Lib.hid hal2
  have HWE := Lib.hid (fun W hin him => i_weaves ag ah kg kh l m W h0 m0 hok hom hsl hsm hin him)
  have hz := hal2.size
  clear hin him hsl hsm hal hal2
  have HS := Lib.hid (fun b1 b2 v1 v2 W hw hv => i_same2 b1 b2 v1 v2 kg kh ag ah l m false W hok hom hw hv hl hm (by omega) hsm2 (.inr ⟨rfl, hd⟩)); have HC := Lib.hid (fun b1 b2 v1 v2 W hw hv => i_common2 b1 b2 v1 v2 kg kh ag ah l m 0 0 W hok hom hw hv hl hm (by omega) hsm2 (.inl (by omega)) (Int.le_refl _) (Int.le_refl _) (by omega) (by omega)); rw [sfx_0, sfx_0] at HC; generalize cpl (wd l) (wd m) = z at *
  go_enter Try.func14, Try.ntmps14
  go_upto_region 1 with fail
  refine gen_world2 (fun X => X.cell? ⟨W.heap.size, 0, none⟩ = some (.slice ag l.length kg) ∧ X.cell? ⟨W.heap.size + 1, 0, none⟩ = some (.slice ah m.length kh) ∧ InRu X (.slice ag l.length kg) l ∧ InRu X (.slice ah m.length kh) m ∧ Below W.heap.size W X) ⟨by simp [go_sem], by simp [go_sem], HI1.out, HI2.out, HB0.out⟩ ?_
  clear HI1 HI2 HB0 hz
  rintro X ⟨c1, c2, hi1, hi2, hb⟩
  have HI := Lib.hid (And.intro hi1 (And.intro hi2 hb))
  clear hi1 hi2 hb
  go_wp2_with fail
  refine (HWE.out _ HI.out.1 HI.out.2.1).mono ?_
  rintro e W2 ⟨b1, b2, v1, v2, rfl, hw1, hw2, hb2⟩
  have HW := Lib.hid (And.intro hw1 hw2)
  have HB := Lib.hid (HI.out.2.2.trans (hb2.mono HI.out.2.2.size))
  clear hw1 hw2 hb2 HI c1 c2 HWE
  go_wp2_with fail
  refine (HS.out _ _ _ _ _ HW.out.1 HW.out.2).mono ?_
  rintro e W3 ⟨rfl, hb3⟩
  have HW3 := Lib.hid (And.intro (HW.out.1.bel hb3) (HW.out.2.bel hb3))
  have HB3 := Lib.hid (HB.out.trans (hb3.mono HB.out.size))
  clear HW HB hb3 HS
  go_wp2_with fail
  refine (HC.out _ _ _ _ _ HW3.out.1 HW3.out.2).mono ?_
  rintro e W4 ⟨rfl, hb4⟩
  have HB4 := Lib.hid (HB3.out.trans (hb4.mono HB3.out.size))
  clear HW3 HB3 hb4 HC
  go_wp2
  go_ret2
  exact ⟨rfl, HB4.out⟩
theorem i_FirstDifference3 (ag ah : Option Addr) (kg kh : Nat) (l m : List Ru) (W : World) (ht : TwoG ag ah kg kh l m W) (hd : wd m = wd l) :
    Calls Try.prog 14 #[.agg #[.slice ag l.length kg], .agg #[.slice ah m.length kh]] W fun e W' => e = .returned (.tuple #[.int .i64 0, .int .i64 6]) ∧ Below W.heap.size W W' := by
  obtain ⟨h0, m0, hok, hom, hin, him, hl, hm, hsl2, hsm2⟩ := ht
  have hsl : ∀ r ∈ l, r.1.size ≤ 1048576 := fun r hr => by have := ru_small hok r hr; omega
  have hsm : ∀ r ∈ m, r.1.size ≤ 1048576 := fun r hr => by have := ru_small hom r hr; omega
  have hal := ((Below.refl W.heap.size W).alloc (Nat.le_refl _) (.cells #[.slice ag l.length kg] 26))
  have hal2 := hal.trans (((Below.refl _ (W.alloc (.cells #[.slice ag l.length kg] 26))).alloc (Nat.le_refl _) (.cells #[.slice ah m.length kh] 26)).mono hal.size)
  have HI1 := Lib.hid (inRu_below hin hal2)
  have HI2 := Lib.hid (inRu_below him hal2)
  have HB0 := Lib.hid hal2
  have HWE := Lib.hid (fun W hin him => i_weaves ag ah kg kh l m W h0 m0 hok hom hsl hsm hin him)
  have hz := hal2.size
  clear hin him hsl hsm hal hal2
  have HS := Lib.hid (fun b1 b2 v1 v2 W hw hv => i_same2 b1 b2 v1 v2 kg kh ag ah l m true W hok hom hw hv hl hm (by omega) hsm2 (.inl ⟨rfl, hd⟩))
  go_enter Try.func14, Try.ntmps14
  go_upto_region 1 with fail
  refine gen_world2 (fun X => X.cell? ⟨W.heap.size, 0, none⟩ = some (.slice ag l.length kg) ∧ X.cell? ⟨W.heap.size + 1, 0, none⟩ = some (.slice ah m.length kh) ∧ InRu X (.slice ag l.length kg) l ∧ InRu X (.slice ah m.length kh) m ∧ Below W.heap.size W X) ⟨by simp [go_sem], by simp [go_sem], HI1.out, HI2.out, HB0.out⟩ ?_
  clear HI1 HI2 HB0 hz
  rintro X ⟨c1, c2, hi1, hi2, hb⟩
  have HI := Lib.hid (And.intro hi1 (And.intro hi2 hb))
  clear hi1 hi2 hb
  go_wp2_with fail
  refine (HWE.out _ HI.out.1 HI.out.2.1).mono ?_
  rintro e W2 ⟨b1, b2, v1, v2, rfl, hw1, hw2, hb2⟩
  have HW := Lib.hid (And.intro hw1 hw2)
  have HB := Lib.hid (HI.out.2.2.trans (hb2.mono HI.out.2.2.size))
  clear hw1 hw2 hb2 HI c1 c2 HWE
  go_wp2_with fail
  refine (HS.out _ _ _ _ _ HW.out.1 HW.out.2).mono ?_
  rintro e W3 ⟨rfl, hb3⟩
  have HB3 := Lib.hid (HB.out.trans (hb3.mono HB.out.size))
  clear HW HB hb3 HS
  go_wp2
  go_ret2
  exact ⟨rfl, HB3.out⟩
theorem i_CompareGrammars2 (ag ah : Option Addr) (kg kh : Nat) (l m : List Ru) (W : World) (ht : TwoG ag ah kg kh l m W) :
    Calls Try.prog 15 #[.agg #[.slice ag l.length kg], .agg #[.slice ah m.length kh]] W fun e W' => e = .returned (.tuple #[.int .i64 (cmpB (wd l) (wd m)), .int .i64 0]) ∧ Below W.heap.size W W' := by
  obtain ⟨h0, m0, hok, hom, hin, him, hl, hm, hsl2, hsm2⟩ := ht
  have hsl : ∀ r ∈ l, r.1.size ≤ 1048576 := fun r hr => by have := ru_small hok r hr; omega
  have hsm : ∀ r ∈ m, r.1.size ≤ 1048576 := fun r hr => by have := ru_small hom r hr; omega
  have hal := ((Below.refl W.heap.size W).alloc (Nat.le_refl _) (.cells #[.slice ag l.length kg] 26))
  have hal2 := hal.trans (((Below.refl _ (W.alloc (.cells #[.slice ag l.length kg] 26))).alloc (Nat.le_refl _) (.cells #[.slice ah m.length kh] 26)).mono hal.size)
  have HI1 := Lib.hid (inRu_below hin hal2)
  have HI2 := Lib.hid (inRu_below him hal2)
  have HB0 := Lib.hid hal2
  have HWE := Lib.hid (fun W hin him => i_weaves ag ah kg kh l m W h0 m0 hok hom hsl hsm hin him)
  have hz := hal2.size
  clear hin him hsl hsm hal hal2
  have HC := Lib.hid (fun b1 b2 v1 v2 W hw hv => i_compare2 b1 b2 v1 v2 kg kh ag ah l m 0 0 W hok hom hw hv hl hm (by omega) hsm2 (.inl (by omega)) (Int.le_refl _) (Int.le_refl _) (by omega) (by omega)); rw [sfx_0, sfx_0] at HC; generalize cmpB (wd l) (wd m) = z at *
  go_enter Try.func15, Try.ntmps15
  go_upto_region 1 with fail
  refine gen_world2 (fun X => X.cell? ⟨W.heap.size, 0, none⟩ = some (.slice ag l.length kg) ∧ X.cell? ⟨W.heap.size + 1, 0, none⟩ = some (.slice ah m.length kh) ∧ InRu X (.slice ag l.length kg) l ∧ InRu X (.slice ah m.length kh) m ∧ Below W.heap.size W X) ⟨by simp [go_sem], by simp [go_sem], HI1.out, HI2.out, HB0.out⟩ ?_
  clear HI1 HI2 HB0 hz
  rintro X ⟨c1, c2, hi1, hi2, hb⟩
  have HI := Lib.hid (And.intro hi1 (And.intro hi2 hb))
  clear hi1 hi2 hb
  go_wp2_with fail
  refine (HWE.out _ HI.out.1 HI.out.2.1).mono ?_
  rintro e W2 ⟨b1, b2, v1, v2, rfl, hw1, hw2, hb2⟩
  have HW := Lib.hid (And.intro hw1 hw2)
  have HB := Lib.hid (HI.out.2.2.trans (hb2.mono HI.out.2.2.size))
  clear hw1 hw2 hb2 HI c1 c2 HWE
  go_wp2_with fail
  refine (HC.out _ _ _ _ _ HW.out.1 HW.out.2).mono ?_
  rintro e W3 ⟨rfl, hb3⟩
  have HB3 := Lib.hid (HB.out.trans (hb3.mono HB.out.size))
  clear HW HB hb3 HC
  go_wp2
  go_ret2
  exact ⟨rfl, HB3.out⟩
theorem i_StartsWith2 (ag ah : Option Addr) (kg kh : Nat) (l m : List Ru) (W : World) (ht : TwoG ag ah kg kh l m W) (hd : (wd l).length < (wd m).length) :
    Calls Try.prog 17 #[.agg #[.slice ag l.length kg], .agg #[.slice ah m.length kh]] W fun e W' => e = .returned (.tuple #[.bool false, .int .i64 0]) ∧ Below W.heap.size W W' := by
  obtain ⟨h0, m0, hok, hom, hin, him, hl, hm, hsl2, hsm2⟩ := ht
  have hsl : ∀ r ∈ l, r.1.size ≤ 1048576 := fun r hr => by have := ru_small hok r hr; omega
  have hsm : ∀ r ∈ m, r.1.size ≤ 1048576 := fun r hr => by have := ru_small hom r hr; omega
  have hal := ((Below.refl W.heap.size W).alloc (Nat.le_refl _) (.cells #[.slice ag l.length kg] 26))
  have hal2 := hal.trans (((Below.refl _ (W.alloc (.cells #[.slice ag l.length kg] 26))).alloc (Nat.le_refl _) (.cells #[.slice ah m.length kh] 26)).mono hal.size)
  have HI1 := Lib.hid (inRu_below hin hal2)
  have HI2 := Lib.hid (inRu_below him hal2)
  have HB0 := Lib.hid hal2
  have HWE := Lib.hid (fun W hin him => i_weaves ag ah kg kh l m W h0 m0 hok hom hsl hsm hin him)
  have hz := hal2.size
  clear hin him hsl hsm hal hal2
  have HL := Lib.hid (fun b v W hw => i_length b v kg ag l W hok hw); have HM := Lib.hid (fun b v W hw => i_length b v kh ah m W hom hw); have hdI : ¬ ((wd m).length : Int) ≤ ((wd l).length : Int) := (by omega); generalize (wd l).length = n at *; generalize (wd m).length = n2 at *
  go_enter Try.func17, Try.ntmps17
  go_upto_region 1 with fail
  refine gen_world2 (fun X => X.cell? ⟨W.heap.size, 0, none⟩ = some (.slice ag l.length kg) ∧ X.cell? ⟨W.heap.size + 1, 0, none⟩ = some (.slice ah m.length kh) ∧ InRu X (.slice ag l.length kg) l ∧ InRu X (.slice ah m.length kh) m ∧ Below W.heap.size W X) ⟨by simp [go_sem], by simp [go_sem], HI1.out, HI2.out, HB0.out⟩ ?_
  clear HI1 HI2 HB0 hz
  rintro X ⟨c1, c2, hi1, hi2, hb⟩
  have HI := Lib.hid (And.intro hi1 (And.intro hi2 hb))
  clear hi1 hi2 hb
  go_wp2_with fail
  refine (HWE.out _ HI.out.1 HI.out.2.1).mono ?_
  rintro e W2 ⟨b1, b2, v1, v2, rfl, hw1, hw2, hb2⟩
  have HW := Lib.hid (And.intro hw1 hw2)
  have HB := Lib.hid (HI.out.2.2.trans (hb2.mono HI.out.2.2.size))
  clear hw1 hw2 hb2 HI c1 c2 HWE
  go_wp2_with fail
  refine (HM.out _ _ _ HW.out.2).mono ?_
  rintro e W3 ⟨rfl, hb3⟩
  have HW3 := Lib.hid (And.intro (HW.out.1.bel hb3) (HW.out.2.bel hb3))
  have HB3 := Lib.hid (HB.out.trans (hb3.mono HB.out.size))
  clear HW HB hb3
  go_wp2_with fail
  refine (HL.out _ _ _ HW3.out.1).mono ?_
  rintro e W4 ⟨rfl, hb4⟩
  have HB4 := Lib.hid (HB3.out.trans (hb4.mono HB3.out.size))
  clear HW3 HB3 hb4
  go_wp2
  go_ret2
  exact ⟨rfl, HB4.out⟩
theorem i_EndsWith2 (ag ah : Option Addr) (kg kh : Nat) (l m : List Ru) (W : World) (ht : TwoG ag ah kg kh l m W) (hd : (wd l).length < (wd m).length) :
    Calls Try.prog 18 #[.agg #[.slice ag l.length kg], .agg #[.slice ah m.length kh]] W fun e W' => e = .returned (.tuple #[.bool false, .int .i64 0]) ∧ Below W.heap.size W W' := by
  obtain ⟨h0, m0, hok, hom, hin, him, hl, hm, hsl2, hsm2⟩ := ht
  have hsl : ∀ r ∈ l, r.1.size ≤ 1048576 := fun r hr => by have := ru_small hok r hr; omega
  have hsm : ∀ r ∈ m, r.1.size ≤ 1048576 := fun r hr => by have := ru_small hom r hr; omega
  have hal := ((Below.refl W.heap.size W).alloc (Nat.le_refl _) (.cells #[.slice ag l.length kg] 26))
  have hal2 := hal.trans (((Below.refl _ (W.alloc (.cells #[.slice ag l.length kg] 26))).alloc (Nat.le_refl _) (.cells #[.slice ah m.length kh] 26)).mono hal.size)
  have HI1 := Lib.hid (inRu_below hin hal2)
  have HI2 := Lib.hid (inRu_below him hal2)
  have HB0 := Lib.hid hal2
  have HWE := Lib.hid (fun W hin him => i_weaves ag ah kg kh l m W h0 m0 hok hom hsl hsm hin him)
  have hz := hal2.size
  clear hin him hsl hsm hal hal2
  have HL := Lib.hid (fun b v W hw => i_length b v kg ag l W hok hw); have HM := Lib.hid (fun b v W hw => i_length b v kh ah m W hom hw); have hdI : ¬ ((wd m).length : Int) ≤ ((wd l).length : Int) := (by omega); generalize (wd l).length = n at *; generalize (wd m).length = n2 at *
  go_enter Try.func18, Try.ntmps18
  go_upto_region 1 with fail
  refine gen_world2 (fun X => X.cell? ⟨W.heap.size, 0, none⟩ = some (.slice ag l.length kg) ∧ X.cell? ⟨W.heap.size + 1, 0, none⟩ = some (.slice ah m.length kh) ∧ InRu X (.slice ag l.length kg) l ∧ InRu X (.slice ah m.length kh) m ∧ Below W.heap.size W X) ⟨by simp [go_sem], by simp [go_sem], HI1.out, HI2.out, HB0.out⟩ ?_
  clear HI1 HI2 HB0 hz
  rintro X ⟨c1, c2, hi1, hi2, hb⟩
  have HI := Lib.hid (And.intro hi1 (And.intro hi2 hb))
  clear hi1 hi2 hb
  go_wp2_with fail
  refine (HWE.out _ HI.out.1 HI.out.2.1).mono ?_
  rintro e W2 ⟨b1, b2, v1, v2, rfl, hw1, hw2, hb2⟩
  have HW := Lib.hid (And.intro hw1 hw2)
  have HB := Lib.hid (HI.out.2.2.trans (hb2.mono HI.out.2.2.size))
  clear hw1 hw2 hb2 HI c1 c2 HWE
  go_wp2_with fail
  refine (HM.out _ _ _ HW.out.2).mono ?_
  rintro e W3 ⟨rfl, hb3⟩
  have HW3 := Lib.hid (And.intro (HW.out.1.bel hb3) (HW.out.2.bel hb3))
  have HB3 := Lib.hid (HB.out.trans (hb3.mono HB.out.size))
  clear HW HB hb3
  go_wp2_with fail
  refine (HL.out _ _ _ HW3.out.1).mono ?_
  rintro e W4 ⟨rfl, hb4⟩
  have HB4 := Lib.hid (HB3.out.trans (hb4.mono HB3.out.size))
  clear HW3 HB3 hb4
  go_wp2
  go_ret2
  exact ⟨rfl, HB4.out⟩
end Go.Proofs.Ytoejelieogjjpaa

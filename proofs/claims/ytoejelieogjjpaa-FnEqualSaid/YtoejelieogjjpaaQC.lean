/- isPart, CommonFrom, weaves, SamePart, EqualParts of words that differ late. -/
import Derived.Test.YtoejelieogjjpaaQB
import Derived.Test.YtoejelieogjjpaaZJ
namespace Go.Proofs.Ytoejelieogjjpaa
open Go.ChangeShapes Go.WideShapes Go.RowKit
set_option linter.unusedVariables false
set_option linter.unusedSimpArgs false
set_option maxHeartbeats 2000000
set_option maxRecDepth 100000
theorem i_isPartG (base bw cap : Nat) (a : Option Addr) (l : List Ru) (i k : Int) (r : Bool) (W : World) (hok : gOk l = true) (hw : WvR base W bw l (.slice a l.length cap)) (h0 : 0 ≤ i) (h1 : i ≤ (wd l).length) (hk : 0 ≤ k) (hsz : (wd l).length ≤ 100000) (hr : decide (k ≤ ((wd l).length : Int) - i) = r) :
    Calls Try.prog 23 #[.pointer (some ⟨bw, 0, none⟩), .int .i64 i, .int .i64 k] W fun e W' => e = .returned (.bool r) ∧ Below W.heap.size W W' := by
  have HL := Lib.hid (fun W hw => i_length base bw cap a l W hok hw)
  have HW := Lib.hid hw
  obtain ⟨n, hn⟩ : ∃ n, n = (wd l).length := ⟨_, rfl⟩
  rw [← hn] at HL h1 hsz hr
  have k1 : IntKind.i64.wrap ((n : Int) - i) = n - i := by rw [IntKind.wrap_i64]; omega
  have hr1 : (decide ((0 : Int) ≤ i) && decide (i ≤ (n : Int))) = true := by simp [h0, h1]
  have hr2 : (decide ((0 : Int) ≤ k) && decide (k ≤ (n : Int) - i)) = r := by rw [hr, decide_eq_true hk, Bool.true_and]
  have HR1 := Lib.hid (fun w => i_within_r i 0 n true hr1 w)
  have HR2 := Lib.hid (fun w => i_within_r k 0 ((n : Int) - i) r hr2 w)
  clear hn hw hr hr1 hr2
  go_enter Try.func23, Try.ntmps23
  go_wp2_with fail
  refine (HL.out _ HW.out).mono ?_
  rintro e W2 ⟨rfl, hb2⟩
  have HB := Lib.hid hb2
  have HW2 := Lib.hid (HW.out.bel hb2)
  clear hb2 HW
  go_wp2_with fail
  refine (HR1.out _).mono ?_
  rintro e W3 ⟨rfl, rfl⟩
  go_wp2_with fail
  refine (HL.out _ HW2.out).mono ?_
  rintro e W4 ⟨rfl, hb4⟩
  have HB4 := Lib.hid (HB.out.trans (hb4.mono HB.out.size))
  clear hb4 HW2 HB HL
  go_wp2_with fail
  refine (HR2.out _).mono ?_
  rintro e W5 ⟨rfl, rfl⟩
  go_wp2
  go_ret
  exact ⟨rfl, HB4.out⟩
theorem i_weaves (ag ah : Option Addr) (kg kh : Nat) (l m : List Ru) (W : World) (h0 : l ≠ []) (m0 : m ≠ []) (hok : gOk l = true) (hom : gOk m = true) (hsl : ∀ r ∈ l, r.1.size ≤ 1048576) (hsm : ∀ r ∈ m, r.1.size ≤ 1048576) (hin : InRu W (.slice ag l.length kg) l) (him : InRu W (.slice ah m.length kh) m) :
    Calls Try.prog 25 #[.agg #[.slice ag l.length kg], .agg #[.slice ah m.length kh]] W fun e W' => ∃ b1 b2 v1 v2, e = .returned (.tuple #[.pointer (some ⟨v1, 0, none⟩), .pointer (some ⟨v2, 0, none⟩), .bool true]) ∧ WvR b1 W' v1 l (.slice ag l.length kg) ∧ WvR b2 W' v2 m (.slice ah m.length kh) ∧ Below W.heap.size W W' := by
  have HN1 := Lib.hid (fun W hin => i_newWeave ag kg l W h0 hok hsl hin)
  have HN2 := Lib.hid (fun W hin => i_newWeave ah kh m W m0 hom hsm hin)
  have hal := ((Below.refl W.heap.size W).alloc (Nat.le_refl _) (.cells #[.slice ag l.length kg] 26))
  have hal2 := hal.trans (((Below.refl _ (W.alloc (.cells #[.slice ag l.length kg] 26))).alloc (Nat.le_refl _) (.cells #[.slice ah m.length kh] 26)).mono hal.size)
  have HI1 := Lib.hid (inRu_below hin hal2)
  have HI2 := Lib.hid (inRu_below him hal2)
  have HB0 := Lib.hid hal2
  have hz := hal2.size
  clear hin him hsl hsm hal hal2
  go_enter Try.func25, Try.ntmps25
  go_upto_region 1 with fail
  refine gen_world2 (fun X => X.cell? ⟨W.heap.size, 0, none⟩ = some (.slice ag l.length kg) ∧ X.cell? ⟨W.heap.size + 1, 0, none⟩ = some (.slice ah m.length kh) ∧ InRu X (.slice ag l.length kg) l ∧ InRu X (.slice ah m.length kh) m ∧ Below W.heap.size W X) ⟨by simp [go_sem], by simp [go_sem], HI1.out, HI2.out, HB0.out⟩ ?_
  clear HI1 HI2 HB0 hz
  rintro X ⟨c1, c2, hi1, hi2, hb⟩
  have HI := Lib.hid (And.intro c2 (And.intro hi2 hb))
  go_wp2_with fail
  refine (HN1.out _ hi1).mono ?_
  rintro e W2 ⟨v1, rfl, hw1, hb2⟩
  have HW1 := Lib.hid hw1
  have c2' := cell_later hb2 c2
  have HI2 := Lib.hid (inRu_below HI.out.2.1 hb2)
  have HB2 := Lib.hid (HI.out.2.2.trans (hb2.mono HI.out.2.2.size))
  clear c1 c2 hi1 hi2 hb HI hw1 hb2 HN1
  go_wp2_with fail
  refine (HN2.out _ HI2.out).mono ?_
  rintro e W3 ⟨v2, rfl, hw2, hb3⟩
  have HW2 := Lib.hid hw2
  have HW3 := Lib.hid (HW1.out.bel hb3)
  have HB3 := Lib.hid (HB2.out.trans (hb3.mono HB2.out.size))
  clear c2' HI2 HB2 HW1 hw2 hb3 HN2
  go_wp2
  go_ret3
  exact ⟨_, _, v1, v2, rfl, HW3.out, HW2.out, HB3.out⟩
theorem i_CommonFrom (ag : Option Addr) (kg : Nat) (l : List Ru) (i j : Int) (W : World) (h0 : l ≠ []) (hok : gOk l = true) (hsm : ∀ r ∈ l, r.1.size ≤ 1048576) (hin : InRu W (.slice ag l.length kg) l) (hl : letC (wd l)) (h60 : (wd l).length ≤ 60)
    (hi : 0 ≤ i) (hj : 0 ≤ j) (hin2 : i ≤ (wd l).length) (hjn : j ≤ (wd l).length) :
    Calls Try.prog 9 #[.agg #[.slice ag l.length kg], .int .i64 i, .int .i64 j] W fun e W' => e = .returned (.tuple #[.int .i64 (cpl (sfx l i) (sfx l j) : Nat), .int .i64 0]) ∧ Below W.heap.size W W' := by
  have hal := (Below.refl W.heap.size W).alloc (Nat.le_refl _) (.cells #[.slice ag l.length kg] 26)
  have HAL := Lib.hid hal
  have HNW := Lib.hid (i_newWeave ag kg l _ h0 hok hsm (inRu_below hin hal))
  have HP1 := Lib.hid (fun b bw W hw => i_isPartG b bw kg ag l i 0 true W hok hw hi hin2 (Int.le_refl _) (by omega) (decide_eq_true (by omega)))
  have HP2 := Lib.hid (fun b bw W hw => i_isPartG b bw kg ag l j 0 true W hok hw hj hjn (Int.le_refl _) (by omega) (decide_eq_true (by omega)))
  have HCO := Lib.hid (fun b bw W hw => i_common2 b b bw bw kg kg ag ag l l i j W hok hok hw hw hl hl (by omega) (by omega) (.inl (by omega)) hi hj hin2 hjn)
  generalize cpl (sfx l i) (sfx l j) = c at *
  clear hin hsm hal hi hj hin2 hjn hl h60
  go_enter Try.func9, Try.ntmps9
  go_wp2_with fail
  refine HNW.out.mono ?_
  rintro e W2 ⟨bw, rfl, hw, hb2⟩
  have HW2 := Lib.hid hw
  have HB2 := Lib.hid (HAL.out.trans (hb2.mono HAL.out.size))
  clear hw hb2 HNW
  go_wp2_with fail
  refine (HP1.out _ _ _ HW2.out).mono ?_
  rintro e W3 ⟨rfl, hb3⟩
  have HW3 := Lib.hid (HW2.out.bel hb3)
  have HB3 := Lib.hid (HB2.out.trans (hb3.mono HB2.out.size))
  clear HW2 HB2 hb3 HP1
  go_wp2_with fail
  refine (HP2.out _ _ _ HW3.out).mono ?_
  rintro e W4 ⟨rfl, hb4⟩
  have HW4 := Lib.hid (HW3.out.bel hb4)
  have HB4 := Lib.hid (HB3.out.trans (hb4.mono HB3.out.size))
  clear HW3 HB3 hb4 HP2
  go_wp2_with fail
  refine (HCO.out _ _ _ HW4.out).mono ?_
  rintro e W5 ⟨rfl, hb5⟩
  have HB5 := Lib.hid (HB4.out.trans (hb5.mono HB4.out.size))
  clear HW4 HB4 hb5 HCO
  go_wp2
  go_ret2
  exact ⟨rfl, HB5.out⟩
/-- the code of SamePart -/
theorem i_SamePart (ag ah : Option Addr) (kg kh : Nat) (l m : List Ru) (i j k : Int) (W : World) (h0 : l ≠ []) (m0 : m ≠ []) (hok : gOk l = true) (hom : gOk m = true) (hsl : ∀ r ∈ l, r.1.size ≤ 1048576) (hsm : ∀ r ∈ m, r.1.size ≤ 1048576) (hin : InRu W (.slice ag l.length kg) l) (him : InRu W (.slice ah m.length kh) m) (hl : letC (wd l)) (hm : letC (wd m)) (hsl2 : (wd l).length ≤ 100000) (hsm2 : (wd m).length ≤ 100000)
    (h30 : k.toNat ≤ cpl (sfx l i) (sfx m j) + 30) (hi : 0 ≤ i) (hj : 0 ≤ j) (hk : 0 ≤ k) (hin2 : i ≤ (wd l).length) (hjn : j ≤ (wd m).length) :
    Calls Try.prog 11 #[.agg #[.slice ag l.length kg], .agg #[.slice ah m.length kh], .int .i64 i, .int .i64 j, .int .i64 k] W fun e W' => (∃ (r : Bool) (c : Int), e = .returned (.tuple #[.bool r, .int .i64 c]) ∧ (i + k ≤ (wd l).length ∧ j + k ≤ (wd m).length → c = 0 ∧ r = decide (k.toNat ≤ cpl (sfx l i) (sfx m j))) ∧ (¬ (i + k ≤ (wd l).length ∧ j + k ≤ (wd m).length) → c = 2)) ∧ Below W.heap.size W W' := by
  have hal := ((Below.refl W.heap.size W).alloc (Nat.le_refl _) (.cells #[.slice ag l.length kg] 26))
  have hal2 := hal.trans (((Below.refl _ (W.alloc (.cells #[.slice ag l.length kg] 26))).alloc (Nat.le_refl _) (.cells #[.slice ah m.length kh] 26)).mono hal.size)
  have HI1 := Lib.hid (inRu_below hin hal2)
  have HI2 := Lib.hid (inRu_below him hal2)
  have HB0 := Lib.hid hal2
  have HWE := Lib.hid (fun W hin him => i_weaves ag ah kg kh l m W h0 m0 hok hom hsl hsm hin him)
  have HEQ := Lib.hid (fun b1 b2 v1 v2 W hw hv hik hjk => i_equal2 b1 b2 v1 v2 kg kh ag ah l m i j k W hok hom hw hv hl hm hsl2 hsm2 h30 hi hj hk hik hjk)
  have HP1 := Lib.hid (fun r b bw W hw hr => i_isPartG b bw kg ag l i k r W hok hw hi hin2 hk hsl2 hr)
  have HP2 := Lib.hid (fun r b bw W hw hr => i_isPartG b bw kh ah m j k r W hom hw hj hjn hk hsm2 hr)
  have hz := hal2.size
  clear hin him hsl hsm hal hal2 h30
  generalize decide (k.toNat ≤ cpl (sfx l i) (sfx m j)) = z at *
  generalize (wd l).length = n1 at *
  generalize (wd m).length = n2 at *
  go_enter Try.func11, Try.ntmps11
  go_upto_region 1 with fail
  refine gen_world2 (fun X => X.cell? ⟨W.heap.size, 0, none⟩ = some (.slice ag l.length kg) ∧ X.cell? ⟨W.heap.size + 1, 0, none⟩ = some (.slice ah m.length kh) ∧ InRu X (.slice ag l.length kg) l ∧ InRu X (.slice ah m.length kh) m ∧ Below W.heap.size W X) ⟨by simp [go_sem], by simp [go_sem], HI1.out, HI2.out, HB0.out⟩ ?_
  clear HI1 HI2 HB0 hz
  rintro X ⟨c1, c2, hi1, hi2, hb⟩
  have HI := Lib.hid (And.intro hi1 (And.intro hi2 hb))
  clear hi1 hi2 hb
  go_wp2_with fail
  refine (HWE.out _ HI.out.1 HI.out.2.1).mono ?_
  rintro e W2 ⟨b1, b2, v1, v2, rfl, hw1, hw2, hb2⟩
  have HW := Lib.hid (And.intro hw1 hw2)
  have HB := Lib.hid (HI.out.2.2.trans (hb2.mono HI.out.2.2.size))
  clear hw1 hw2 hb2 HI c1 c2 HWE
  by_cases hA : k ≤ (n1 : Int) - i
  · go_wp2_with fail
    refine (HP1.out true _ _ _ HW.out.1 (decide_eq_true hA)).mono ?_
    rintro e W3 ⟨rfl, hb3⟩
    have HW3 := Lib.hid (And.intro (HW.out.1.bel hb3) (HW.out.2.bel hb3))
    have HB3 := Lib.hid (HB.out.trans (hb3.mono HB.out.size))
    clear HW HB hb3 HP1
    by_cases hB : k ≤ (n2 : Int) - j
    · go_wp2_with fail
      refine (HP2.out true _ _ _ HW3.out.2 (decide_eq_true hB)).mono ?_
      rintro e W4 ⟨rfl, hb4⟩
      have HW4 := Lib.hid (And.intro (HW3.out.1.bel hb4) (HW3.out.2.bel hb4))
      have HB4 := Lib.hid (HB3.out.trans (hb4.mono HB3.out.size))
      clear HW3 HB3 hb4 HP2
      go_wp2_with fail
      refine (HEQ.out _ _ _ _ _ HW4.out.1 HW4.out.2 (by omega) (by omega)).mono ?_
      rintro e W5 ⟨rfl, hb5⟩
      have HB5 := Lib.hid (HB4.out.trans (hb5.mono HB4.out.size))
      clear HW4 HB4 hb5 HEQ
      go_wp2
      go_ret2
      exact ⟨⟨z, 0, rfl, fun _ => ⟨rfl, rfl⟩, fun h => absurd ⟨by omega, by omega⟩ h⟩, HB5.out⟩
    · go_wp2_with fail
      refine (HP2.out false _ _ _ HW3.out.2 (decide_eq_false (by omega))).mono ?_
      rintro e W4 ⟨rfl, hb4⟩
      have HB4 := Lib.hid (HB3.out.trans (hb4.mono HB3.out.size))
      clear HW3 HB3 hb4 HP2 HEQ
      go_wp2
      go_ret2
      exact ⟨⟨false, 2, rfl, fun h => by omega, fun _ => rfl⟩, HB4.out⟩
  · go_wp2_with fail
    refine (HP1.out false _ _ _ HW.out.1 (decide_eq_false (by omega))).mono ?_
    rintro e W3 ⟨rfl, hb3⟩
    have HB3 := Lib.hid (HB.out.trans (hb3.mono HB.out.size))
    clear HW HB hb3 HP1 HP2 HEQ
    go_wp2
    go_ret2
    exact ⟨⟨false, 2, rfl, fun h => by omega, fun _ => rfl⟩, HB3.out⟩
theorem i_EqualParts (ag : Option Addr) (kg : Nat) (l : List Ru) (i j k : Int) (W : World) (h0 : l ≠ []) (hok : gOk l = true) (hsl : ∀ r ∈ l, r.1.size ≤ 1048576) (hin : InRu W (.slice ag l.length kg) l) (hl : letC (wd l)) (hsl2 : (wd l).length ≤ 100000)
    (h30 : k.toNat ≤ cpl (sfx l i) (sfx l j) + 30) (hi : 0 ≤ i) (hj : 0 ≤ j) (hk : 0 ≤ k) (hin2 : i ≤ (wd l).length) (hjn : j ≤ (wd l).length) :
    Calls Try.prog 10 #[.agg #[.slice ag l.length kg], .int .i64 i, .int .i64 j, .int .i64 k] W fun e W' => (∃ (r : Bool) (c : Int), e = .returned (.tuple #[.bool r, .int .i64 c]) ∧ (i + k ≤ (wd l).length ∧ j + k ≤ (wd l).length → c = 0 ∧ r = decide (k.toNat ≤ cpl (sfx l i) (sfx l j))) ∧ (¬ (i + k ≤ (wd l).length ∧ j + k ≤ (wd l).length) → c = 2)) ∧ Below W.heap.size W W' := by
  have hal := (Below.refl W.heap.size W).alloc (Nat.le_refl _) (.cells #[.slice ag l.length kg] 26)
  have HAL := Lib.hid hal
  have hI := inRu_below hin hal
  have HSP := Lib.hid (i_SamePart ag ag kg kg l l i j k _ h0 h0 hok hok hsl hsl hI hI hl hl hsl2 hsl2 h30 hi hj hk hin2 hjn)
  clear hin hsl hal hI h30 hi hj hk hin2 hjn
  go_enter Try.func10, Try.ntmps10
  go_wp2_with fail
  refine HSP.out.mono ?_
  rintro e W2 ⟨⟨r, c, rfl, h1, h2⟩, hb2⟩
  have HB := Lib.hid (HAL.out.trans (hb2.mono HAL.out.size))
  have H12 := Lib.hid (And.intro h1 h2)
  clear HAL hb2 h1 h2 HSP
  go_wp2
  go_ret2
  exact ⟨⟨r, c, rfl, H12.out.1, H12.out.2⟩, HB.out⟩
end Go.Proofs.Ytoejelieogjjpaa

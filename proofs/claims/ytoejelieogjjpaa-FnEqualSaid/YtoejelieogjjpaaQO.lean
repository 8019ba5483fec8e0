/- compare of two weaves; EqualWords, FirstDifference, CompareGrammars, StartsWith, EndsWith of words that are the same or of which the second one is longer. -/
import Derived.Test.YtoejelieogjjpaaQC
import Derived.Test.YtoejelieogjjpaaZJ
import Derived.Test.YtoejelieogjjpaaY8
namespace Go.Proofs.Ytoejelieogjjpaa
open Go.ChangeShapes Go.WideShapes Go.RowKit
set_option linter.unusedVariables false
set_option linter.unusedSimpArgs false
set_option maxHeartbeats 2000000
set_option maxRecDepth 100000
theorem i_compare2 (b1 b2 v1 v2 p1 p2 : Nat) (a1 a2 : Option Addr) (l m : List Ru) (i j : Int) (W : World) (hok : gOk l = true) (hom : gOk m = true) (hw : WvR b1 W v1 l (.slice a1 l.length p1)) (hv : WvR b2 W v2 m (.slice a2 m.length p2)) (hl : letC (wd l)) (hm : letC (wd m)) (hsl : (wd l).length ≤ 100000) (hsm : (wd m).length ≤ 100000) (h60 : ((wd l).length : Int) - i ≤ 60 ∨ ((wd m).length : Int) - j ≤ 60)
    (hi : 0 ≤ i) (hj : 0 ≤ j) (hin : i ≤ (wd l).length) (hjn : j ≤ (wd m).length) :
    Calls Try.prog 29 #[.pointer (some ⟨v1, 0, none⟩), .int .i64 i, .pointer (some ⟨v2, 0, none⟩), .int .i64 j] W fun e W' => e = .returned (.int .i64 (cmpB (sfx l i) (sfx m j))) ∧ Below W.heap.size W W' := by
  have hle := cpl_le (sfx l i) (sfx m j)
  have HC : Hid (cmpB (sfx l i) (sfx m j) = if cpl (sfx l i) (sfx m j) < (wd l).length - i.toNat ∧ cpl (sfx l i) (sfx m j) < (wd m).length - j.toNat then cmpB [(wd l).getD (i.toNat + cpl (sfx l i) (sfx m j)) 0] [(wd m).getD (j.toNat + cpl (sfx l i) (sfx m j)) 0] else cmpI ((wd l).length - i) ((wd m).length - j)) := by
    show _ = _
    rw [cmpB_at, sfx_len, sfx_len]
    congr 1
    · congr 1 <;> simp [sfx, List.getD_eq_getElem?_getD]
    · congr 1 <;> omega
  rw [sfx_len, sfx_len] at hle
  have HCO := Lib.hid (fun W hw hv => i_common2 b1 b2 v1 v2 p1 p2 a1 a2 l m i j W hok hom hw hv hl hm hsl hsm h60 hi hj hin hjn)
  have HL := Lib.hid (fun W hw => i_length b1 v1 p1 a1 l W hok hw)
  have HM := Lib.hid (fun W hw => i_length b2 v2 p2 a2 m W hom hw)
  have HLE := Lib.hid (fun i W hw h0 h1 => i_letter b1 v1 p1 a1 l i W hok hw h0 h1 hsl)
  have HME := Lib.hid (fun i W hw h0 h1 => i_letter b2 v2 p2 a2 m i W hom hw h0 h1 hsm)
  have HW := Lib.hid (And.intro hw hv)
  obtain ⟨c, hc⟩ : ∃ c, c = cpl (sfx l i) (sfx m j) := ⟨_, rfl⟩
  obtain ⟨z, hz⟩ : ∃ z, z = cmpB (sfx l i) (sfx m j) := ⟨_, rfl⟩
  obtain ⟨n, hn⟩ : ∃ n, n = (wd l).length := ⟨_, rfl⟩
  obtain ⟨n2, hn2⟩ : ∃ n, n = (wd m).length := ⟨_, rfl⟩
  rw [← hn] at hsl hin hle HL HLE HC h60
  rw [← hn2] at hsm hjn hle HM HME HC h60
  rw [← hc] at hle HCO HC
  rw [← hz] at HC ⊢
  have k1 : IntKind.i64.wrap ((n : Int) - i) = n - i := by rw [IntKind.wrap_i64]; omega
  have k2 : IntKind.i64.wrap ((n2 : Int) - j) = n2 - j := by rw [IntKind.wrap_i64]; omega
  have k3 : IntKind.i64.wrap (i + c) = i + c := by rw [IntKind.wrap_i64]; omega
  have k4 : IntKind.i64.wrap (j + c) = j + c := by rw [IntKind.wrap_i64]; omega
  clear hn hn2 hc hz hw hl hv hm
  go_enter Try.func29, Try.ntmps29
  go_wp2_with fail
  refine (HCO.out _ HW.out.1 HW.out.2).mono ?_
  rintro e W1 ⟨rfl, hb1⟩
  have HW1 := Lib.hid (And.intro (HW.out.1.bel hb1) (HW.out.2.bel hb1))
  clear HCO HW
  go_wp2_with fail
  refine (HL.out _ HW1.out.1).mono ?_
  rintro e W2 ⟨rfl, hb2⟩
  have HB := Lib.hid (hb1.trans (hb2.mono hb1.size))
  have HW2 := Lib.hid (And.intro (HW1.out.1.bel hb2) (HW1.out.2.bel hb2))
  clear hb1 hb2 HW1
  have hbz : ∀ x y : UInt8, (⟨#[x]⟩ : ByteArray).toList = [x] := fun x _ => by simp
  by_cases h1 : i + c < n
  · by_cases h2 : j + c < n2
    · have hz : z = _ := HC.out.trans (if_pos ⟨by omega, by omega⟩)
      have HZ := Lib.hid hz
      have k5 : (i + c).toNat = i.toNat + c := by omega
      have k6 : (j + c).toNat = j.toNat + c := by omega
      have L1 := Lib.hid (fun W hw => HLE.out (i + c) W hw (by omega) h1)
      have L2 := Lib.hid (fun W hw => HME.out (j + c) W hw (by omega) h2)
      rw [k5] at L1
      rw [k6] at L2
      generalize (wd l).getD (i.toNat + c) 0 = q1 at *
      generalize (wd m).getD (j.toNat + c) 0 = q2 at *
      clear HC hz HLE HME k5 k6
      go_wp2_with fail
      refine (HM.out _ HW2.out.2).mono ?_
      rintro e W3 ⟨rfl, hb3⟩
      have HB3 := Lib.hid (HB.out.trans (hb3.mono HB.out.size))
      have HW3 := Lib.hid (And.intro (HW2.out.1.bel hb3) (HW2.out.2.bel hb3))
      clear hb3 HB HW2
      go_wp2_with fail
      refine (L1.out _ HW3.out.1).mono ?_
      rintro e W4 ⟨rfl, hb4⟩
      have HB4 := Lib.hid (HB3.out.trans (hb4.mono HB3.out.size))
      have HW4 := Lib.hid (And.intro (HW3.out.1.bel hb4) (HW3.out.2.bel hb4))
      clear hb4 HB3 HW3
      go_wp2_with fail
      refine (L2.out _ HW4.out.2).mono ?_
      rintro e W5 ⟨rfl, hb5⟩
      have HB5 := Lib.hid (HB4.out.trans (hb5.mono HB4.out.size))
      clear hb5 HB4 HW4 HL
      go_wp2_with fail
      refine (f_CompareZ _ _ _).mono ?_
      rintro e W6 ⟨rfl, rfl⟩
      go_wp2
      go_ret
      exact ⟨ret_int HZ.out.symm, HB5.out⟩
    · have hz : z = _ := HC.out.trans (if_neg (by omega))
      have HZ := Lib.hid hz
      clear HC hz HLE HME
      go_wp2_with fail
      refine (HM.out _ HW2.out.2).mono ?_
      rintro e W3 ⟨rfl, hb3⟩
      have HB3 := Lib.hid (HB.out.trans (hb3.mono HB.out.size))
      have HW3 := Lib.hid (And.intro (HW2.out.1.bel hb3) (HW2.out.2.bel hb3))
      clear hb3 HB HW2
      go_wp2_with fail
      refine (HL.out _ HW3.out.1).mono ?_
      rintro e W4 ⟨rfl, hb4⟩
      have HB4 := Lib.hid (HB3.out.trans (hb4.mono HB3.out.size))
      have HW4 := Lib.hid (And.intro (HW3.out.1.bel hb4) (HW3.out.2.bel hb4))
      clear hb4 HB3 HW3
      go_wp2_with fail
      refine (HM.out _ HW4.out.2).mono ?_
      rintro e W5 ⟨rfl, hb5⟩
      have HB5 := Lib.hid (HB4.out.trans (hb5.mono HB4.out.size))
      clear hb5 HB4 HW4 HL
      go_wp2_with fail
      refine (f_CompareI _ _ _).mono ?_
      rintro e W6 ⟨rfl, rfl⟩
      go_wp2
      go_ret
      exact ⟨ret_int HZ.out.symm, HB5.out⟩
  · have hz : z = _ := HC.out.trans (if_neg (by omega))
    have HZ := Lib.hid hz
    clear HC hz HLE HME
    go_wp2_with fail
    refine (HL.out _ HW2.out.1).mono ?_
    rintro e W4 ⟨rfl, hb4⟩
    have HB4 := Lib.hid (HB.out.trans (hb4.mono HB.out.size))
    have HW4 := Lib.hid (And.intro (HW2.out.1.bel hb4) (HW2.out.2.bel hb4))
    clear hb4 HB HW2
    go_wp2_with fail
    refine (HM.out _ HW4.out.2).mono ?_
    rintro e W5 ⟨rfl, hb5⟩
    have HB5 := Lib.hid (HB4.out.trans (hb5.mono HB4.out.size))
    clear hb5 HB4 HW4 HL
    go_wp2_with fail
    refine (f_CompareI _ _ _).mono ?_
    rintro e W6 ⟨rfl, rfl⟩
    go_wp2
    go_ret
    exact ⟨ret_int HZ.out.symm, HB5.out⟩
theorem cpl_self : ∀ x : List UInt8, cpl x x = x.length
  | [] => rfl
  | a :: x => by rw [cpl_cons, if_pos rfl, cpl_self x]; rfl
theorem sfx_0 (l : List Ru) : sfx l 0 = wd l := by simp [sfx]
theorem i_same2 (b1 b2 v1 v2 p1 p2 : Nat) (a1 a2 : Option Addr) (l m : List Ru) (r : Bool) (W : World) (hok : gOk l = true) (hom : gOk m = true) (hw : WvR b1 W v1 l (.slice a1 l.length p1)) (hv : WvR b2 W v2 m (.slice a2 m.length p2)) (hl : letC (wd l)) (hm : letC (wd m)) (hsl : (wd l).length ≤ 100000) (hsm : (wd m).length ≤ 100000)
    (hd : (r = true ∧ wd m = wd l) ∨ (r = false ∧ (wd l).length < (wd m).length)) :
    Calls Try.prog 28 #[.pointer (some ⟨v1, 0, none⟩), .pointer (some ⟨v2, 0, none⟩)] W fun e W' => e = .returned (.bool r) ∧ Below W.heap.size W W' := by
  have HL := Lib.hid (fun W hw => i_length b1 v1 p1 a1 l W hok hw)
  have HM := Lib.hid (fun W hw => i_length b2 v2 p2 a2 m W hom hw)
  have HW := Lib.hid (And.intro hw hv)
  rcases hd with ⟨rfl, hd⟩ | ⟨rfl, hd⟩
  · have hc : cpl (sfx l 0) (sfx m 0) = (wd l).length := by rw [sfx_0, sfx_0, hd, cpl_self]
    have HE := Lib.hid (fun W hw hv => i_equal2 b1 b2 v1 v2 p1 p2 a1 a2 l m 0 0 ((wd l).length : Nat) W hok hom hw hv hl hm hsl hsm (by rw [hc]; omega) (by omega) (by omega) (by omega) (by omega) (by rw [hd]; omega))
    rw [hc, Int.toNat_natCast, decide_eq_true (Nat.le_refl _)] at HE
    rw [hd] at HM
    generalize (wd l).length = n at *
    clear hw hv hl hm hd hc hsm
    go_enter Try.func28, Try.ntmps28
    go_wp2_with fail
    refine (HL.out _ HW.out.1).mono ?_
    rintro e W1 ⟨rfl, hb1⟩
    have HW1 := Lib.hid (And.intro (HW.out.1.bel hb1) (HW.out.2.bel hb1))
    have HB1 := Lib.hid hb1
    clear hb1 HW
    go_wp2_with fail
    refine (HM.out _ HW1.out.2).mono ?_
    rintro e W2 ⟨rfl, hb2⟩
    have HW2 := Lib.hid (And.intro (HW1.out.1.bel hb2) (HW1.out.2.bel hb2))
    have HB2 := Lib.hid (HB1.out.trans (hb2.mono HB1.out.size))
    clear hb2 HW1 HB1
    go_wp2_with fail
    refine (HL.out _ HW2.out.1).mono ?_
    rintro e W3 ⟨rfl, hb3⟩
    have HW3 := Lib.hid (And.intro (HW2.out.1.bel hb3) (HW2.out.2.bel hb3))
    have HB3 := Lib.hid (HB2.out.trans (hb3.mono HB2.out.size))
    clear hb3 HW2 HB2
    go_wp2_with fail
    refine (HE.out _ HW3.out.1 HW3.out.2).mono ?_
    rintro e W4 ⟨rfl, hb4⟩
    have HB4 := Lib.hid (HB3.out.trans (hb4.mono HB3.out.size))
    clear hb4 HW3 HB3
    go_wp2
    go_ret
    exact ⟨rfl, HB4.out⟩
  · have hne : (((wd l).length : Int) == ((wd m).length : Int)) = false := by rw [beq_eq_false_iff_ne]; omega
    generalize (wd l).length = n at *
    generalize (wd m).length = n2 at *
    clear hw hv hl hm hd hsl hsm
    go_enter Try.func28, Try.ntmps28
    go_wp2_with fail
    refine (HL.out _ HW.out.1).mono ?_
    rintro e W1 ⟨rfl, hb1⟩
    have HW1 := Lib.hid (And.intro (HW.out.1.bel hb1) (HW.out.2.bel hb1))
    have HB1 := Lib.hid hb1
    clear hb1 HW
    go_wp2_with fail
    refine (HM.out _ HW1.out.2).mono ?_
    rintro e W2 ⟨rfl, hb2⟩
    have HB2 := Lib.hid (HB1.out.trans (hb2.mono HB1.out.size))
    clear hb2 HW1 HB1
    go_wp2
    go_ret
    exact ⟨rfl, HB2.out⟩
end Go.Proofs.Ytoejelieogjjpaa

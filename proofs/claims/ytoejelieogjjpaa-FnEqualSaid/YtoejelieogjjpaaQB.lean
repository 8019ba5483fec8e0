/- equal and common of two weaves whose words differ late. -/
import Derived.Test.YtoejelieogjjpaaZI
import Derived.Test.YtoejelieogjjpaaQA
namespace Go.Proofs.Ytoejelieogjjpaa
open Go.ChangeShapes Go.WideShapes Go.RowKit
set_option linter.unusedVariables false
set_option linter.unusedSimpArgs false
set_option maxHeartbeats 2000000
set_option maxRecDepth 100000
theorem i_equal2 (b1 b2 v1 v2 p1 p2 : Nat) (a1 a2 : Option Addr) (l m : List Ru) (i j k : Int) (W : World) (hok : gOk l = true) (hom : gOk m = true) (hw : WvR b1 W v1 l (.slice a1 l.length p1)) (hv : WvR b2 W v2 m (.slice a2 m.length p2)) (hl : letC (wd l)) (hm : letC (wd m)) (hsl : (wd l).length ≤ 100000) (hsm : (wd m).length ≤ 100000) (h30 : k.toNat ≤ cpl (sfx l i) (sfx m j) + 30)
    (hi : 0 ≤ i) (hj : 0 ≤ j) (hk : 0 ≤ k) (hik : i + k ≤ (wd l).length) (hjk : j + k ≤ (wd m).length) :
    Calls Try.prog 26 #[.pointer (some ⟨v1, 0, none⟩), .int .i64 i, .pointer (some ⟨v2, 0, none⟩), .int .i64 j, .int .i64 k] W fun e W' => e = .returned (.bool (decide (k.toNat ≤ cpl (sfx l i) (sfx m j)))) ∧ Below W.heap.size W W' := by
  have HPA := Lib.hid (prt_eq2 hl hm hi hj hk hik hjk h30)
  have HP1 := Lib.hid (fun W hw => i_print b1 v1 p1 a1 l i (i + k) W hok hi hw)
  have HP2 := Lib.hid (fun W hw => i_print b2 v2 p2 a2 m j (j + k) W hom hj hw)
  have HW := Lib.hid hw
  have HV := Lib.hid hv
  have k1 : IntKind.i64.wrap (i + k) = i + k := by rw [IntKind.wrap_i64]; omega
  have k2 : IntKind.i64.wrap (j + k) = j + k := by rw [IntKind.wrap_i64]; omega
  obtain ⟨x1, hx1⟩ : ∃ x, x = evN bA (ptX l i (i + k)) := ⟨_, rfl⟩
  obtain ⟨x2, hx2⟩ : ∃ x, x = evN bB (ptX l i (i + k)) := ⟨_, rfl⟩
  obtain ⟨y1, hy1⟩ : ∃ x, x = evN bA (ptX m j (j + k)) := ⟨_, rfl⟩
  obtain ⟨y2, hy2⟩ : ∃ x, x = evN bB (ptX m j (j + k)) := ⟨_, rfl⟩
  rw [← hx1, ← hx2] at HP1 HPA
  rw [← hy1, ← hy2] at HP2 HPA
  obtain ⟨z, hz⟩ : ∃ z, z = decide (k.toNat ≤ cpl (sfx l i) (sfx m j)) := ⟨_, rfl⟩
  have HZ : Hid (z = decide (x1 = y1 ∧ x2 = y2)) := by
    show z = _
    rw [hz]
    exact decide_eq_decide.2 HPA.out.symm
  rw [← hz]
  clear HPA hz hx1 hx2 hy1 hy2 hw hl hv hm h30
  go_enter Try.func26, Try.ntmps26
  go_wp2_with fail
  refine (HP1.out _ HW.out).mono ?_
  rintro e W1 ⟨rfl, hb1⟩
  have HV1 := Lib.hid (HV.out.bel hb1)
  go_wp2_with fail
  refine (HP2.out _ HV1.out).mono ?_
  rintro e W2 ⟨rfl, hb2⟩
  have HB := Lib.hid (hb1.trans (hb2.mono hb1.size))
  clear hb1 hb2 HW HV HV1 HP1 HP2
  unfold pv
  go_wp2
  go_ret
  refine ⟨ret_bool ?_, HB.out⟩
  rw [HZ.out, Bool.eq_iff_iff]
  simp [Int.ofNat_inj]
theorem i_common2 (b1 b2 v1 v2 p1 p2 : Nat) (a1 a2 : Option Addr) (l m : List Ru) (i j : Int) (W : World) (hok : gOk l = true) (hom : gOk m = true) (hw : WvR b1 W v1 l (.slice a1 l.length p1)) (hv : WvR b2 W v2 m (.slice a2 m.length p2)) (hl : letC (wd l)) (hm : letC (wd m)) (hsl : (wd l).length ≤ 100000) (hsm : (wd m).length ≤ 100000) (h60 : ((wd l).length : Int) - i ≤ 60 ∨ ((wd m).length : Int) - j ≤ 60)
    (hi : 0 ≤ i) (hj : 0 ≤ j) (hin : i ≤ (wd l).length) (hjn : j ≤ (wd m).length) :
    Calls Try.prog 24 #[.pointer (some ⟨v1, 0, none⟩), .int .i64 i, .pointer (some ⟨v2, 0, none⟩), .int .i64 j] W fun e W' => e = .returned (.int .i64 (cpl (sfx l i) (sfx m j) : Nat)) ∧ Below W.heap.size W W' := by
  have hle := cpl_le (sfx l i) (sfx m j)
  rw [sfx_len, sfx_len] at hle
  obtain ⟨n, hn⟩ : ∃ n, n = (wd l).length := ⟨_, rfl⟩
  obtain ⟨n2, hn2⟩ : ∃ n, n = (wd m).length := ⟨_, rfl⟩
  have HE := Lib.hid (fun k hk hik hjk W hw hv h30 => i_equal2 b1 b2 v1 v2 p1 p2 a1 a2 l m i j k W hok hom hw hv hl hm hsl hsm h30 hi hj hk hik hjk)
  have HL := Lib.hid (fun W hw => i_length b1 v1 p1 a1 l W hok hw)
  have HL2 := Lib.hid (fun W hw => i_length b2 v2 p2 a2 m W hom hw)
  have HW := Lib.hid hw
  have HV := Lib.hid hv
  obtain ⟨c, hc⟩ : ∃ c, c = cpl (sfx l i) (sfx m j) := ⟨_, rfl⟩
  rw [← hn] at hsl hin hle HE HL h60
  rw [← hn2] at hsm hjn hle HE HL2 h60
  rw [← hc] at hle HE ⊢
  have k1 : IntKind.i64.wrap ((n : Int) - i) = n - i := by rw [IntKind.wrap_i64]; omega
  have k2 : IntKind.i64.wrap ((n2 : Int) - j) = n2 - j := by rw [IntKind.wrap_i64]; omega
  have hcI : (c : Int) ≤ (n : Int) - i ∧ (c : Int) ≤ (n2 : Int) - j := by omega
  clear hn hn2 hc hle hw hl hv hm
  go_enter Try.func24, Try.ntmps24
  go_wp2_with fail
  refine (HL.out _ HW.out).mono ?_
  rintro e W1 ⟨rfl, hb1⟩
  have HW1 := Lib.hid (HW.out.bel hb1)
  have HV1 := Lib.hid (HV.out.bel hb1)
  go_wp2_with fail
  refine (HL2.out _ HV1.out).mono ?_
  rintro e W2 ⟨rfl, hb2⟩
  have HB := Lib.hid (hb1.trans (hb2.mono hb1.size))
  have HW2 := Lib.hid (HW1.out.bel hb2)
  have HV2 := Lib.hid (HV1.out.bel hb2)
  clear hb1 hb2 HW HW1 HL HV HV1 HL2
  go_wp2_with fail
  go_loopw [9, 10] (fun x y wr => ∃ lo hi : Int, x = .int .i64 lo ∧ y = .int .i64 hi ∧ 0 ≤ lo ∧ lo ≤ c ∧ (c : Int) ≤ hi ∧ hi ≤ (n : Int) - i ∧ hi ≤ (n2 : Int) - j ∧ hi - lo ≤ 60 ∧ WvR b1 wr v1 l (.slice a1 l.length p1) ∧ WvR b2 wr v2 m (.slice a2 m.length p2) ∧ Below W.heap.size W wr) (fun x y _ => (intOf y - intOf x).toNat)
  case atStart => exact ⟨0, _, rfl, rfl, by omega, by omega, by omega, by omega, by omega, by omega, HW2.out, HV2.out, HB.out⟩
  case round =>
    clear HW2 HV2 HB
    obtain ⟨lo, hi, rfl, rfl, h0, h1, h2, h3, h4, h5, hwv, hvv, hbl⟩ := hrel
    have HWR := Lib.hid hwv
    have HVR := Lib.hid hvv
    have HBR := Lib.hid hbl
    clear hwv hvv hbl
    by_cases hlt : lo < hi
    · obtain ⟨q, hq⟩ : ∃ q : Int, q = (lo + hi + 1).tdiv 2 := ⟨_, rfl⟩
      have k3 : IntKind.i64.wrap (lo + hi) = lo + hi := by rw [IntKind.wrap_i64]; omega
      have k4 : IntKind.i64.wrap (lo + hi + 1) = lo + hi + 1 := by rw [IntKind.wrap_i64]; omega
      have hq2 : q = (lo + hi + 1) / 2 := by rw [hq]; exact Int.tdiv_eq_ediv_of_nonneg (by omega)
      have k5 : IntKind.i64.wrap q = q := by rw [IntKind.wrap_i64]; omega
      have k6 : IntKind.i64.wrap (q - 1) = q - 1 := by rw [IntKind.wrap_i64]; omega
      go_wp2_with fail
      rw [← hq]
      have HM : Hid (lo < q ∧ q ≤ hi ∧ hi - lo ≤ 60) := (by omega : lo < q ∧ q ≤ hi ∧ hi - lo ≤ 60)
      refine (HE.out q (by omega) (by omega) (by omega) _ HWR.out HVR.out (by omega)).mono ?_
      rintro e W3 ⟨rfl, hb3⟩
      have HW3 := Lib.hid (HWR.out.bel hb3)
      have HV3 := Lib.hid (HVR.out.bel hb3)
      have HB3 := Lib.hid (HBR.out.trans (hb3.mono HBR.out.size))
      clear hb3 HWR HVR HBR HE hq hq2
      by_cases hmc : q.toNat ≤ c
      · have hd : decide (q.toNat ≤ c) = true := by simpa using hmc
        rw [hd]
        clear hd
        go_wp2
        have hmm := HM.out
        clear k1 k2 k3 k4 k5 k6
        exact ⟨⟨q, hi, rfl, rfl, by omega, by omega, by omega, by omega, by omega, by omega, HW3.out, HV3.out, HB3.out⟩, by have := HM.out; simp only [intOf]; omega⟩
      · have hd : decide (q.toNat ≤ c) = false := by simpa using hmc
        rw [hd]
        clear hd
        go_wp2
        have hmm := HM.out
        clear k1 k2 k3 k4 k5 k6
        exact ⟨⟨lo, q - 1, rfl, rfl, by omega, by omega, by omega, by omega, by omega, by omega, HW3.out, HV3.out, HB3.out⟩, by have := HM.out; simp only [intOf]; omega⟩
    · clear HE
      go_wp2
      go_ret
      exact ⟨ret_int (by omega), HBR.out⟩
end Go.Proofs.Ytoejelieogjjpaa

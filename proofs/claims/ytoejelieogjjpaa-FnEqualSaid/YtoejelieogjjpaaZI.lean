/- equal and length. -/
import Derived.Test.YtoejelieogjjpaaZG
import Derived.Test.YtoejelieogjjpaaZH
namespace Go.Proofs.Ytoejelieogjjpaa
open Go.ChangeShapes Go.WideShapes Go.RowKit
set_option linter.unusedVariables false
set_option linter.unusedSimpArgs false
set_option maxHeartbeats 2000000
set_option maxRecDepth 100000
@[go_sem] theorem eqPrt (a b c d : Int) (w : World) : (Op.equalIn 10000 74 (.agg #[.int .u64 a, .int .u64 b]) (.agg #[.int .u64 c, .int .u64 d])).run Try.prog w = .ok (a == c && b == d) w := by
  have u3 := Try.underlying63
  have a3 := Try.isAgg63
  have z3 := Try.sizeOf63
  rw [show (10000 : Nat) = 9999 + 1 from rfl, Op.equalIn]
  simp only [Sem.run_bind, run_underlying Try.underlying74, Result.andThen_ok]
  simp only [Std.Legacy.Range.forIn_eq_forIn_range', Std.Legacy.Range.size, Nat.sub_zero, Nat.add_sub_cancel, Nat.div_one, List.range'_succ, List.range'_zero, List.forIn_cons, List.forIn_nil]
  go_simp
  by_cases h1 : a = c <;> by_cases h2 : b = d <;> simp [h1, h2]
theorem i_equal (base bw cap : Nat) (a : Option Addr) (l : List Ru) (i j k : Int) (W : World) (hok : gOk l = true) (hw : WvR base W bw l (.slice a l.length cap)) (hl : letC (wd l)) (h30 : (wd l).length ≤ 30)
    (hi : 0 ≤ i) (hj : 0 ≤ j) (hk : 0 ≤ k) (hik : i + k ≤ (wd l).length) (hjk : j + k ≤ (wd l).length) :
    Calls Try.prog 26 #[.pointer (some ⟨bw, 0, none⟩), .int .i64 i, .pointer (some ⟨bw, 0, none⟩), .int .i64 j, .int .i64 k] W fun e W' => e = .returned (.bool (decide (k.toNat ≤ cpl (sfx l i) (sfx l j)))) ∧ Below W.heap.size W W' := by
  have HPA := Lib.hid (prt_eq hl h30 hi hj hk hik hjk)
  have HP1 := Lib.hid (fun W hw => i_print base bw cap a l i (i + k) W hok hi hw)
  have HP2 := Lib.hid (fun W hw => i_print base bw cap a l j (j + k) W hok hj hw)
  have HW := Lib.hid hw
  have k1 : IntKind.i64.wrap (i + k) = i + k := by rw [IntKind.wrap_i64]; omega
  have k2 : IntKind.i64.wrap (j + k) = j + k := by rw [IntKind.wrap_i64]; omega
  obtain ⟨x1, hx1⟩ : ∃ x, x = evN bA (ptX l i (i + k)) := ⟨_, rfl⟩
  obtain ⟨x2, hx2⟩ : ∃ x, x = evN bB (ptX l i (i + k)) := ⟨_, rfl⟩
  obtain ⟨y1, hy1⟩ : ∃ x, x = evN bA (ptX l j (j + k)) := ⟨_, rfl⟩
  obtain ⟨y2, hy2⟩ : ∃ x, x = evN bB (ptX l j (j + k)) := ⟨_, rfl⟩
  rw [← hx1, ← hx2] at HP1 HPA
  rw [← hy1, ← hy2] at HP2 HPA
  obtain ⟨z, hz⟩ : ∃ z, z = decide (k.toNat ≤ cpl (sfx l i) (sfx l j)) := ⟨_, rfl⟩
  have HZ : Hid (z = decide (x1 = y1 ∧ x2 = y2)) := by
    show z = _
    rw [hz]
    exact decide_eq_decide.2 HPA.out.symm
  rw [← hz]
  clear HPA hz hx1 hx2 hy1 hy2 hw hl
  go_enter Try.func26, Try.ntmps26
  go_wp2_with fail
  refine (HP1.out _ HW.out).mono ?_
  rintro e W1 ⟨rfl, hb1⟩
  have HW1 := Lib.hid (HW.out.bel hb1)
  go_wp2_with fail
  refine (HP2.out _ HW1.out).mono ?_
  rintro e W2 ⟨rfl, hb2⟩
  have HB := Lib.hid (hb1.trans (hb2.mono hb1.size))
  clear hb1 hb2 HW HW1 HP1 HP2
  unfold pv
  go_wp2
  go_ret
  refine ⟨ret_bool ?_, HB.out⟩
  rw [HZ.out, Bool.eq_iff_iff]
  simp [Int.ofNat_inj]
theorem i_length (base bw cap : Nat) (a : Option Addr) (l : List Ru) (W : World) (hok : gOk l = true) (hw : WvR base W bw l (.slice a l.length cap)) :
    Calls Try.prog 30 #[.pointer (some ⟨bw, 0, none⟩)] W fun e W' => e = .returned (.int .i64 ((wd l).length : Nat)) ∧ Below W.heap.size W W' := by
  have HWL := Lib.hid (wd_len hok)
  obtain ⟨gl, cl, gm, cm, gs, cs, c0, c1, -, -, hin, hown, -, -⟩ := hw
  have HO := Lib.hid hown
  clear hin hown
  go_enter Try.func30, Try.ntmps30
  go_wp2_with fail
  have hl := (gOk_some hok).2.2.1
  have hls := HO.out
  rw [← hl] at hls
  rw [← hl]
  refine (i_last _ (gLn l) base _ (by have := (gOk_some hok).1; omega) hls).mono ?_
  rintro e W2 ⟨rfl, hq⟩
  have HB : Hid (Below W.heap.size W W2) := by
    obtain ⟨n, rfl⟩ := hq
    exact below_drewN (Below.refl _ _) n
  rw [← HWL.out]
  clear HO HWL hq hls
  go_wp2
  go_ret
  exact ⟨rfl, HB.out⟩
/-- the greatest common length, found by halving -/
def mnL (l : List Ru) (i j : Int) : Int := if ((wd l).length : Int) - i ≤ (wd l).length - j then (wd l).length - i else (wd l).length - j
theorem i_common (base bw cap : Nat) (a : Option Addr) (l : List Ru) (i j : Int) (W : World) (hok : gOk l = true) (hw : WvR base W bw l (.slice a l.length cap)) (hl : letC (wd l)) (h30 : (wd l).length ≤ 30)
    (hi : 0 ≤ i) (hj : 0 ≤ j) (hin : i ≤ (wd l).length) (hjn : j ≤ (wd l).length) :
    Calls Try.prog 24 #[.pointer (some ⟨bw, 0, none⟩), .int .i64 i, .pointer (some ⟨bw, 0, none⟩), .int .i64 j] W fun e W' => e = .returned (.int .i64 (cpl (sfx l i) (sfx l j) : Nat)) ∧ Below W.heap.size W W' := by
  have hle := cpl_le (sfx l i) (sfx l j)
  rw [sfx_len, sfx_len] at hle
  obtain ⟨n, hn⟩ : ∃ n, n = (wd l).length := ⟨_, rfl⟩
  have HE := Lib.hid (fun k hk hik hjk W hw => i_equal base bw cap a l i j k W hok hw hl h30 hi hj hk hik hjk)
  have HL := Lib.hid (fun W hw => i_length base bw cap a l W hok hw)
  have HW := Lib.hid hw
  obtain ⟨c, hc⟩ : ∃ c, c = cpl (sfx l i) (sfx l j) := ⟨_, rfl⟩
  rw [← hn] at h30 hin hjn hle HE HL
  rw [← hc] at hle HE ⊢
  have k1 : IntKind.i64.wrap ((n : Int) - i) = n - i := by rw [IntKind.wrap_i64]; omega
  have k2 : IntKind.i64.wrap ((n : Int) - j) = n - j := by rw [IntKind.wrap_i64]; omega
  have hcI : (c : Int) ≤ (n : Int) - i ∧ (c : Int) ≤ (n : Int) - j := by omega
  clear hn hc hle hw hl
  go_enter Try.func24, Try.ntmps24
  go_wp2_with fail
  refine (HL.out _ HW.out).mono ?_
  rintro e W1 ⟨rfl, hb1⟩
  have HW1 := Lib.hid (HW.out.bel hb1)
  go_wp2_with fail
  refine (HL.out _ HW1.out).mono ?_
  rintro e W2 ⟨rfl, hb2⟩
  have HB := Lib.hid (hb1.trans (hb2.mono hb1.size))
  have HW2 := Lib.hid (HW1.out.bel hb2)
  clear hb1 hb2 HW HW1 HL
  go_wp2_with fail
  go_loopw [9, 10] (fun x y wr => ∃ lo hi : Int, x = .int .i64 lo ∧ y = .int .i64 hi ∧ 0 ≤ lo ∧ lo ≤ c ∧ (c : Int) ≤ hi ∧ hi ≤ (n : Int) - i ∧ hi ≤ (n : Int) - j ∧ WvR base wr bw l (.slice a l.length cap) ∧ Below W.heap.size W wr) (fun x y _ => (intOf y - intOf x).toNat)
  case atStart => exact ⟨0, _, rfl, rfl, by omega, by omega, by omega, by omega, by omega, HW2.out, HB.out⟩
  case round =>
    clear HW2 HB
    obtain ⟨lo, hi, rfl, rfl, h0, h1, h2, h3, h4, hwv, hbl⟩ := hrel
    have HWR := Lib.hid hwv
    have HBR := Lib.hid hbl
    clear hwv hbl
    by_cases hlt : lo < hi
    · obtain ⟨m, hm⟩ : ∃ m : Int, m = (lo + hi + 1).tdiv 2 := ⟨_, rfl⟩
      have k3 : IntKind.i64.wrap (lo + hi) = lo + hi := by rw [IntKind.wrap_i64]; omega
      have k4 : IntKind.i64.wrap (lo + hi + 1) = lo + hi + 1 := by rw [IntKind.wrap_i64]; omega
      have hm2 : m = (lo + hi + 1) / 2 := by rw [hm]; exact Int.tdiv_eq_ediv_of_nonneg (by omega)
      have k5 : IntKind.i64.wrap m = m := by rw [IntKind.wrap_i64]; omega
      have k6 : IntKind.i64.wrap (m - 1) = m - 1 := by rw [IntKind.wrap_i64]; omega
      go_wp2_with fail
      rw [← hm]
      have HM : Hid (lo < m ∧ m ≤ hi) := (by omega : lo < m ∧ m ≤ hi)
      refine (HE.out m (by omega) (by omega) (by omega) _ HWR.out).mono ?_
      rintro e W3 ⟨rfl, hb3⟩
      have HW3 := Lib.hid (HWR.out.bel hb3)
      have HB3 := Lib.hid (HBR.out.trans (hb3.mono HBR.out.size))
      clear hb3 HWR HBR HE hm hm2
      by_cases hmc : m.toNat ≤ c
      · have hd : decide (m.toNat ≤ c) = true := by simpa using hmc
        rw [hd]
        clear hd
        go_wp2
        have hmm := HM.out
        clear k1 k2 k3 k4 k5 k6
        exact ⟨⟨m, hi, rfl, rfl, by omega, by omega, by omega, by omega, by omega, HW3.out, HB3.out⟩, by have := HM.out; simp only [intOf]; omega⟩
      · have hd : decide (m.toNat ≤ c) = false := by simpa using hmc
        rw [hd]
        clear hd
        go_wp2
        have hmm := HM.out
        clear k1 k2 k3 k4 k5 k6
        exact ⟨⟨lo, m - 1, rfl, rfl, by omega, by omega, by omega, by omega, by omega, HW3.out, HB3.out⟩, by have := HM.out; simp only [intOf]; omega⟩
    · clear HE
      go_wp2
      go_ret
      exact ⟨ret_int (by omega), HBR.out⟩
end Go.Proofs.Ytoejelieogjjpaa

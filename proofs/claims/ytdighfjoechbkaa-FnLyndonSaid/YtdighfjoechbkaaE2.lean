/- PowerWord, of the program and of the reference, and its law. -/
import Derived.Test.YtdighfjoechbkaaB1
import Derived.Test.YtdighfjoechbkaaShelf
import Derived.Lib.AppendStr
namespace Go.Proofs.Ytdighfjoechbkaa
open Go.ChangeShapes Go.WideShapes Go.RowKit
set_option linter.unusedVariables false
set_option linter.unusedSimpArgs false
set_option maxHeartbeats 4000000
set_option maxRecDepth 100000
/-- a word several times -/
def repS (s : ByteArray) (t : Nat) : ByteArray := ⟨(Lib.repeatL s.data.toList t).toArray⟩
theorem rep_len (s : ByteArray) (t : Nat) : (Lib.repeatL s.data.toList t).length = t * s.size := by
  rw [Lib.repeatL_length]; simp
theorem rep_snoc (s : ByteArray) (t : Nat) : u8s (Lib.repeatL s.data.toList (t + 1)) = u8s (Lib.repeatL s.data.toList t) ++ Lib.strCells s := by
  rw [Lib.repeatL_add, Lib.repeatL_one]
  simp [u8s, Lib.strCells]
theorem ret_s' {a b : ByteArray} (h : a = b) : Ending.returned (.string a) = .returned (.string b) := by rw [h]
theorem below_of_grown' {B : Nat} {w w' : World} {r : Option Nat} (h : w.grownBy w' r) (hB : B ≤ w.heap.size) (hr : ∀ k, r = some k → B ≤ k) : Below B w w' :=
  Below.grown (Below.refl _ _) h hB hr
theorem s_l01Times (s : ByteArray) (t : Nat) (w : World) (ht : t ≤ 2000) (hs : t * s.size ≤ 2000) (hs2 : s.size ≤ 2000) : Calls Try.prog 70 #[.string s, .int .i64 t] w fun e w' => e = .returned (.string (repS s t)) ∧ Below w.heap.size w w' := by
  obtain ⟨i0, hi, hz0, hz1, hz2⟩ := info_parts info_u8
  go_enter Try.func70, Try.ntmps70
  go_wp2
  go_loopw [5, 6] (fun v i wr => Below w.heap.size w wr ∧ ∃ k : Nat, k ≤ t ∧ i = .int .i64 k ∧ wr.ownsRow w.heap.size 5 1 v (k * s.size) (u8s (Lib.repeatL s.data.toList k))) (fun _ i _ => t - (intOf i).toNat)
  case atStart =>
    refine ⟨(Below.refl _ _).alloc (Nat.le_refl _) _, 0, by omega, rfl, ?_⟩
    rw [Nat.zero_mul]
    exact World.ownsRow_made w #[] 0 (Nat.le_refl _) (by decide) (by simp)
  case round =>
    obtain ⟨hb, k, hk, rfl, hown⟩ := hrel
    have hsz := hb.size
    by_cases hlt : k < t
    · have hkm : k * s.size ≤ 2000 := Nat.le_trans (Nat.mul_le_mul_right _ hk) hs
      have HS := Lib.hid (rep_snoc s k)
      have HM : Hid (k * s.size + s.size = (k + 1) * s.size) := by show _ = _; rw [Nat.add_mul, Nat.one_mul]
      generalize u8s (Lib.repeatL s.data.toList k) = xs at *
      generalize k * s.size = n at *
      clear hs
      go_wp2_with (at_builtin; refine Lib.wpList_append_own_string _ rfl (.tmp 13) (.tmp 14) 52 9 rfl w.heap.size 5 i0 Try.underlying52 Try.underlying9 hi hz0 hz1 hz2 _ _ _ rfl hown s rfl (by unfold maxLen; omega) (by omega) (by simpa using hsz) ?_; intro v' w1 ho1 hg1 _)
      go_roundw
      case rel =>
        refine ⟨hb.trans (below_of_grown' hg1 hsz (fun t ht => (hown.lt t ht).1)), k + 1, by omega, by go_num, ?_⟩
        rw [HS.out, ← HM.out]
        exact ho1
      case measure => first | (simp [intOf]; done) | (simp [intOf]; omega)
    · have ek : k = t := by omega
      rw [← rep_len] at hown
      have hcv := conv_any hown
      have HE : Hid (repS s t = ⟨(Lib.repeatL s.data.toList k).toArray⟩) := by show _ = _; rw [ek]; rfl
      clear hown ek
      generalize Lib.repeatL s.data.toList k = l at *
      go_wp2
      go_ret
      exact ⟨ret_s' HE.out.symm, hb⟩
theorem wf_small {a : Nat} (h : a ≤ 1000) : (Lit.int .i64 (a : Int)).wf = true := by
  have e1 : IntKind.i64.min = -9223372036854775808 := rfl
  have e2 : IntKind.i64.max = 9223372036854775807 := rfl
  simp [Lit.wf]
  omega
def pwS (s : ByteArray) (n : Int) : ByteArray := if validB s = true ∧ 0 ≤ n ∧ (s.size : Int) * n ≤ 2000 then repS s n.toNat else ⟨#[]⟩
def pwC (s : ByteArray) (n : Int) : Int := if validB s = true then if n < 0 then 2 else if (s.size : Int) * n ≤ 2000 then 0 else 3 else 1
theorem pw_bad {s : ByteArray} (n : Int) (h : validB s = false) : pwS s n = ⟨#[]⟩ ∧ pwC s n = 1 := by simp [pwS, pwC, h]
theorem pw_neg {s : ByteArray} {n : Int} (h : validB s = true) (h2 : n < 0) : pwS s n = ⟨#[]⟩ ∧ pwC s n = 2 := by
  have : ¬ 0 ≤ n := by omega
  simp [pwS, pwC, h, h2, this]
theorem pw_big {s : ByteArray} {n : Int} (h : validB s = true) (h2 : 0 ≤ n) (h3 : ¬ (s.size : Int) * n ≤ 2000) : pwS s n = ⟨#[]⟩ ∧ pwC s n = 3 := by
  have : ¬ n < 0 := by omega
  exact ⟨by rw [pwS, if_neg (fun hh => h3 hh.2.2)], by rw [pwC, if_pos h, if_neg this, if_neg h3]⟩
theorem pw_ok {s : ByteArray} {m : Nat} (h : validB s = true) (h3 : (s.size : Int) * (m : Int) ≤ 2000) : pwS s m = repS s m ∧ pwC s m = 0 := by
  have : ¬ (m : Int) < 0 := by omega
  exact ⟨by rw [pwS, if_pos ⟨h, by omega, h3⟩]; rfl, by rw [pwC, if_pos h, if_neg this, if_pos h3]⟩
theorem repS_nil {s : ByteArray} (h : s.size = 0) (m : Nat) : repS s m = ⟨#[]⟩ := by
  have : s.data.toList = [] := List.eq_nil_of_length_eq_zero (by simpa using h)
  rw [repS, this, Lib.repeatL_nil]
theorem i_PowerWord (s : ByteArray) (n : Int) (w : World) (hs : s.size ≤ maxLen) (hwf : (Lit.int .i64 n).wf = true) : Calls Try.prog 40 #[.string s, .int .i64 n] w fun e w' => e = .returned (.tuple #[.string (pwS s n), .int .i64 (pwC s n)]) ∧ Below w.heap.size w w' := by
  cases hv : validB s
  · have H := Lib.hid (pw_bad n hv)
    go_enter Try.func40, Try.ntmps40
    go_wp2_with (go_at_call 60; refine (i_ValidWord _ _ (by assumption)).mono ?_; rintro e w' ⟨rfl, rfl⟩)
    go_ret2
    exact ⟨ret_si H.out.1.symm H.out.2.symm, Below.refl _ _⟩
  have hle := validB_le hv
  by_cases hn : n < 0
  · have H := Lib.hid (pw_neg hv hn)
    go_enter Try.func40, Try.ntmps40
    go_wp2_with (go_at_call 60; refine (i_ValidWord _ _ (by assumption)).mono ?_; rintro e w' ⟨rfl, rfl⟩)
    go_ret2
    exact ⟨ret_si H.out.1.symm H.out.2.symm, Below.refl _ _⟩
  obtain ⟨m, rfl⟩ := Int.eq_ofNat_of_zero_le (show 0 ≤ n by omega)
  by_cases h0 : s.size = 0
  · have H : Hid (pwS s m = ⟨#[]⟩ ∧ pwC s m = 0) := by
      have h := pw_ok (m := m) hv (by rw [h0]; simp)
      rw [repS_nil h0] at h
      exact h
    have he : s.toList = [] := List.eq_nil_of_length_eq_zero (by rw [ByteArray.toList_eq]; simpa using h0)
    clear h0
    go_enter Try.func40, Try.ntmps40
    go_wp2_with (go_at_call 60; refine (i_ValidWord _ _ (by assumption)).mono ?_; rintro e w' ⟨rfl, rfl⟩)
    go_ret2
    exact ⟨ret_si H.out.1.symm H.out.2.symm, Below.refl _ _⟩
  have he : s.toList.isEmpty = false := by
    cases h : s.toList with
    | nil => exfalso; apply h0; have := congrArg List.length h; rw [ByteArray.toList_eq] at this; simpa using this
    | cons a l => rfl
  have hne : ¬ s.toList = [] := by intro h; rw [h] at he; cases he
  have hpos : (0 : Int) < s.size := by omega
  have hq1 : 0 ≤ (2000 : Int) / (s.size : Int) := Int.ediv_nonneg (by omega) (by omega)
  have hq2 : (2000 : Int) / (s.size : Int) ≤ 2000 := Int.ediv_le_self _ (by omega)
  have hiff := Int.le_ediv_iff_mul_le (a := (m : Int)) (b := 2000) hpos
  rw [Int.mul_comm] at hiff
  by_cases hbig : (s.size : Int) * (m : Int) ≤ 2000
  · have H := Lib.hid (pw_ok hv hbig)
    have hq3 := hiff.2 hbig
    have hm2 : m ≤ 2000 := by omega
    have hlen : s.size * m ≤ 140737488355328 := by
      have : ((s.size * m : Nat) : Int) ≤ 2000 := by rw [Int.natCast_mul]; exact hbig
      omega
    have HR : Hid (∀ w, Calls Try.prog 71 #[.string s, .int .i64 m] w fun e w' => e = .returned (.string (repS s m)) ∧ Below w.heap.size w w') := fun w => Try.strings_Repeat s m w (by omega) hlen
    have hq4 : ¬ (2000 : Int) / (s.size : Int) < m := by omega
    clear hiff hbig hlen h0
    go_enter Try.func40, Try.ntmps40
    go_wp2_with (first | (go_at_call 60; refine (i_ValidWord _ _ (by assumption)).mono ?_; rintro e w' ⟨rfl, rfl⟩) | (go_at_call 64; refine (i_size _ _).mono ?_; rintro e w' ⟨rfl, rfl⟩) | (go_at_call 71; refine (HR.out _).mono ?_; rintro e w' ⟨rfl, hb⟩))
    go_ret2
    exact ⟨ret_si H.out.1.symm H.out.2.symm, hb⟩
  · have H := Lib.hid (pw_big hv (by omega) hbig)
    have hq4 : (2000 : Int) / (s.size : Int) < m := by
      by_cases h : (m : Int) ≤ 2000 / (s.size : Int)
      · exact absurd (hiff.1 h) hbig
      · omega
    clear hiff hbig h0
    go_enter Try.func40, Try.ntmps40
    go_wp2_with (first | (go_at_call 60; refine (i_ValidWord _ _ (by assumption)).mono ?_; rintro e w' ⟨rfl, rfl⟩) | (go_at_call 64; refine (i_size _ _).mono ?_; rintro e w' ⟨rfl, rfl⟩))
    go_ret2
    exact ⟨ret_si H.out.1.symm H.out.2.symm, Below.refl _ _⟩
theorem s_PowerWord (s : ByteArray) (n : Int) (w : World) (hs : s.size ≤ maxLen) (hwf : (Lit.int .i64 n).wf = true) : Calls Try.prog 39 #[.string s, .int .i64 n] w fun e w' => e = .returned (.tuple #[.string (pwS s n), .int .i64 (pwC s n)]) ∧ Below w.heap.size w w' := by
  cases hv : validB s
  · have H := Lib.hid (pw_bad n hv)
    go_enter Try.func39, Try.ntmps39
    go_wp2_with (go_at_call 58; refine (s_l01Ok _ _ (by assumption)).mono ?_; rintro e w' ⟨rfl, rfl⟩)
    go_ret2
    exact ⟨ret_si H.out.1.symm H.out.2.symm, Below.refl _ _⟩
  have hle := validB_le hv
  by_cases hn : n < 0
  · have H := Lib.hid (pw_neg hv hn)
    go_enter Try.func39, Try.ntmps39
    go_wp2_with (go_at_call 58; refine (s_l01Ok _ _ (by assumption)).mono ?_; rintro e w' ⟨rfl, rfl⟩)
    go_ret2
    exact ⟨ret_si H.out.1.symm H.out.2.symm, Below.refl _ _⟩
  obtain ⟨m, rfl⟩ := Int.eq_ofNat_of_zero_le (show 0 ≤ n by omega)
  by_cases h0 : s.size = 0
  · have H : Hid (pwS s m = ⟨#[]⟩ ∧ pwC s m = 0) := by
      have h := pw_ok (m := m) hv (by rw [h0]; simp)
      rw [repS_nil h0] at h
      exact h
    have hb : ((s.size : Int) == 0) = true := by rw [beq_iff_eq]; omega
    clear h0
    go_enter Try.func39, Try.ntmps39
    go_wp2_with (go_at_call 58; refine (s_l01Ok _ _ (by assumption)).mono ?_; rintro e w' ⟨rfl, rfl⟩)
    go_ret2
    exact ⟨ret_si H.out.1.symm H.out.2.symm, Below.refl _ _⟩
  have hb : ((s.size : Int) == 0) = false := by rw [beq_eq_false_iff_ne]; omega
  by_cases hm2 : 2000 < m
  · have hbig : ¬ (s.size : Int) * (m : Int) ≤ 2000 := by
      have : (1 : Int) * m ≤ s.size * m := Int.mul_le_mul_of_nonneg_right (by omega) (by omega)
      omega
    have H := Lib.hid (pw_big hv (by omega) hbig)
    have hm3 : (2000 : Int) < m := by omega
    clear hbig h0
    go_enter Try.func39, Try.ntmps39
    go_wp2_with (go_at_call 58; refine (s_l01Ok _ _ (by assumption)).mono ?_; rintro e w' ⟨rfl, rfl⟩)
    go_ret2
    exact ⟨ret_si H.out.1.symm H.out.2.symm, Below.refl _ _⟩
  have hm3 : ¬ (2000 : Int) < m := by omega
  have hp1 : 0 ≤ (s.size : Int) * (m : Int) := Int.mul_nonneg (by omega) (by omega)
  have hp2 : (s.size : Int) * (m : Int) ≤ 4000000 := by
    have : ((s.size * m : Nat) : Int) ≤ ((2000 * 2000 : Nat) : Int) := Int.ofNat_le.2 (Nat.mul_le_mul hle (by omega))
    rw [Int.natCast_mul] at this
    omega
  by_cases hbig : (s.size : Int) * (m : Int) ≤ 2000
  · have H := Lib.hid (pw_ok hv hbig)
    have hbig2 : ¬ 2000 < (s.size : Int) * (m : Int) := by omega
    have hlen : m * s.size ≤ 2000 := by
      have : ((s.size * m : Nat) : Int) ≤ 2000 := by rw [Int.natCast_mul]; exact hbig
      rw [Nat.mul_comm]; omega
    have HR := Lib.hid (fun w => s_l01Times s m w (by omega) hlen hle)
    clear h0 hlen
    go_enter Try.func39, Try.ntmps39
    go_wp2_with (first | (go_at_call 58; refine (s_l01Ok _ _ (by assumption)).mono ?_; rintro e w' ⟨rfl, rfl⟩) | (go_at_call 70; refine (HR.out _).mono ?_; rintro e w' ⟨rfl, hb⟩))
    go_ret2
    exact ⟨ret_si H.out.1.symm H.out.2.symm, hb⟩
  · have H := Lib.hid (pw_big hv (by omega) hbig)
    have hbig2 : 2000 < (s.size : Int) * (m : Int) := by omega
    clear h0 hbig
    go_enter Try.func39, Try.ntmps39
    go_wp2_with (go_at_call 58; refine (s_l01Ok _ _ (by assumption)).mono ?_; rintro e w' ⟨rfl, rfl⟩)
    go_ret2
    exact ⟨ret_si H.out.1.symm H.out.2.symm, Below.refl _ _⟩
theorem walk_FnExactPowerWord (s : ByteArray) (n : Int) (hs : s.size ≤ maxLen) (hwf : (Lit.int .i64 n).wf = true) (w : World) : Calls Try.prog 9 #[.string s, .int .i64 n] w fun e w' => e = .returned (.bool true) ∧ Below w.heap.size w w' := by
  have hs' : s.size ≤ 9223372036854775807 := by unfold maxLen at hs; omega
  have HW := Lib.hid hwf
  clear hwf
  by_cases hbig : 1048576 < s.size
  · go_enter Try.func9, Try.ntmps9
    go_wp2
    go_ret
    exact ⟨rfl, Below.refl _ _⟩
  · go_enter Try.func9, Try.ntmps9
    go_wp2_with (first | (go_at_call 39; refine (s_PowerWord _ _ _ hs HW.out).mono ?_; rintro e w1 ⟨rfl, hq1⟩) | (go_at_call 40; refine (i_PowerWord _ _ _ hs HW.out).mono ?_; rintro e w2 ⟨rfl, hq2⟩))
    go_ret
    exact ⟨rfl, hq1.trans (hq2.mono hq1.size)⟩
end Go.Proofs.Ytdighfjoechbkaa

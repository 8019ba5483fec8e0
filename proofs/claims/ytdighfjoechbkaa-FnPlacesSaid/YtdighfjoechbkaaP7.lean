/- FnBorders: borders, periods, and the theorem of Fine and Wilf. -/
import Derived.Test.YtdighfjoechbkaaP6
import Derived.Test.YtdighfjoechbkaaQ2
namespace Go.Proofs.Ytdighfjoechbkaa
open Go.ChangeShapes Go.WideShapes Go.RowKit
set_option linter.unusedVariables false
set_option linter.unusedSimpArgs false
set_option maxHeartbeats 1000000
set_option maxRecDepth 100000
theorem l_a2Has_b (v : Value) (xs : List Int) (y : Int) (b : Bool) (base : Nat) (w : World) (hown : w.ownsRow base 2 1 v xs.length (xs.map (Value.int .i64))) (hb : decide (y ∈ xs) = b) :
    Calls Try.prog 47 #[v, .int .i64 y] w fun e w' => e = .returned (.bool b) ∧ w' = w :=
  (l_a2Has v xs y base w hown).mono fun e w' ⟨h, h'⟩ => ⟨by rw [h, hb], h'.symm⟩
theorem l_a2Gcd_same (a b : Nat) (w : World) (ha : a ≤ 1048576) (hb : b ≤ 1048576) : Calls Try.prog 51 #[.int .i64 a, .int .i64 b] w fun e w' => e = .returned (.int .i64 (Nat.gcd a b : Nat)) ∧ w' = w :=
  (l_a2Gcd a b w ha hb).mono fun e w' ⟨h, h'⟩ => ⟨h, h'.symm⟩
theorem owned64_at {w : World} {base g cap : Nat} {xs : List Int} (h : w.ownsRow base 2 1 (.slice (some ⟨g, 0, none⟩) xs.length cap) xs.length (xs.map (Value.int .i64))) {k : Nat} (hk : k < xs.length) : w.cell? ⟨g, k, none⟩ = some (.int .i64 xs[k]) := by
  rw [h.cellAt k (by omega)]; simp [hk]
theorem owns_sl {w : World} {base e n : Nat} {v : Value} {xs : List Value} (h : w.ownsRow base e 1 v n xs) : ∃ a cap, v = .slice a n cap ∧ (n ≠ 0 → ∃ g, a = some ⟨g, 0, none⟩) ∧ cap ≤ maxLen := by
  rcases owns_cases h with ⟨rfl, rfl, _⟩ | ⟨g, cap, rfl, _, _, _, hm, _⟩
  · exact ⟨_, _, rfl, fun h => absurd rfl h, by unfold maxLen; omega⟩
  · exact ⟨_, _, rfl, fun _ => ⟨g, rfl⟩, hm⟩
theorem walk_FnBorders (v : Value) (l : List UInt8) (v2 : Value) (l2 : List UInt8) (w : World) (h0 : InRow w v l.length 1 (u8s l)) (h0b : l.length ≤ 9223372036854775807) (h0c : True) (h1 : InRow w v2 l2.length 1 (u8s l2)) (h1b : l2.length ≤ 9223372036854775807) (h1c : True) :
    Calls Try.prog 12 #[v, v2] w fun e w' => e = .returned (.bool true) ∧ Below w.heap.size w w' := by
  have H0 := Lib.hid h0
  have H1 := Lib.hid h1
  clear h0 h1
  by_cases hlong : 3000 < l.length ∨ 3000 < l2.length
  · have HL : Hid ((decide (3000 < l.length) || decide (3000 < l2.length)) = true) := by show _ = _; simpa using hlong
    clear hlong
    go_enter Try.func12, Try.ntmps12
    go_wp2_with fail
    refine (l_a2Long v v2 _ _ _ _ w H0.out H1.out).mono ?_
    rintro e w1 ⟨rfl, rfl⟩
    rw [HL.out]
    go_wp2
    go_ret
    exact ⟨rfl, Below.refl _ _⟩
  have HL : Hid ((decide (3000 < l.length) || decide (3000 < l2.length)) = false) := by show _ = _; simpa using hlong
  have hl : l.length ≤ 1048576 := by omega
  clear hlong
  go_enter Try.func12, Try.ntmps12
  go_wp2_with fail
  refine (l_a2Long v v2 _ _ _ _ w H0.out H1.out).mono ?_
  rintro e w1 ⟨rfl, rfl⟩
  rw [HL.out]
  go_wp2_with fail
  refine (s_A2Word v l 20 _ (by omega) hl H0.out).mono ?_
  rintro e w1 ⟨S, rfl, hS, hval, hg1⟩
  have b1 : Below w.heap.size w w1 := below_of_grown' hg1 (Nat.le_refl _) (fun _ e => by cases e)
  have hSm : S.size ≤ maxLen := by unfold maxLen; omega
  have HB1 := Lib.hid b1
  have HBd := Lib.hid (fun w => i_BordersOf S w hSm)
  have HPd := Lib.hid (fun w => i_PeriodsOf S w hSm)
  rw [hval] at HBd HPd
  clear hg1 b1 h0b h0c h1b h1c HL H0 H1 hval hSm
  have hSs : S.size ≤ 9223372036854775807 := by omega
  go_wp2_with fail
  refine (HBd.out _).mono ?_
  rintro e w2 ⟨vb, rfl, ho2, hb2⟩
  go_wp2_with fail
  refine (HPd.out _).mono ?_
  rintro e w3 ⟨vp, rfl, ho3, hb3⟩
  have ho2' : w3.ownsRow w1.heap.size 2 1 vb (bdTo S S.size).length ((bdTo S S.size).map (Value.int .i64)) := owns_after ho2 hb3
  have ho3' : w3.ownsRow w2.heap.size 2 1 vp (pdTo S (S.size + 1)).length ((pdTo S (S.size + 1)).map (Value.int .i64)) := ho3
  have hb13 : Below w.heap.size w w3 := by
    have s1 := HB1.out.size
    have s2 := hb2.size
    exact (HB1.out.trans (hb2.mono s1)).trans (hb3.mono (by omega))
  obtain ⟨ap, cp, rfl, hsome, hcp⟩ := owns_sl ho3'
  have HOB := Lib.hid ho2'
  have HOP := Lib.hid ho3'
  have HSOME := Lib.hid hsome
  have HB13 := Lib.hid hb13
  have hplen : (pdTo S (S.size + 1)).length ≤ 21 := by have := pdTo_len S (S.size + 1); omega
  have HBP := Lib.hid (fun k (h1 : 1 ≤ k) (h2 : k < S.size) => bd_pd S k h1 h2)
  have HAT := Lib.hid (fun i (h : i < (pdTo S (S.size + 1)).length) => pd_at S h)
  have HLT := Lib.hid (fun i k (h : i < (pdTo S (S.size + 1)).length) (hk : k < i) => pd_lt S h hk)
  have HWH := Lib.hid (pd_whole S)
  have HE : Hid (S.size = 0 → (pdTo S (S.size + 1)).length = 0) := fun h => by rw [(per_none S h).1]; rfl
  have HFW := Lib.hid (fun a b => @pd_fw S a b)
  clear ho2 hb2 ho3 hb3 ho2' ho3' hb13 HBd HPd HB1 hsome
  go_wp2
  go_loopw [11, 12] (fun k _ wr => Below w3.heap.size w3 wr ∧ ∃ j : Nat, 1 ≤ j ∧ (j ≤ S.size ∨ j = 1) ∧ k = .int .i64 j) (fun k _ _ => S.size + 1 - (intOf k).toNat)
  case atStart => exact ⟨Below.refl _ _, 1, by omega, by omega, rfl⟩
  case round =>
    obtain ⟨hb, j, hj1, hj, rfl⟩ := hrel
    by_cases hlt : j < S.size
    · obtain ⟨e1, e2⟩ := HBP.out j hj1 hlt
      have HB := Lib.hid hb
      generalize hb0 : ((S.extract 0 j).toList == (S.extract (S.size - j) S.size).toList) = b at *
      have ha1 := fun w (h : Below w3.heap.size w3 w) => l_a2Has_b vb _ _ b _ w (owns_after HOB.out h) e1
      have ha2 := fun w (h : Below w3.heap.size w3 w) => l_a2Has_b _ _ _ b _ w (owns_after HOP.out h) e2
      have HA1 := Lib.hid ha1
      have HA2 := Lib.hid ha2
      clear ha1 ha2 e1 e2 hb
      have hj0 : (0 : Int) ≤ (S.size : Int) - j := by omega
      have hj2 : (S.size : Int) - j ≤ S.size := by omega
      cases b
      all_goals
        go_wp2
        go_big_quiet (fail)
        have hbq := below_drewN HB.out nq
        go_wp2_with fail
        refine (HA1.out _ hbq).mono ?_
        rintro e w5 ⟨rfl, rfl⟩
        go_wp2_with fail
        refine (HA2.out _ hbq).mono ?_
        rintro e w5 ⟨rfl, rfl⟩
        go_wp2
        go_roundw
        case rel => exact ⟨hbq, j + 1, by omega, by omega, by go_num⟩
        case measure => first | (simp [intOf]; done) | (simp [intOf]; omega)
    · have HB := Lib.hid hb
      clear hb hj hj1
      go_wp2
      go_loopw [13, 14, 15] (fun i _ _ wr => Below w3.heap.size w3 wr ∧ ∃ j : Nat, j ≤ (pdTo S (S.size + 1)).length ∧ i = .int .i64 j) (fun i _ _ _ => (pdTo S (S.size + 1)).length - (intOf i).toNat)
      case atStart => exact ⟨HB.out, 0, by omega, rfl⟩
      case round =>
        clear HB
        obtain ⟨hb, i, hi, rfl⟩ := hrel
        by_cases hlt : i < (pdTo S (S.size + 1)).length
        · obtain ⟨g, rfl⟩ := HSOME.out (by omega)
          obtain ⟨a, ha, ha1, ha2, ha3⟩ := HAT.out i hlt
          have HA3 := Lib.hid ha3
          have HAI := Lib.hid ha
          have HB := Lib.hid hb
          have hown := owns_after HOP.out hb
          have hc1 := owned64_at hown hlt
          rw [ha] at hc1
          have hin : ((i : Nat) : Int) < (pdTo S (S.size + 1)).length := by omega
          clear ha3 hb ha
          by_cases hi0 : i = 0
          · have hnp : ¬ 0 < i := by omega
            clear hown hi0
            go_wp2
            have hd1 : decide ((a : Int) < 1) = false := by rw [decide_eq_false_iff_not]; omega
            have hd2 : decide ((S.size : Int) < (a : Int)) = false := by rw [decide_eq_false_iff_not]; omega
            have hd3 : ¬ (a : Int) < 1 := by omega
            have hd4 : ¬ (S.size : Int) < (a : Int) := by omega
            go_big_quiet (fail)
            go_wp2
            refine wp_loop_rounds 1 ?_
            rw [rounds_succ]
            go_wp2
            go_roundw
            case rel => exact ⟨below_drewN HB.out _, i + 1, by omega, by go_num⟩
            case measure => first | (simp [intOf]; done) | (simp [intOf]; omega)
          · obtain ⟨t, ht⟩ : ∃ t, i = t + 1 := ⟨i - 1, by omega⟩
            have hlt0 : t < (pdTo S (S.size + 1)).length := by omega
            have hc0 := owned64_at hown hlt0
            obtain ⟨c, hc, hcc1, hcc2, hcc3⟩ := HAT.out t hlt0
            have hca := HLT.out i t hlt (by omega)
            rw [HAI.out, hc] at hca
            rw [hc] at hc0
            have hin3 : (t : Int) < (pdTo S (S.size + 1)).length := by omega
            have hpos : 0 < i := by omega
            have HCA := Lib.hid hca
            have HIJ : Hid ((i : Int) - 1 = (t : Int)) := by show _ = _; omega
            clear hown hi0 hcc3 hc hca ht
            go_wp2
            have hca := HCA.out
            have hij := HIJ.out
            have hd1 : decide ((a : Int) < 1) = false := by rw [decide_eq_false_iff_not]; omega
            have hd2 : decide ((S.size : Int) < (a : Int)) = false := by rw [decide_eq_false_iff_not]; omega
            have hd3 : ¬ (a : Int) < 1 := by omega
            have hd4 : ¬ (S.size : Int) < (a : Int) := by omega
            have hd5 : ¬ (a : Int) ≤ (c : Int) := by omega
            have hd6 : decide ((a : Int) ≤ (c : Int)) = false := by rw [decide_eq_false_iff_not]; omega
            go_big_quiet (fail)
            clear hd1 hd2 hd3 hd4 hd5 hd6 hca hij
            go_wp2
            go_loopw [14, 15] (fun k _ wr => Below w3.heap.size w3 wr ∧ ∃ j : Nat, j ≤ i ∧ k = .int .i64 j) (fun k _ _ => i - (intOf k).toNat)
            case atStart => exact ⟨below_drewN HB.out _, 0, by omega, rfl⟩
            case round =>
              clear HB hc1 hc0
              obtain ⟨hb, k, hk, rfl⟩ := hrel
              by_cases hltk : k < i
              · have hlk : k < (pdTo S (S.size + 1)).length := by omega
                obtain ⟨b, hb0, hb1, hb2, hb3⟩ := HAT.out k hlk
                have HB := Lib.hid hb
                have hown := owns_after HOP.out hb
                have hc1 := owned64_at hown hlt
                have hc0 := owned64_at hown hlk
                rw [HAI.out] at hc1
                rw [hb0] at hc0
                have hink : (k : Int) < (pdTo S (S.size + 1)).length := by omega
                have hltk2 : (k : Int) < (i : Int) := by omega
                have hG := fun w => l_a2Gcd_same a b w (by omega) (by omega)
                have hfw := HFW.out a b ha1 ha2 hb1 hb2 HA3.out hb3
                have hgle : Nat.gcd a b ≤ a := Nat.gcd_le_left _ ha1
                generalize Nat.gcd a b = d at *
                have HH : Hid (a + b ≤ S.size + d → ∀ w, Below w3.heap.size w3 w → Calls Try.prog 47 #[.slice (some ⟨g, 0, none⟩) (pdTo S (S.size + 1)).length cp, .int .i64 d] w fun e w' => e = .returned (.bool true) ∧ w' = w) :=
                  fun h w hbw => l_a2Has_b _ _ _ true _ w (owns_after HOP.out hbw) (by rw [decide_eq_true_eq]; exact hfw h)
                have HG := Lib.hid hG
                clear hG hfw hown hb hb0 hb3
                by_cases hle : a + b ≤ S.size + d
                · have HH2 := Lib.hid (HH.out hle)
                  have hlz : (a : Int) + b - d ≤ S.size := by omega
                  clear HH
                  go_wp2
                  go_big_quiet ((go_at_call 51; exact Calls.quiet_of_same (HG.out _)))
                  go_wp2
                  have hlz2 : decide ((a : Int) + b - d ≤ S.size) = true := by rw [decide_eq_true_eq]; omega
                  go_big_quiet ((go_at_call 47; exact (HH2.out _ (below_drewN HB.out _)).mono (fun e w'' h => ⟨h.1, _, h.2⟩)))
                  go_wp2
                  go_roundw
                  case rel => exact ⟨below_drewN HB.out _, k + 1, by omega, by go_num⟩
                  case measure => first | (simp [intOf]; done) | (simp [intOf]; omega)
                · have hlz : ¬ (a : Int) + b - d ≤ S.size := by omega
                  clear HH
                  go_wp2
                  go_big_quiet ((go_at_call 51; exact Calls.quiet_of_same (HG.out _)))
                  go_wp2
                  have hlz2 : decide ((a : Int) + b - d ≤ S.size) = false := by rw [decide_eq_false_iff_not]; omega
                  go_big_quiet (fail)
                  go_wp2
                  go_roundw
                  case rel => exact ⟨below_drewN HB.out _, k + 1, by omega, by go_num⟩
                  case measure => first | (simp [intOf]; done) | (simp [intOf]; omega)
              · go_wp2
                go_roundw
                case rel => exact ⟨hb, i + 1, by omega, by go_num⟩
                case measure => first | (simp [intOf]; done) | (simp [intOf]; omega)
        · have hW := HWH.out
          have HB := Lib.hid hb
          by_cases hz : S.size = 0
          · have hz2 := HE.out hz
            clear hb hW
            go_wp2
            go_ret
            exact ⟨rfl, HB13.out.trans (HB.out.mono HB13.out.size)⟩
          · have HH := Lib.hid (fun w (h : Below w3.heap.size w3 w) => l_a2Has_b _ _ _ true _ w (owns_after HOP.out h) (by rw [decide_eq_true_eq]; exact hW (by omega)))
            have hz0 : ¬ (S.size : Int) = 0 := by omega
            have hzp : 0 < S.size := by omega
            clear hb hW
            go_wp2_with fail
            refine (HH.out _ HB.out).mono ?_
            rintro e w5 ⟨rfl, rfl⟩
            go_wp2
            go_ret
            exact ⟨rfl, HB13.out.trans (HB.out.mono HB13.out.size)⟩
end Go.Proofs.Ytdighfjoechbkaa

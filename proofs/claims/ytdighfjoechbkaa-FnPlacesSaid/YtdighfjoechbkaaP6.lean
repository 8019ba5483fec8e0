/- Helpers of the laws: a2Has, a2Gcd; and FnRoots. -/
import Derived.Test.YtdighfjoechbkaaP3
import Derived.Test.YtdighfjoechbkaaQ1
namespace Go.Proofs.Ytdighfjoechbkaa
open Go.ChangeShapes Go.WideShapes Go.RowKit
set_option linter.unusedVariables false
set_option linter.unusedSimpArgs false
set_option maxHeartbeats 4000000
set_option maxRecDepth 100000
theorem l_a2Has (v : Value) (xs : List Int) (y : Int) (base : Nat) (w : World) (hown : w.ownsRow base 2 1 v xs.length (xs.map (Value.int .i64))) :
    Calls Try.prog 47 #[v, .int .i64 y] w fun e w' => e = .returned (.bool (decide (y ∈ xs))) ∧ w = w' := by
  rcases owns_cases hown with ⟨rfl, h0, hnil⟩ | ⟨g, cap, rfl, -, hg, hc, hm, hyl⟩
  · have hx : xs = [] := List.eq_nil_of_length_eq_zero h0
    subst hx
    clear hnil h0
    go_enter Try.func47, Try.ntmps47
    go_wp2
    refine wp_loop_rounds 1 ?_
    rw [rounds_succ]
    go_wp2
    go_ret
    exact ⟨rfl, rfl⟩
  · clear hyl
    unfold maxLen at hm
    have hcell : ∀ j (h : j < xs.length), w.cell? ⟨g, j, none⟩ = some (.int .i64 xs[j]) := fun j hj => by
      rw [hown.cellAt j (by omega)]; simp [hj]
    have HC := Lib.hid hcell
    clear hcell hown
    go_enter Try.func47, Try.ntmps47
    go_wp2
    go_loop [5] (fun i => ∃ j : Nat, j ≤ xs.length ∧ i = .int .i64 j ∧ ∀ t (h : t < xs.length), t < j → xs[t] ≠ y) (fun i => xs.length - (intOf i).toNat)
    case atStart => exact ⟨0, by omega, rfl, fun t _ h => by omega⟩
    case round =>
      obtain ⟨j, hj, rfl, hall⟩ := hrel
      have HA := Lib.hid hall
      clear hall
      by_cases hlt : j < xs.length
      · have hc1 := HC.out j hlt
        have hin : ((j : Nat) : Int) < xs.length := by omega
        by_cases heq : xs[j] = y
        · have HF : Hid (decide (y ∈ xs) = true) := by
            show _ = _
            rw [decide_eq_true_eq, ← heq]; exact List.getElem_mem hlt
          clear HA
          rw [heq] at hc1
          go_wp2
          go_ret
          exact ⟨ret_bool HF.out.symm, rfl⟩
        · have HN : Hid (∀ t (h : t < xs.length), t < j + 1 → xs[t] ≠ y) := fun t h ht => by
            by_cases he : t = j
            · subst he; exact heq
            · exact HA.out t h (by omega)
          clear HA
          generalize xs[j] = x at *
          go_wp2
          go_round
          case rel => exact ⟨j + 1, by omega, by go_num, HN.out⟩
          case measure => simp [intOf]; omega
      · have HF : Hid (decide (y ∈ xs) = false) := by
          show _ = _
          rw [decide_eq_false_iff_not]
          intro hmem
          obtain ⟨t, ht, hty⟩ := List.getElem_of_mem hmem
          exact HA.out t ht (by omega) hty
        clear HA
        go_wp2
        go_ret
        exact ⟨ret_bool HF.out.symm, rfl⟩
theorem l_a2Gcd (a b : Nat) (w : World) (ha : a ≤ 1048576) (hb : b ≤ 1048576) : Calls Try.prog 51 #[.int .i64 a, .int .i64 b] w fun e w' => e = .returned (.int .i64 (Nat.gcd a b : Nat)) ∧ w = w' := by
  go_enter Try.func51, Try.ntmps51
  go_wp2
  go_loop [0, 1, 5] (fun x y _ => ∃ c d : Nat, x = .int .i64 c ∧ y = .int .i64 d ∧ c ≤ 1048576 ∧ d ≤ 1048576 ∧ Nat.gcd c d = Nat.gcd a b) (fun _ y _ => (intOf y).toNat)
  case atStart => exact ⟨a, b, rfl, rfl, ha, hb, rfl⟩
  case round =>
    obtain ⟨c, d, rfl, rfl, hc, hd, hg⟩ := hrel
    have HG := Lib.hid hg
    clear hg
    by_cases h0 : d = 0
    · subst h0
      have HG2 : Hid (c = Nat.gcd a b) := by show _ = _; rw [← HG.out, Nat.gcd_zero_right]
      go_wp2
      go_ret
      exact ⟨ret_int (by rw [HG2.out]), rfl⟩
    · have hd0 : ¬ (d : Int) = 0 := by omega
      have hd1 : ((d : Int) == 0) = false := by rw [beq_eq_false_iff_ne]; exact hd0
      have hmod := Nat.mod_lt c (show 0 < d by omega)
      have HN : Hid (Nat.gcd d (c % d) = Nat.gcd a b) := by
        show _ = _
        rw [← HG.out, Nat.gcd_comm c d, Nat.gcd_rec d c, Nat.gcd_comm]
      go_wp2
      go_round
      case rel => exact ⟨d, c % d, rfl, by go_num, by omega, by omega, HN.out⟩
      case measure => simp [intOf]; omega
theorem walk_FnRoots (v : Value) (l : List UInt8) (v2 : Value) (l2 : List UInt8) (w : World) (h0 : InRow w v l.length 1 (u8s l)) (h0b : l.length ≤ 9223372036854775807) (h0c : True) (h1 : InRow w v2 l2.length 1 (u8s l2)) (h1b : l2.length ≤ 9223372036854775807) (h1c : True) :
    Calls Try.prog 13 #[v, v2] w fun e w' => e = .returned (.bool true) ∧ Below w.heap.size w w' := by
  have H0 := Lib.hid h0
  have H1 := Lib.hid h1
  clear h0 h1
  by_cases hlong : 3000 < l.length ∨ 3000 < l2.length
  · have HL : Hid ((decide (3000 < l.length) || decide (3000 < l2.length)) = true) := by show _ = _; simpa using hlong
    clear hlong
    go_enter Try.func13, Try.ntmps13
    go_wp2_with fail
    refine (l_a2Long v v2 _ _ _ _ w H0.out H1.out).mono ?_
    rintro e w1 ⟨rfl, rfl⟩
    rw [HL.out]
    go_wp2
    go_ret
    exact ⟨rfl, Below.refl _ _⟩
  · have HL : Hid ((decide (3000 < l.length) || decide (3000 < l2.length)) = false) := by show _ = _; simpa using hlong
    have hl : l.length ≤ 1048576 := by omega
    have hl2 : l2.length ≤ 1048576 := by omega
    clear hlong
    go_enter Try.func13, Try.ntmps13
    go_wp2_with fail
    refine (l_a2Long v v2 _ _ _ _ w H0.out H1.out).mono ?_
    rintro e w1 ⟨rfl, rfl⟩
    rw [HL.out]
    go_wp2_with fail
    refine (s_A2Word v l 12 _ (by omega) hl H0.out).mono ?_
    rintro e w1 ⟨S, rfl, hS, hval, hg1⟩
    have b1 : Below w.heap.size w w1 := below_of_grown' hg1 (Nat.le_refl _) (fun _ e => by cases e)
    have i1 := inRow_below H1.out b1
    go_wp2_with fail
    refine (s_A2Word v2 l2 6 _ (by omega) hl2 i1).mono ?_
    rintro e w2 ⟨U, rfl, hU, hvalU, hg2⟩
    have b2 : Below w1.heap.size w1 w2 := below_of_grown' hg2 (Nat.le_refl _) (fun _ e => by cases e)
    have B2 := Lib.hid (b1.trans (b2.mono b1.size))
    have hSm : S.size ≤ maxLen := by unfold maxLen; omega
    clear hg1 b1 i1 hg2 b2 h0b h0c h1b h1c HL H0 H1
    by_cases hz : S.size = 0
    · have hc := rt_empty hval hz
      have HRt := Lib.hid (fun w => i_RootOf S w hSm)
      rw [hc] at HRt
      clear hval hvalU hc hSm
      go_wp2_with fail
      refine (HRt.out _).mono ?_
      rintro e w3 ⟨rfl, hb3⟩
      have HB3 := Lib.hid (B2.out.trans (hb3.mono B2.out.size))
      clear hb3
      go_wp2
      go_ret
      exact ⟨rfl, HB3.out⟩
    · obtain ⟨r, p, k, e1, e2, e3, hr, hp1, hps, hk1, hkp, hrv, hrep, hcy, hroot, hrl⟩ := rt_full hval (by omega)
      obtain ⟨f1, f2, f3⟩ := rt_root hrv hr hp1 hcy hroot
      have HRt := Lib.hid (fun w => i_RootOf S w hSm)
      rw [e1, e2, e3] at HRt
      have HRr := Lib.hid (fun w => i_RootOf r w (by unfold maxLen; omega))
      rw [f1, f2, f3] at HRr
      have hkz : r.size * k ≤ 12 := by rw [hr, Nat.mul_comm]; omega
      have hkk : k ≤ 12 := by
        have := Nat.mul_le_mul_left k hp1
        omega
      have HPw := Lib.hid (fun w => i_PowerWord r k w (by unfold maxLen; omega) (wf_small (by omega)))
      have hpk : (r.size : Int) * (k : Int) ≤ 2000 := by
        have e : ((r.size * k : Nat) : Int) = (r.size : Int) * k := by simp
        omega
      rw [(pw_ok hrv hpk).1, (pw_ok hrv hpk).2, hrep] at HPw
      have hk1' : ¬ (k : Int) < 1 := by omega
      clear hpk hkz hkp
      by_cases hzU : U.size = 0
      · clear hval hvalU hrep hcy hroot hrl e1 e2 e3 f1 f2 f3 hrv hSm
        go_wp2_with fail
        refine (HRt.out _).mono ?_
        rintro e w3 ⟨rfl, hb3⟩
        go_wp2_with fail
        refine (HPw.out _).mono ?_
        rintro e w4 ⟨rfl, hb4⟩
        go_wp2_with fail
        refine (HRr.out _).mono ?_
        rintro e w5 ⟨rfl, hb5⟩
        have HB5 : Hid (Below w.heap.size w w5) := by
          have s2 := B2.out.size
          have s3 := hb3.size
          have s4 := hb4.size
          exact ((B2.out.trans (hb3.mono s2)).trans (hb4.mono (by omega))).trans (hb5.mono (by omega))
        clear hb3 hb4 hb5
        go_wp2
        go_ret
        exact ⟨rfl, HB5.out⟩
      · obtain ⟨t, q, k', g1, g2, g3, ht, hq1, hqs, -, -, htv, -, hcyt, hroott, htl⟩ := rt_full hvalU (by omega)
        have hiff := root_comm (by omega) (by omega) hroot hroott hrl htl hcy hcyt hps hqs
        have HRu := Lib.hid (fun w => i_RootOf U w (by unfold maxLen; omega))
        rw [g1, g2, g3] at HRu
        have hbb : ∃ b : Bool, ((S ++ U).toList == (U ++ S).toList) = b ∧ (t.toList == r.toList) = b := by
          by_cases h : (S ++ U).toList = (U ++ S).toList
          · exact ⟨true, by rw [h]; simp, by rw [hiff.1 h]; simp⟩
          · exact ⟨false, by rw [beq_eq_false_iff_ne]; exact h, by rw [beq_eq_false_iff_ne]; exact fun h2 => h (hiff.2 h2)⟩
        obtain ⟨b, hb1, hb2⟩ := hbb
        have hcat1 : S.size + U.size ≤ 9223372036854775807 := by omega
        have hcat2 : U.size + S.size ≤ 9223372036854775807 := by omega
        have hcat3 : ∀ w : World, (Op.stringOp .add S U).run Try.prog w = .ok (.string (S ++ U)) w := fun w => run_string_add_sum w S U hcat1
        have hcat4 : ∀ w : World, (Op.stringOp .add U S).run Try.prog w = .ok (.string (U ++ S)) w := fun w => run_string_add_sum w U S hcat2
        clear hval hvalU hrep hcy hroot hrl e1 e2 e3 f1 f2 f3 hrv hSm g1 g2 g3 hcyt hroott htl htv hiff
        go_wp2_with fail
        refine (HRt.out _).mono ?_
        rintro e w3 ⟨rfl, hb3⟩
        go_wp2_with fail
        refine (HPw.out _).mono ?_
        rintro e w4 ⟨rfl, hb4⟩
        go_wp2_with fail
        refine (HRr.out _).mono ?_
        rintro e w5 ⟨rfl, hb5⟩
        go_wp2_with fail
        refine (HRu.out _).mono ?_
        rintro e w6 ⟨rfl, hb6⟩
        have HB6 : Hid (Below w.heap.size w w6) := by
          have s2 := B2.out.size
          have s3 := hb3.size
          have s4 := hb4.size
          have s5 := hb5.size
          exact (((B2.out.trans (hb3.mono s2)).trans (hb4.mono (by omega))).trans (hb5.mono (by omega))).trans (hb6.mono (by omega))
        clear hb3 hb4 hb5 hb6
        cases b
        all_goals
          go_wp2
          go_ret
          exact ⟨rfl, HB6.out⟩
end Go.Proofs.Ytdighfjoechbkaa

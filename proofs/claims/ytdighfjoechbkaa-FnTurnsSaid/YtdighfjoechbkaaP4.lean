/- FnTurns: the walk. -/
import Derived.Test.YtdighfjoechbkaaP3
import Derived.Test.YtdighfjoechbkaaB2
import Derived.Test.YtdighfjoechbkaaE2
namespace Go.Proofs.Ytdighfjoechbkaa
open Go.ChangeShapes Go.WideShapes Go.RowKit
set_option linter.unusedVariables false
set_option linter.unusedSimpArgs false
set_option maxHeartbeats 1000000
set_option maxRecDepth 100000
theorem revS_twice (s : ByteArray) : revS (revS s) = s := by
  cases s with | mk d => simp [revS]
theorem revS_size (s : ByteArray) : (revS s).size = s.size := by
  cases s with | mk d => simp [revS, ByteArray.size]
theorem revS_valid {s : ByteArray} (h : validB s = true) : validB (revS s) = true := by
  unfold validB at h ⊢
  rw [revS_size]
  simp only [Bool.and_eq_true] at h ⊢
  refine ⟨?_, h.2⟩
  have h1 := h.1
  unfold allL at h1 ⊢
  simpa [revS] using h1
theorem cat_valid {s t : ByteArray} (h : validB s = true) (h2 : validB t = true) (h3 : s.size + t.size ≤ 2000) : validB (s ++ t) = true := by
  unfold validB at h h2 ⊢
  rw [ByteArray.size_append]
  simp only [Bool.and_eq_true, decide_eq_true_eq] at h h2 ⊢
  refine ⟨?_, h3⟩
  have h1 := h.1
  have h4 := h2.1
  unfold allL at h1 h4 ⊢
  rw [ByteArray.data_append, Array.toList_append, List.all_append, h1, h4]; rfl
theorem revS_cat (s : ByteArray) : revS (s ++ revS s) = s ++ revS s := by
  have : (s ++ revS s).data = s.data ++ (revS s).data := ByteArray.data_append
  unfold revS at this ⊢
  rw [this]
  cases s with | mk d => simp; apply ByteArray.ext; simp
theorem rep_rep (l : List UInt8) (a b : Nat) : Lib.repeatL (Lib.repeatL l a) b = Lib.repeatL l (a * b) := by
  induction b with
  | zero => rfl
  | succ b ih => show Lib.repeatL l a ++ Lib.repeatL (Lib.repeatL l a) b = _; rw [Nat.mul_succ, Nat.add_comm (a * b) a, Lib.repeatL_add, ih]
theorem repS_rep (s : ByteArray) (a b : Nat) : repS (repS s a) b = repS s (a * b) := by
  simp [repS, rep_rep]
theorem repS_size2 (s : ByteArray) (t : Nat) : (repS s t).size = t * s.size := by
  rw [← rep_len s t]; rfl
theorem repS_valid {s : ByteArray} {t : Nat} (h : validB s = true) (h2 : t * s.size ≤ 2000) : validB (repS s t) = true := by
  unfold validB at h ⊢
  rw [repS_size2]
  simp only [Bool.and_eq_true, decide_eq_true_eq] at h ⊢
  refine ⟨?_, h2⟩
  have h1 := h.1
  unfold allL at h1 ⊢
  have : ∀ t, (Lib.repeatL s.data.toList t).all (fun c => letB (c.toNat : Int)) = true := by
    intro t
    induction t with
    | zero => rfl
    | succ t ih => show (s.data.toList ++ _).all _ = true; rw [List.all_append, h1, ih]; rfl
  simpa [repS] using this t
theorem wf_small {a : Nat} (h : a ≤ 1000) : (Lit.int .i64 (a : Int)).wf = true := by
  have e1 : IntKind.i64.min = -9223372036854775808 := rfl
  have e2 : IntKind.i64.max = 9223372036854775807 := rfl
  simp [Lit.wf]
  omega
theorem walk_FnTurns (v : Value) (l : List UInt8) (v2 : Value) (l2 : List UInt8) (w : World) (h0 : InRow w v l.length 1 (u8s l)) (h0b : l.length ≤ 9223372036854775807) (h0c : True) (h1 : InRow w v2 l2.length 1 (u8s l2)) (h1b : l2.length ≤ 9223372036854775807) (h1c : True) :
    Calls Try.prog 15 #[v, v2] w fun e w' => e = .returned (.bool true) ∧ Below w.heap.size w w' := by
  have H0 := Lib.hid h0
  have H1 := Lib.hid h1
  clear h0 h1
  by_cases hlong : 3000 < l.length ∨ 3000 < l2.length
  · have HL : Hid ((decide (3000 < l.length) || decide (3000 < l2.length)) = true) := by show _ = _; simpa using hlong
    clear hlong
    go_enter Try.func15, Try.ntmps15
    go_wp2_with fail
    refine (l_a2Long v v2 _ _ _ _ w H0.out H1.out).mono ?_
    rintro e w1 ⟨rfl, rfl⟩
    rw [HL.out]
    go_wp2
    go_ret
    exact ⟨rfl, Below.refl _ _⟩
  · have HL : Hid ((decide (3000 < l.length) || decide (3000 < l2.length)) = false) := by show _ = _; simpa using hlong
    have hl : l.length ≤ 1048576 := by omega
    clear hlong
    go_enter Try.func15, Try.ntmps15
    go_wp2_with fail
    refine (l_a2Long v v2 _ _ _ _ w H0.out H1.out).mono ?_
    rintro e w1 ⟨rfl, rfl⟩
    rw [HL.out]
    go_wp2_with fail
    refine (s_A2Word v l 14 _ (by omega) hl H0.out).mono ?_
    rintro e w1 ⟨S, rfl, hS, hval, hg1⟩
    have b1 : Below w.heap.size w w1 := below_of_grown' hg1 (Nat.le_refl _) (fun _ e => by cases e)
    have i1 := inRow_below H1.out b1
    have HI1 := Lib.hid i1
    clear i1
    have hSm : S.size ≤ maxLen := by unfold maxLen; omega
    obtain ⟨T, hT⟩ : ∃ T, revS S = T := ⟨_, rfl⟩
    have hTS : revS T = S := by rw [← hT, revS_twice]
    have hTv : validB T = true := by rw [← hT]; exact revS_valid hval
    have hTz : T.size = S.size := by rw [← hT, revS_size]
    have hST : validB (S ++ T) = true := cat_valid hval hTv (by omega)
    have hSTr : revS (S ++ T) = S ++ T := by rw [← hT]; exact revS_cat S
    have hSTz : (S ++ T).size ≤ maxLen := by rw [ByteArray.size_append]; unfold maxLen; omega
    have HTurn : Hid (∀ w, Calls Try.prog 55 #[.string S] w fun e w' => e = .returned (.tuple #[.string T, .int .i64 0]) ∧ Below w.heap.size w w') := by
      intro w; have h := i_TurnWord S w hSm; rw [hval, hT] at h; exact h
    have HTurn2 : Hid (∀ w, Calls Try.prog 55 #[.string T] w fun e w' => e = .returned (.tuple #[.string S, .int .i64 0]) ∧ Below w.heap.size w w') := by
      intro w; have h := i_TurnWord T w (by omega); rw [hTv, hTS] at h; exact h
    have HPal : Hid (∀ w, Calls Try.prog 56 #[.string (S ++ T)] w fun e w' => e = .returned (.tuple #[.bool true, .int .i64 0]) ∧ Below w.heap.size w w') := by
      intro w; have h := i_IsPalindrome (S ++ T) w hSTz; rw [hST, hSTr] at h; simpa [ifb, okc] using h
    have HOwn : Hid (∀ w, Calls Try.prog 56 #[.string S] w fun e w' => e = .returned (.tuple #[.bool (S.toList == T.toList), .int .i64 0]) ∧ Below w.heap.size w w') := by
      intro w; have h := i_IsPalindrome S w hSm; rw [hval, hT] at h; rw [show (S.toList == T.toList) = (T.toList == S.toList) from BEq.comm]; exact h
    have HPw : Hid (∀ (a : Nat) (w), a ≤ 16 → Calls Try.prog 40 #[.string S, .int .i64 a] w fun e w' => e = .returned (.tuple #[.string (repS S a), .int .i64 0]) ∧ Below w.heap.size w w') := by
      intro a w ha
      have hk : (S.size : Int) * (a : Int) ≤ 2000 := by
        have : S.size * a ≤ 14 * 16 := Nat.mul_le_mul hS ha
        have e : ((S.size * a : Nat) : Int) = (S.size : Int) * a := by simp
        omega
      have h := i_PowerWord S a w hSm (wf_small (by omega))
      rw [(pw_ok hval hk).1, (pw_ok hval hk).2] at h
      exact h
    have HPw2 : Hid (∀ (a b : Nat) (w), a ≤ 4 → b ≤ 4 → Calls Try.prog 40 #[.string (repS S a), .int .i64 b] w fun e w' => e = .returned (.tuple #[.string (repS S (a * b)), .int .i64 0]) ∧ Below w.heap.size w w') := by
      intro a b w ha hb
      have hz : (repS S a).size ≤ 56 := by rw [repS_size2]; exact Nat.mul_le_mul ha hS
      have hv : validB (repS S a) = true := repS_valid hval (by have := Nat.mul_le_mul ha hS; omega)
      have hk : ((repS S a).size : Int) * (b : Int) ≤ 2000 := by
        have : (repS S a).size * b ≤ 56 * 4 := Nat.mul_le_mul hz hb
        have e : (((repS S a).size * b : Nat) : Int) = ((repS S a).size : Int) * b := by simp
        omega
      have h := i_PowerWord (repS S a) b w (by unfold maxLen; omega) (wf_small (by omega))
      rw [(pw_ok hv hk).1, (pw_ok hv hk).2, repS_rep] at h
      exact h
    have hcat1 : S.size + T.size ≤ 9223372036854775807 := by omega
    have hcat4 : ∀ w : World, (Op.stringOp .add S T).run Try.prog w = .ok (.string (S ++ T)) w := fun w => run_string_add_sum w S T hcat1
    have HB1 := Lib.hid b1
    clear hg1 b1 hT hTS hTv hST hSTr hSTz hSm hval h0b h0c h1b h1c HL
    go_wp2_with fail
    refine (HTurn.out _).mono ?_
    rintro e w2 ⟨rfl, hb2⟩
    go_wp2_with fail
    refine (HTurn2.out _).mono ?_
    rintro e w3 ⟨rfl, hb3⟩
    go_wp2_with fail
    refine (HPal.out _).mono ?_
    rintro e w4 ⟨rfl, hb4⟩
    go_wp2_with fail
    refine (HOwn.out _).mono ?_
    rintro e w5 ⟨rfl, hb5⟩
    have i5 := inRow_below (inRow_below (inRow_below (inRow_below HI1.out hb2) hb3) hb4) hb5
    have HI5 := Lib.hid i5
    clear i5
    cases hEq : (S.toList == T.toList)
    all_goals
      go_wp2_with fail
      refine (l_a2At v2 l2 0 4 _ HI5.out).mono ?_
      rintro e w6 ⟨a, rfl, ha, ⟨q6, rfl⟩⟩
      go_wp2_with fail
      refine (l_a2At v2 l2 1 4 _ (inRow_below HI5.out (below_drewN (Below.refl _ _) q6))).mono ?_
      rintro e w7 ⟨b, rfl, hb, ⟨q7, rfl⟩⟩
      have ha4 : a ≤ 4 := by omega
      have hb4' : b ≤ 4 := by omega
      have hab : a * b ≤ 4 * 4 := Nat.mul_le_mul ha4 hb4'
      have HAB : Hid (((a * b : Nat) : Int) = (a : Int) * b) := by show _ = _; simp
      have hab0 : (0 : Int) ≤ (a : Int) * b := by rw [← HAB.out]; omega
      have hab1 : (a : Int) * b ≤ 16 := by rw [← HAB.out]; omega
      have HX := Lib.hid (fun w => HPw.out a w (by omega))
      have HY := Lib.hid (fun w => HPw2.out a b w ha4 hb4')
      have HZ := Lib.hid (fun w => HPw.out (a * b) w hab)
      clear HPw HPw2 ha hb hab
      rw [HAB.out] at HZ
      clear HAB
      generalize repS S (a * b) = Y at *
      generalize repS S a = X at *
      go_wp2_with fail
      refine (HX.out _).mono ?_
      rintro e w8 ⟨rfl, hb8⟩
      go_wp2_with fail
      refine (HY.out _).mono ?_
      rintro e w9 ⟨rfl, hb9⟩
      go_wp2_with fail
      refine (HZ.out _).mono ?_
      rintro e w10 ⟨rfl, hb10⟩
      have s1 := HB1.out.size
      have s2 := hb2.size
      have s3 := hb3.size
      have s4 := hb4.size
      have s5 := hb5.size
      have s8 := hb8.size
      have s9 := hb9.size
      simp only [World.heap_drewN] at s8
      have HBB : Hid (Below w.heap.size w w10) := by
        have k5 := (((HB1.out.trans (hb2.mono (by omega))).trans (hb3.mono (by omega))).trans (hb4.mono (by omega))).trans (hb5.mono (by omega))
        have k7 := below_drewN k5 (q6 + q7)
        exact ((k7.trans (hb8.mono (by show w.heap.size ≤ w5.heap.size; omega))).trans (hb9.mono (by omega))).trans (hb10.mono (by omega))
      clear hb2 hb3 hb4 hb5 hb8 hb9 hb10
      go_wp2
      go_ret
      exact ⟨rfl, HBB.out⟩
end Go.Proofs.Ytdighfjoechbkaa

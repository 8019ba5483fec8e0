/- Comparisons of lists and of tables. -/
import Derived.Test.YtimfbnjgodbgoaaHB
namespace Go.Proofs.Ytimfbnjgodbgoaa
open Go.ChangeShapes Go.WideShapes Go.RowKit
set_option linter.unusedVariables false
set_option linter.unusedSimpArgs false
set_option maxHeartbeats 4000000
set_option maxRecDepth 100000
theorem s_l00Same (va vb : Value) (xs ys : List Int) (w : World) (ha : InI w va xs) (hb : InI w vb ys) (hx : xs.length ≤ 1048576) (hy : ys.length ≤ 1048576) :
    Calls Try.prog 48 #[va, vb] w fun e w' => e = .returned (.bool (decide (xs = ys))) ∧ Qt w w' := by
  obtain ⟨a, cap, rfl⟩ := inI_sl ha
  obtain ⟨a1, cap1, rfl⟩ := inI_sl hb
  have HA := Lib.hid ha
  have HB := Lib.hid hb
  clear ha hb
  by_cases hlen : xs.length = ys.length
  · have hle : ((xs.length : Int) != ys.length) = false := by simp [hlen]
    have HLEN := Lib.hid hlen
    clear hlen
    go_enter Try.func48, Try.ntmps48
    go_wp2
    go_loopw [5] (fun i wr => Qt w wr ∧ ∃ k : Nat, k ≤ xs.length ∧ i = .int .i64 k ∧ ∀ t, t < k → xs.getD t 0 = ys.getD t 0) (fun i _ => xs.length - (intOf i).toNat)
    case atStart => exact ⟨Qt.refl _, 0, by omega, rfl, fun t ht => by omega⟩
    case round =>
      obtain ⟨hq, k, hk, rfl, hall⟩ := hrel
      have HALL := Lib.hid hall
      clear hall
      by_cases hlt : k < xs.length
      · have hbl : Below w.heap.size w wr := by obtain ⟨q0, rfl⟩ := hq; exact below_drewN (Below.refl _ _) _
        obtain ⟨g, off, rfl, hg, hx1⟩ := inI_at (inI_below HA.out hbl) hlt
        obtain ⟨g1, off1, rfl, hg1, hy1⟩ := inI_at (inI_below HB.out hbl) (show k < ys.length by have := HLEN.out; omega)
        have hin : ((k : Nat) : Int) < xs.length := by omega
        have hin2 : ((k : Nat) : Int) < ys.length := by have := HLEN.out; omega
        have HEQ : Hid (xs.getD k 0 = ys.getD k 0 → ∀ t, t < k + 1 → xs.getD t 0 = ys.getD t 0) := by
          intro e t ht
          by_cases he : t = k
          · subst he; exact e
          · exact HALL.out t (by omega)
        have HNE : Hid (¬ xs.getD k 0 = ys.getD k 0 → decide (xs = ys) = false) := by
          intro h
          rw [decide_eq_false_iff_not]
          rintro rfl
          exact h rfl
        clear hbl
        generalize xs.getD k 0 = x1 at *
        generalize ys.getD k 0 = y1 at *
        by_cases heq : x1 = y1
        · have HALL2 := Lib.hid (HEQ.out heq)
          subst heq
          go_wp2
          go_big_quiet (fail)
          go_wp2
          go_roundw
          case rel => exact ⟨hq.drewN _, k + 1, by omega, by go_num, HALL2.out⟩
          case measure => first | (simp [intOf]; done) | (simp [intOf]; omega)
        · have HF := Lib.hid (HNE.out heq)
          have hne : (x1 != y1) = true := by simpa using heq
          clear heq
          go_wp2
          go_big_quiet (fail)
          go_wp2
          go_ret
          exact ⟨ret_bool HF.out.symm, hq.drewN _⟩
      · have ek : k = xs.length := by omega
        subst ek
        have HF : Hid (decide (xs = ys) = true) := by
          show _ = _
          rw [decide_eq_true_iff]
          apply List.ext_getElem HLEN.out
          intro j h1 h2
          have := HALL.out j h1
          rwa [List.getD, List.getD, List.getElem?_eq_getElem h1, List.getElem?_eq_getElem h2] at this
        have hk' : ¬ (xs.length : Int) < xs.length := by omega
        go_wp2
        go_ret
        exact ⟨ret_bool HF.out.symm, hq⟩
  · have hle : ((xs.length : Int) != ys.length) = true := by simp only [bne_iff_ne, ne_eq]; omega
    have HF : Hid (decide (xs = ys) = false) := by show _ = _; rw [decide_eq_false_iff_not]; rintro rfl; exact hlen rfl
    go_enter Try.func48, Try.ntmps48
    go_wp2
    go_ret
    exact ⟨ret_bool HF.out.symm, Qt.refl _⟩
theorem drewN_zero (w : World) : w.drewN 0 = w := rfl
theorem s_l04SameRows (va vb : Value) (xs ys : Tb) (w : World) (ha : InT w va xs) (hb : InT w vb ys) (hx : xs.length ≤ 1048576) (hy : ys.length ≤ 1048576) (hxr : ∀ r ∈ xs, r.length ≤ 1048576) (hyr : ∀ r ∈ ys, r.length ≤ 1048576) :
    Calls Try.prog 49 #[va, vb] w fun e w' => e = .returned (.bool (decide (xs = ys))) ∧ Qt w w' := by
  obtain ⟨a, cap, rfl⟩ := inT_sl ha
  obtain ⟨a1, cap1, rfl⟩ := inT_sl hb
  have HA := Lib.hid ha
  have HB := Lib.hid hb
  have HXR := Lib.hid hxr
  have HYR := Lib.hid hyr
  clear ha hb hxr hyr
  skip
  by_cases hlen : xs.length = ys.length
  · have hle : ((xs.length : Int) != ys.length) = false := by simp [hlen]
    have HLEN := Lib.hid hlen
    clear hlen
    go_enter Try.func49, Try.ntmps49
    go_wp2
    go_loopw [5] (fun i wr => Qt w wr ∧ ∃ k : Nat, k ≤ xs.length ∧ i = .int .i64 k ∧ ∀ t, t < k → tA xs t = tA ys t) (fun i _ => xs.length - (intOf i).toNat)
    case atStart => exact ⟨Qt.refl _, 0, by omega, rfl, fun t ht => by omega⟩
    case round =>
      obtain ⟨hq, k, hk, rfl, hall⟩ := hrel
      have HALL := Lib.hid hall
      clear hall
      by_cases hlt : k < xs.length
      · have hbl : Below w.heap.size w wr := by obtain ⟨q0, rfl⟩ := hq; exact below_drewN (Below.refl _ _) _
        obtain ⟨g, off, r0, c0, rfl, hg, hx1, hi1⟩ := inT_at (inT_below HA.out hbl) hlt
        obtain ⟨g1, off1, r1, c1, rfl, hg1, hy1, hi2⟩ := inT_at (inT_below HB.out hbl) (show k < ys.length by have := HLEN.out; omega)
        have hin : ((k : Nat) : Int) < xs.length := by omega
        have hin2 : ((k : Nat) : Int) < ys.length := by have := HLEN.out; omega
        have HEQ : Hid (tA xs k = tA ys k → ∀ t, t < k + 1 → tA xs t = tA ys t) := by
          intro e t ht
          by_cases he : t = k
          · subst he; exact e
          · exact HALL.out t (by omega)
        have HNE : Hid (¬ tA xs k = tA ys k → decide (xs = ys) = false) := by
          intro h
          rw [decide_eq_false_iff_not]
          rintro rfl
          exact h rfl
        have hl1 := HXR.out _ (tA_mem hlt)
        have hl2 := HYR.out _ (tA_mem (show k < ys.length by have := HLEN.out; omega))
        clear hbl
        generalize tA xs k = x1 at *
        generalize tA ys k = y1 at *
        have HS : Hid (∀ q, Calls Try.prog 48 #[.slice r0 x1.length c0, .slice r1 y1.length c1] (wr.drewN q) fun e w' => e = .returned (.bool (decide (x1 = y1))) ∧ Qt (wr.drewN q) w') := fun q => by
          have e1 : InI (wr.drewN q) (.slice r0 x1.length c0) x1 := inI_below hi1 (below_drewN (Below.refl _ _) q)
          have e2 : InI (wr.drewN q) (.slice r1 y1.length c1) y1 := inI_below hi2 (below_drewN (Below.refl _ _) q)
          exact s_l00Same _ _ _ _ _ e1 e2 hl1 hl2
        clear hi1 hi2
        by_cases heq : x1 = y1
        · have HALL2 := Lib.hid (HEQ.out heq)
          have hd : decide (x1 = y1) = true := by simp [heq]
          rw [hd] at HS
          clear heq hd
          go_wp2
          go_big_quiet ((go_at_call 48; exact Calls.quiet_of (HS.out _)))
          go_wp2
          go_roundw
          case rel => exact ⟨hq.drewN _, k + 1, by omega, by go_num, HALL2.out⟩
          case measure => first | (simp [intOf]; done) | (simp [intOf]; omega)
        · have HF := Lib.hid (HNE.out heq)
          have hd : decide (x1 = y1) = false := by simp [heq]
          rw [hd] at HS
          clear heq hd
          go_wp2
          go_big_quiet ((go_at_call 48; exact Calls.quiet_of (HS.out _)))
          go_wp2
          go_ret
          exact ⟨ret_bool HF.out.symm, hq.drewN _⟩
      · have ek : k = xs.length := by omega
        subst ek
        have HF : Hid (decide (xs = ys) = true) := by
          show _ = _
          rw [decide_eq_true_iff]
          apply List.ext_getElem HLEN.out
          intro j h1 h2
          have := HALL.out j h1
          rwa [tA, tA, List.getD, List.getD, List.getElem?_eq_getElem h1, List.getElem?_eq_getElem h2] at this
        have hk' : ¬ (xs.length : Int) < xs.length := by omega
        go_wp2
        go_ret
        exact ⟨ret_bool HF.out.symm, hq⟩
  · have hle : ((xs.length : Int) != ys.length) = true := by simp only [bne_iff_ne, ne_eq]; omega
    have HF : Hid (decide (xs = ys) = false) := by show _ = _; rw [decide_eq_false_iff_not]; rintro rfl; exact hlen rfl
    go_enter Try.func49, Try.ntmps49
    go_wp2
    go_ret
    exact ⟨ret_bool HF.out.symm, Qt.refl _⟩
def auE (a b : Au) : Bool := decide (a.st = b.st ∧ a.sa = b.sa ∧ a.fi = b.fi ∧ a.nx = b.nx)
theorem s_SameAuto (u1 u2 x1 x2 : Value) (a b : Au) (w : World) (ha : auSm a) (hb : auSm b) (h1 : InI w u1 a.fi) (h2 : InT w u2 a.nx) (h3 : InI w x1 b.fi) (h4 : InT w x2 b.nx) :
    Calls Try.prog 20 #[.agg #[.int .i64 a.st, .int .i64 a.sa, u1, u2], .agg #[.int .i64 b.st, .int .i64 b.sa, x1, x2]] w fun e w' => e = .returned (.bool (auE a b)) ∧ Below w.heap.size w w' := by
  have hbx := ((Below.refl w.heap.size w).alloc (Nat.le_refl _) (.cells #[.int .i64 a.st, .int .i64 a.sa, u1, u2] 43)).alloc (by simp) (.cells #[.int .i64 b.st, .int .i64 b.sa, x1, x2] 43)
  have HI := Lib.hid (fun w h h' => s_l00Same u1 x1 a.fi b.fi w h h' ha.1 hb.1)
  have HT := Lib.hid (fun w h h' => s_l04SameRows u2 x2 a.nx b.nx w h h' ha.2.1 hb.2.1 ha.2.2 hb.2.2)
  have H1 := Lib.hid (inI_below h1 hbx)
  have H2 := Lib.hid (inT_below h2 hbx)
  have H3 := Lib.hid (inI_below h3 hbx)
  have H4 := Lib.hid (inT_below h4 hbx)
  have HBX := Lib.hid hbx
  have HE : Hid (auE a b = decide (a.st = b.st ∧ a.sa = b.sa ∧ a.fi = b.fi ∧ a.nx = b.nx)) := rfl
  clear ha hb h1 h2 h3 h4 hbx
  generalize a.st = s1 at *
  generalize b.st = s2 at *
  generalize a.sa = t1 at *
  generalize b.sa = t2 at *
  by_cases e1 : s1 = s2
  · have b1 : (s1 == s2) = true := by simpa using e1
    by_cases e2 : t1 = t2
    · have b2 : (t1 == t2) = true := by simpa using e2
      by_cases e3 : a.fi = b.fi
      · have d3 : decide (a.fi = b.fi) = true := by simpa using e3
        rw [d3] at HI
        have hx : auE a b = decide (a.nx = b.nx) := by rw [HE.out]; simp [e1, e2, e3]
        have HX := Lib.hid hx
        clear hx HE e1 e2 e3 d3
        generalize decide (a.nx = b.nx) = r at *
        go_enter Try.func20, Try.ntmps20
        go_wp2_with fail
        refine (HI.out _ H1.out H3.out).mono ?_
        rintro e w2 ⟨rfl, q2, rfl⟩
        go_wp2_with fail
        refine (HT.out _ (inT_below H2.out (below_drewN (Below.refl _ _) q2)) (inT_below H4.out (below_drewN (Below.refl _ _) q2))).mono ?_
        rintro e w2 ⟨rfl, q3, rfl⟩
        go_wp2
        go_ret
        exact ⟨ret_bool HX.out.symm, by first | exact below_drewN (below_drewN HBX.out _) _ | exact below_drewN HBX.out _⟩
      · have d3 : decide (a.fi = b.fi) = false := by simpa using e3
        rw [d3] at HI
        have hx : auE a b = false := by rw [HE.out]; simp [e3]
        have HX := Lib.hid hx
        clear hx HE e1 e2 e3 d3
        go_enter Try.func20, Try.ntmps20
        go_wp2_with fail
        refine (HI.out _ H1.out H3.out).mono ?_
        rintro e w2 ⟨rfl, q2, rfl⟩
        go_wp2
        go_ret
        exact ⟨ret_bool HX.out.symm, below_drewN HBX.out _⟩
    · have b2 : (t1 == t2) = false := by simpa using e2
      have hx : auE a b = false := by rw [HE.out]; simp [e2]
      have HX := Lib.hid hx
      clear hx HE e1 e2
      go_enter Try.func20, Try.ntmps20
      go_wp2
      go_ret
      exact ⟨ret_bool HX.out.symm, HBX.out⟩
  · have b1 : (s1 == s2) = false := by simpa using e1
    have hx : auE a b = false := by rw [HE.out]; simp [e1]
    have HX := Lib.hid hx
    clear hx HE e1
    go_enter Try.func20, Try.ntmps20
    go_wp2
    go_ret
    exact ⟨ret_bool HX.out.symm, HBX.out⟩
end Go.Proofs.Ytimfbnjgodbgoaa

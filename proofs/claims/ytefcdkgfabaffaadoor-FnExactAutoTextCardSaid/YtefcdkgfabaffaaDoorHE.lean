/- What a right automaton is; the reference's walks. -/
import Derived.Test.YtefcdkgfabaffaaDoorHD
namespace Go.Proofs.YtefcdkgfabaffaaDoor
open Go.ChangeShapes Go.WideShapes Go.RowKit
set_option linter.unusedVariables false
set_option linter.unusedSimpArgs false
set_option maxHeartbeats 4000000
set_option maxRecDepth 100000
def riP (m : Int) (xs : List Int) (t : Nat) : Prop := (0 ≤ xs.getD t 0 ∧ xs.getD t 0 ≤ m) ∧ (0 < t → xs.getD (t - 1) 0 < xs.getD t 0)
instance (m : Int) (xs : List Int) (t : Nat) : Decidable (riP m xs t) := by unfold riP; infer_instance
def riOk (m : Int) (xs : List Int) : Bool := decide (∀ t, t < xs.length → riP m xs t)
theorem riOk_t {m : Int} {xs : List Int} (h : ∀ t, t < xs.length → riP m xs t) : riOk m xs = true := by unfold riOk; exact decide_eq_true h
theorem riOk_f {m : Int} {xs : List Int} {k : Nat} (hk : k < xs.length) (h : ¬ riP m xs k) : riOk m xs = false := by unfold riOk; exact decide_eq_false (fun g => h (g k hk))
def roP (m : Int) (r : List Int) : Prop := r.length = 4 ∧ ∀ l, l < 4 → 0 ≤ r.getD l 0 ∧ r.getD l 0 ≤ m
instance (m : Int) (r : List Int) : Decidable (roP m r) := by unfold roP; infer_instance
def nxOk (m : Int) (t : Tb) : Bool := decide (∀ s, s < t.length → roP m (tA t s))
theorem nxOk_t {m : Int} {t : Tb} (h : ∀ s, s < t.length → roP m (tA t s)) : nxOk m t = true := by unfold nxOk; exact decide_eq_true h
theorem nxOk_f {m : Int} {t : Tb} {k : Nat} (hk : k < t.length) (h : ¬ roP m (tA t k)) : nxOk m t = false := by unfold nxOk; exact decide_eq_false (fun g => h (g k hk))
/-- a right automaton -/
def auOk (a : Au) : Bool := decide (1 ≤ a.st ∧ a.st ≤ 24) && decide (0 ≤ a.sa ∧ a.sa ≤ a.st - 1) && riOk (a.st - 1) a.fi && (nxOk (a.st - 1) a.nx && decide ((a.nx.length : Int) = a.st))
theorem in_f {x lo hi : Int} (h : ¬ (lo ≤ x ∧ x ≤ hi)) : (decide (lo ≤ x) && decide (x ≤ hi)) = false := by simp; omega
theorem in_t {x lo hi : Int} (h : lo ≤ x ∧ x ≤ hi) : (decide (lo ≤ x) && decide (x ≤ hi)) = true := by simp; omega
theorem s_l00Rises (v : Value) (xs : List Int) (m : Int) (w : World) (hx : xs.length ≤ 1048576) (hin : InI w v xs) :
    Calls Tryd.prog 20 #[v, .int .i64 0, .int .i64 m] w fun e w' => e = .returned (.bool (riOk m xs)) ∧ Qt w w' := by
  obtain ⟨a, cap, rfl⟩ := inI_sl hin
  have HIN := Lib.hid hin
  clear hin
  go_enter Tryd.func20, Tryd.ntmps20
  go_wp2
  go_loopw [7] (fun i wr => Qt w wr ∧ ∃ k : Nat, k ≤ xs.length ∧ i = .int .i64 k ∧ ∀ t, t < k → riP m xs t) (fun i _ => xs.length - (intOf i).toNat)
  case atStart => exact ⟨Qt.refl _, 0, by omega, rfl, fun t ht => by omega⟩
  case round =>
    obtain ⟨hq, k, hk, rfl, hall⟩ := hrel
    have HALL := Lib.hid hall
    clear hall
    by_cases hlt : k < xs.length
    · have hbl : Below w.heap.size w wr := by obtain ⟨q0, rfl⟩ := hq; exact below_drewN (Below.refl _ _) _
      obtain ⟨g, off, rfl, hg, hx1⟩ := inI_at (inI_below HIN.out hbl) hlt
      have hin : ((k : Nat) : Int) < xs.length := by omega
      have HF := Lib.hid (fun h => riOk_f (m := m) hlt h)
      have HT : Hid (riP m xs k → ∀ t, t < k + 1 → riP m xs t) := by
        intro h t ht
        by_cases he : t = k
        · subst he; exact h
        · exact HALL.out t (by omega)
      have HP : Hid (riP m xs k ↔ (0 ≤ xs.getD k 0 ∧ xs.getD k 0 ≤ m) ∧ (0 < k → xs.getD (k - 1) 0 < xs.getD k 0)) := Iff.rfl
      by_cases hr : 0 ≤ xs.getD k 0 ∧ xs.getD k 0 ≤ m
      · have HW := Lib.hid (fun w => s_l00In_r (xs.getD k 0) 0 m true (in_t hr) w)
        by_cases hk0 : 0 < k
        · obtain ⟨j, hj⟩ : ∃ j, k = j + 1 := ⟨k - 1, by omega⟩
          have hx2 : wr.cell? ⟨g, off + j, none⟩ = some (.int .i64 (xs.getD j 0)) := by
            obtain ⟨g', off', e, _, h⟩ := inI_at (inI_below HIN.out hbl) (show j < xs.length by omega)
            injection e with e; injection e with e1 e2
            subst e1 e2; exact h
          have hij : (k : Int) - 1 = (j : Int) := by omega
          have hjI : (j : Int) < xs.length := by omega
          have hkI : (0 : Int) < k := by omega
          have HP2 : Hid (riP m xs k ↔ xs.getD j 0 < xs.getD k 0) := by
            show _ ↔ _
            rw [HP.out, show k - 1 = j by omega]
            exact ⟨fun h => h.2 hk0, fun h => ⟨hr, fun _ => h⟩⟩
          clear hbl hj HP hr
          generalize xs.getD k 0 = x at *
          generalize xs.getD j 0 = y at *
          by_cases hc : y < x
          · have H2 := Lib.hid (HT.out (HP2.out.2 hc))
            have hc2 : ¬ x ≤ y := by omega
            go_wp2
            go_big_quiet ((go_at_call 19; exact (HW.out _).mono (fun e w'' h => ⟨h.1, _, h.2.symm⟩)))
            go_wp2
            go_roundw
            case rel => exact ⟨hq.drewN _, k + 1, by omega, by go_num, H2.out⟩
            case measure => first | (simp [intOf]; done) | (simp [intOf]; omega)
          · have H2 := Lib.hid (HF.out (fun h => hc (HP2.out.1 h)))
            have hc2 : x ≤ y := by omega
            go_wp2
            go_big_quiet ((go_at_call 19; exact (HW.out _).mono (fun e w'' h => ⟨h.1, _, h.2.symm⟩)))
            go_wp2
            go_ret
            exact ⟨ret_bool H2.out.symm, hq.drewN _⟩
        · have H2 := Lib.hid (HT.out (HP.out.2 ⟨hr, fun h => absurd h hk0⟩))
          have hkI : ¬ (0 : Int) < k := by omega
          clear hbl HP hr HF
          generalize xs.getD k 0 = x at *
          go_wp2
          go_big_quiet ((go_at_call 19; exact (HW.out _).mono (fun e w'' h => ⟨h.1, _, h.2.symm⟩)))
          go_wp2
          go_roundw
          case rel => exact ⟨hq.drewN _, k + 1, by omega, by go_num, H2.out⟩
          case measure => first | (simp [intOf]; done) | (simp [intOf]; omega)
      · have HW := Lib.hid (fun w => s_l00In_r (xs.getD k 0) 0 m false (in_f hr) w)
        have H2 := Lib.hid (HF.out (fun h => hr h.1))
        clear hbl HP hr HF
        generalize xs.getD k 0 = x at *
        go_wp2
        go_big_quiet ((go_at_call 19; exact (HW.out _).mono (fun e w'' h => ⟨h.1, _, h.2.symm⟩)))
        go_wp2
        go_ret
        exact ⟨ret_bool H2.out.symm, hq.drewN _⟩
    · have ek : k = xs.length := by omega
      subst ek
      have HF := Lib.hid (riOk_t (m := m) HALL.out)
      have hk' : ¬ (xs.length : Int) < xs.length := by omega
      go_wp2
      go_ret
      exact ⟨ret_bool HF.out.symm, hq⟩
theorem s_l04Next (v : Value) (t : Tb) (st : Int) (w : World) (h1 : 1 ≤ st) (h2 : st ≤ 24) (hx : t.length ≤ 1048576) (hr : ∀ r ∈ t, r.length ≤ 1048576) (hin : InT w v t) :
    Calls Tryd.prog 21 #[.int .i64 st, v] w fun e w' => e = .returned (.bool (nxOk (st - 1) t && decide ((t.length : Int) = st))) ∧ w = w' := by
  obtain ⟨a, cap, rfl⟩ := inT_sl hin
  have HIN := Lib.hid hin
  have HR := Lib.hid hr
  clear hin hr
  go_enter Tryd.func21, Tryd.ntmps21
  go_wp2
  go_loop [5, 6] (fun i _ => ∃ k : Nat, k ≤ t.length ∧ i = .int .i64 k ∧ ∀ s, s < k → roP (st - 1) (tA t s)) (fun i _ => t.length - (intOf i).toNat)
  case atStart => exact ⟨0, by omega, rfl, fun t ht => by omega⟩
  case round =>
    obtain ⟨k, hk, rfl, hall⟩ := hrel
    have HALL := Lib.hid hall
    clear hall
    by_cases hlt : k < t.length
    · obtain ⟨b, off, r, c, rfl, hbl, hc0, hri⟩ := inT_at HIN.out hlt
      have hin : ((k : Nat) : Int) < t.length := by omega
      have HF := Lib.hid (fun h => nxOk_f (m := st - 1) hlt h)
      have HT : Hid (roP (st - 1) (tA t k) → ∀ s, s < k + 1 → roP (st - 1) (tA t s)) := by
        intro h s hs
        by_cases he : s = k
        · subst he; exact h
        · exact HALL.out s (by omega)
      have hrl := HR.out _ (tA_mem hlt)
      have HRI := Lib.hid hri
      clear hri
      generalize tA t k = rw' at *
      by_cases h4 : rw'.length = 4
      · have h4b : ((rw'.length : Int) != 4) = false := by simp [h4]
        have H4 := Lib.hid h4
        clear h4
        go_wp2
        go_loop [6] (fun i => ∃ l : Nat, l ≤ 4 ∧ i = .int .i64 l ∧ ∀ q, q < l → 0 ≤ rw'.getD q 0 ∧ rw'.getD q 0 ≤ st - 1) (fun i => 4 - (intOf i).toNat)
        case atStart => exact ⟨0, by omega, rfl, fun q hq => by omega⟩
        case round =>
          obtain ⟨l, hl, rfl, hin4⟩ := hrel
          have HIN4 := Lib.hid hin4
          clear hin4
          by_cases hl4 : l < 4
          · obtain ⟨b2, off2, rfl, hb2, hcx⟩ := inI_at HRI.out (show l < rw'.length by have := H4.out; omega)
            have hlI : (l : Int) < rw'.length := by have := H4.out; omega
            by_cases hrr : 0 ≤ rw'.getD l 0 ∧ rw'.getD l 0 ≤ st - 1
            · have HW := Lib.hid (fun w => s_l00In_r (rw'.getD l 0) 0 (st - 1) true (in_t hrr) w)
              have H2 : Hid (∀ q, q < l + 1 → 0 ≤ rw'.getD q 0 ∧ rw'.getD q 0 ≤ st - 1) := by
                intro q hq
                by_cases he : q = l
                · subst he; exact hrr
                · exact HIN4.out q (by omega)
              clear hrr
              generalize rw'.getD l 0 = x at *
              go_wp2_with fail
              refine (HW.out _).mono ?_
              rintro e w3 ⟨rfl, rfl⟩
              go_wp2
              go_round
              case rel => exact ⟨l + 1, by omega, by go_num, H2.out⟩
              case measure => first | (simp [intOf]; done) | (simp [intOf]; omega)
            · have HW := Lib.hid (fun w => s_l00In_r (rw'.getD l 0) 0 (st - 1) false (in_f hrr) w)
              have H2 := Lib.hid (HF.out (fun h => hrr (h.2 l hl4)))
              clear hrr
              generalize rw'.getD l 0 = x at *
              go_wp2_with fail
              refine (HW.out _).mono ?_
              rintro e w3 ⟨rfl, rfl⟩
              go_wp2
              go_ret
              exact ⟨ret_bool (by rw [H2.out]; rfl), rfl⟩
          · have el : l = 4 := by omega
            subst el
            have H2 := Lib.hid (HT.out ⟨H4.out, HIN4.out⟩)
            go_wp2
            go_round
            case rel => exact ⟨k + 1, by omega, by go_num, H2.out⟩
            case measure => first | (simp [intOf]; done) | (simp [intOf]; omega)
      · have h4b : ((rw'.length : Int) != 4) = true := by simp only [bne_iff_ne, ne_eq]; omega
        have H2 := Lib.hid (HF.out (fun h => h4 h.1))
        clear h4
        go_wp2
        go_ret
        exact ⟨ret_bool (by rw [H2.out]; rfl), rfl⟩
    · have ek : k = t.length := by omega
      subst ek
      have HF := Lib.hid (nxOk_t (m := st - 1) HALL.out)
      have hk' : ¬ (t.length : Int) < t.length := by omega
      have he : ((t.length : Int) == st) = decide ((t.length : Int) = st) := rfl
      go_wp2
      go_ret
      exact ⟨ret_bool (by rw [HF.out]; rfl), rfl⟩
theorem auOk_st {a : Au} (h : ¬ (1 ≤ a.st ∧ a.st ≤ 24)) : auOk a = false := by simp only [auOk, h, decide_false, Bool.false_and]
theorem auOk_sa {a : Au} (h : ¬ (0 ≤ a.sa ∧ a.sa ≤ a.st - 1)) : auOk a = false := by simp only [auOk, h, decide_false, Bool.and_false, Bool.false_and]
theorem auOk_fi {a : Au} (h : riOk (a.st - 1) a.fi = false) : auOk a = false := by simp only [auOk, h, Bool.and_false, Bool.false_and]
theorem auOk_nx {a : Au} (h1 : 1 ≤ a.st ∧ a.st ≤ 24) (h2 : 0 ≤ a.sa ∧ a.sa ≤ a.st - 1) (h3 : riOk (a.st - 1) a.fi = true) : auOk a = (nxOk (a.st - 1) a.nx && decide ((a.nx.length : Int) = a.st)) := by simp only [auOk, h1, h2, h3, and_self, decide_true, Bool.and_self, Bool.true_and]
theorem s_l04Ok (bq oq : Nat) (u1 u2 : Value) (a : Au) (w : World) (hs : auSm a) (c0 : w.cell? ⟨bq, oq, none⟩ = some (.int .i64 a.st)) (c1 : w.cell? ⟨bq, oq + 1, none⟩ = some (.int .i64 a.sa)) (c2 : w.cell? ⟨bq, oq + 2, none⟩ = some u1) (c3 : w.cell? ⟨bq, oq + 3, none⟩ = some u2) (h1 : InI w u1 a.fi) (h2 : InT w u2 a.nx) :
    Calls Tryd.prog 11 #[.pointer (some ⟨bq, oq, none⟩)] w fun e w' => e = .returned (.bool (auOk a)) ∧ Qt w w' := by
  by_cases hst : 1 ≤ a.st ∧ a.st ≤ 24
  · have HW1 := Lib.hid (fun w => s_l00In_r a.st 1 24 true (in_t hst) w)
    by_cases hsa : 0 ≤ a.sa ∧ a.sa ≤ a.st - 1
    · have HW2 := Lib.hid (fun w => s_l00In_r a.sa 0 (a.st - 1) true (in_t hsa) w)
      have HR := Lib.hid (fun w h => s_l00Rises u1 a.fi (a.st - 1) w hs.1 h)
      cases hri : riOk (a.st - 1) a.fi
      · have HF := Lib.hid (auOk_fi hri)
        rw [hri] at HR
        have HI1 := Lib.hid h1
        clear h1 h2 hri hs hsa
        generalize a.st = st at *
        generalize a.sa = sa at *
        obtain ⟨hst1, hst2⟩ := hst
        go_enter Tryd.func11, Tryd.ntmps11
        go_wp2
        go_big_quiet (first | (go_at_call 19; first | with_reducible exact (HW1.out _).mono (fun e w'' h => ⟨h.1, _, h.2.symm⟩) | with_reducible exact (HW2.out _).mono (fun e w'' h => ⟨h.1, _, h.2.symm⟩)) | (go_at_call 20; exact Calls.quiet_of (HR.out _ (inI_below HI1.out (below_drewN (Below.refl _ _) _)))))
        go_wp2
        go_ret
        exact ⟨ret_bool HF.out.symm, ⟨_, rfl⟩⟩
      · have HF := Lib.hid (auOk_nx hst hsa hri)
        have HN := Lib.hid (fun w h => s_l04Next u2 a.nx a.st w hst.1 hst.2 hs.2.1 hs.2.2 h)
        rw [hri] at HR
        have HI1 := Lib.hid h1
        have HI2 := Lib.hid h2
        clear h1 h2 hri hs hsa
        generalize (nxOk (a.st - 1) a.nx && decide ((a.nx.length : Int) = a.st)) = rr at *
        generalize a.st = st at *
        generalize a.sa = sa at *
        obtain ⟨hst1, hst2⟩ := hst
        go_enter Tryd.func11, Tryd.ntmps11
        go_wp2
        go_big_quiet (first | (go_at_call 19; first | with_reducible exact (HW1.out _).mono (fun e w'' h => ⟨h.1, _, h.2.symm⟩) | with_reducible exact (HW2.out _).mono (fun e w'' h => ⟨h.1, _, h.2.symm⟩)) | (go_at_call 20; exact Calls.quiet_of (HR.out _ (inI_below HI1.out (below_drewN (Below.refl _ _) _)))) | (go_at_call 21; exact (HN.out _ (inT_below HI2.out (below_drewN (Below.refl _ _) _))).mono (fun e w'' h => ⟨h.1, _, h.2.symm⟩)))
        go_wp2
        go_ret
        exact ⟨ret_bool HF.out.symm, ⟨_, rfl⟩⟩
    · have HW2 := Lib.hid (fun w => s_l00In_r a.sa 0 (a.st - 1) false (in_f hsa) w)
      have HF := Lib.hid (auOk_sa hsa)
      clear h1 h2 hs hsa
      generalize a.st = st at *
      generalize a.sa = sa at *
      obtain ⟨hst1, hst2⟩ := hst
      go_enter Tryd.func11, Tryd.ntmps11
      go_wp2
      go_big_quiet (first | (go_at_call 19; first | with_reducible exact (HW1.out _).mono (fun e w'' h => ⟨h.1, _, h.2.symm⟩) | with_reducible exact (HW2.out _).mono (fun e w'' h => ⟨h.1, _, h.2.symm⟩)))
      go_wp2
      go_ret
      exact ⟨ret_bool HF.out.symm, ⟨_, rfl⟩⟩
  · have HW1 := Lib.hid (fun w => s_l00In_r a.st 1 24 false (in_f hst) w)
    have HF := Lib.hid (auOk_st hst)
    clear h1 h2 hs hst
    generalize a.st = st at *
    generalize a.sa = sa at *
    go_enter Tryd.func11, Tryd.ntmps11
    go_wp2
    go_big_quiet ((go_at_call 19; exact (HW1.out _).mono (fun e w'' h => ⟨h.1, _, h.2.symm⟩)))
    go_wp2
    go_ret
    exact ⟨ret_bool HF.out.symm, ⟨_, rfl⟩⟩
end Go.Proofs.YtefcdkgfabaffaaDoor

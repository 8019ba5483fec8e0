/- The text of an automaton: both functions. -/
import Derived.Test.YtefcdkgfabaffaaDoorNA
namespace Go.Proofs.YtefcdkgfabaffaaDoor
open Go.ChangeShapes Go.WideShapes Go.RowKit
set_option linter.unusedVariables false
set_option linter.unusedSimpArgs false
set_option maxHeartbeats 1000000
set_option maxRecDepth 100000
theorem wdL_pre (pre : List UInt8) (xs : List Int) : ∀ k, wdL pre xs k = pre ++ wdL [] xs k
  | 0 => by simp [wdL]
  | k + 1 => by rw [wdL, wdL, wdL_pre pre xs k, List.append_assoc]
/-- the text of the first rows -/
def atL (a : Au) : Nat → List UInt8
  | 0 => (wdL [97, 117, 116, 111] [a.st, a.sa] 2 ++ [10]) ++ (wdL [102, 105, 110, 97, 108, 115] a.fi a.fi.length ++ [10])
  | k + 1 => atL a k ++ (wdL [115, 116, 97, 116, 101] (tA a.nx k) (tA a.nx k).length ++ [10])
def auTx (a : Au) : List UInt8 := if auOk a = true then atL a a.nx.length else []
theorem nau_facts {a : Au} (h : auOk a = true) : (1 ≤ a.st ∧ a.st ≤ 24) ∧ (0 ≤ a.sa ∧ a.sa ≤ a.st - 1) ∧ riOk (a.st - 1) a.fi = true ∧ (a.nx.length : Int) = a.st ∧ ∀ s, s < a.nx.length → roP (a.st - 1) (tA a.nx s) := by
  simp only [auOk, Bool.and_eq_true, decide_eq_true_iff] at h
  obtain ⟨⟨⟨h1, h2⟩, h3⟩, h4, h5⟩ := h
  unfold nxOk at h4
  exact ⟨h1, h2, h3, h5, of_decide_eq_true h4⟩
theorem nsm_fi {a : Au} (h : auOk a = true) : smL a.fi ∧ a.fi.length ≤ 24 := by
  obtain ⟨f1, f2, f3, f4, f5⟩ := nau_facts h
  unfold riOk at f3
  have f3 := of_decide_eq_true f3
  have g : ∀ k : Nat, k < a.fi.length → (k : Int) ≤ a.fi.getD k 0 := by
    intro k
    induction k with
    | zero => intro hk; have := (f3 0 hk).1.1; omega
    | succ k ih =>
      intro hk
      have h1 := (f3 (k + 1) hk).2 (by omega)
      have h2 := ih (by omega)
      simp only [Nat.add_sub_cancel] at h1
      omega
  refine ⟨fun k hk => by have := (f3 k hk).1; omega, ?_⟩
  by_cases h0 : a.fi.length = 0
  · omega
  · have h1 := g (a.fi.length - 1) (by omega)
    have h2 := (f3 (a.fi.length - 1) (by omega)).1.2
    omega
theorem nsm_row {a : Au} (h : auOk a = true) {s : Nat} (hs : s < a.nx.length) : smL (tA a.nx s) ∧ (tA a.nx s).length = 4 := by
  obtain ⟨f1, f2, f3, f4, f5⟩ := nau_facts h
  obtain ⟨h1, h2⟩ := f5 s hs
  exact ⟨fun k hk => by have := h2 k (by omega); omega, h1⟩
theorem nsm_two {a : Au} (h : auOk a = true) : smL [a.st, a.sa] := by
  obtain ⟨f1, f2, f3, f4, f5⟩ := nau_facts h
  intro k hk
  have hk : k < 2 := hk
  match k, hk with
  | 0, _ => show 0 ≤ a.st ∧ a.st ≤ 24; omega
  | 1, _ => show 0 ≤ a.sa ∧ a.sa ≤ 24; omega
theorem atL_len {a : Au} (h : auOk a = true) : ∀ k, k ≤ a.nx.length → (atL a k).length ≤ 200 + 20 * k
  | 0, _ => by
    have h1 := wdL_len (nsm_two h) [97, 117, 116, 111] 2 (by simp)
    obtain ⟨h2, h3⟩ := nsm_fi h
    have h4 := wdL_len h2 [102, 105, 110, 97, 108, 115] a.fi.length (Nat.le_refl _)
    simp only [List.length_cons, List.length_nil] at h1 h4
    rw [atL]
    simp only [List.length_append, List.length_cons, List.length_nil]
    omega
  | k + 1, hk => by
    have h1 := atL_len h k (by omega)
    obtain ⟨h2, h3⟩ := nsm_row h (show k < a.nx.length by omega)
    have h4 := wdL_len h2 [115, 116, 97, 116, 101] (tA a.nx k).length (Nat.le_refl _)
    simp only [List.length_cons, List.length_nil] at h4
    rw [atL]
    simp only [List.length_append, List.length_cons, List.length_nil]
    omega
theorem ninT_all {w : World} {a : Option Addr} {cap : Nat} {t : Tb} (h : InT w (.slice a t.length cap) t) (h0 : 0 < t.length) :
    ∃ b off, a = some ⟨b, off, none⟩ ∧ b < w.heap.size ∧ ∀ k, k < t.length → ∃ r c, w.cell? ⟨b, off + k, none⟩ = some (.slice r (tA t k).length c) ∧ InI w (.slice r (tA t k).length c) (tA t k) := by
  obtain ⟨b, off, _, _, e, hb, _, _⟩ := inT_at h h0
  refine ⟨b, off, e, hb, fun k hk => ?_⟩
  obtain ⟨b', off', r, c, e', _, h1, h2⟩ := inT_at h hk
  rw [e] at e'
  injection e' with e'; injection e' with e1 e2
  subst e1 e2
  exact ⟨r, c, h1, h2⟩
theorem ngen_then {K : Act → World → Prop} {Q : Exit → Act → World → Prop} {a : Act} {w' : World} (P : World → Prop) (h : P w') (k : ∀ w2, P w2 → Exit.then K Q .normal a w2) : Exit.then K Q .normal a w' := k w' h
theorem nown2 (w : World) (x y : Int) : InI (w.alloc (.cells #[.int .i64 x, .int .i64 y] 2)) (.slice (some ⟨w.heap.size, 0, none⟩) 2 2) [x, y] := by
  refine inI_own (base := w.heap.size) ⟨rfl, .inr ⟨w.heap.size, 2, #[.int .i64 x, .int .i64 y], rfl, Nat.le_refl _, heap_alloc_new w _, Nat.le_refl _, by decide, rfl, rfl⟩⟩
theorem i_AutoText (u1 u2 : Value) (a : Au) (w : World) (hs : auSm a) (h1 : InI w u1 a.fi) (h2 : InT w u2 a.nx) :
    Calls Tryd.prog 7 #[.agg #[.int .i64 a.st, .int .i64 a.sa, u1, u2]] w fun e w' => e = .returned (.string ⟨(auTx a).toArray⟩) ∧ Below w.heap.size w w' := by
  obtain ⟨a1, k1, rfl⟩ := inI_sl h1
  obtain ⟨a2, k2, rfl⟩ := inT_sl h2
  have hbx := (Below.refl w.heap.size w).alloc (Nat.le_refl _) (.cells #[.int .i64 a.st, .int .i64 a.sa, .slice a1 a.fi.length k1, .slice a2 a.nx.length k2] 28)
  have HV := Lib.hid (i_ValidAuto _ _ a _ hs (inI_below h1 hbx) (inT_below h2 hbx))
  have HI1 := Lib.hid (inI_below h1 hbx)
  have HI2 := Lib.hid (inT_below h2 hbx)
  clear h1 h2 hbx
  cases hao : auOk a
  · have e1 : auTx a = [] := by rw [auTx, hao]; simp
    rw [hao] at HV
    rw [e1]
    clear e1 hao HI1 HI2 hs
    go_enter Tryd.func7, Tryd.ntmps7
    go_wp2_with fail
    refine (HV.out).mono ?_
    rintro e w2 ⟨rfl, hb2⟩
    have BF := below_box hb2
    clear hb2
    go_wp2
    go_ret
    exact ⟨rfl, BF⟩
  · have e1 : auTx a = atL a a.nx.length := by rw [auTx, hao]; simp
    rw [hao] at HV
    have HE1 := Lib.hid e1
    obtain ⟨hf1, hf2⟩ := nsm_fi hao
    have HW1 := Lib.hid (fun (bb : Nat) (w : World) i => i_words [97, 117, 116, 111] (.slice (some ⟨bb, 0, none⟩) 2 2) [a.st, a.sa] w (by decide) (by simp) (nsm_two hao) i)
    have HW2 := Lib.hid (fun w i => i_words [102, 105, 110, 97, 108, 115] (.slice a1 a.fi.length k1) a.fi w (by decide) (by omega) hf1 i)
    have HW3 := Lib.hid (fun s (hs : s < a.nx.length) v w i => i_words [115, 116, 97, 116, 101] v (tA a.nx s) w (by decide) (by have := (nsm_row hao hs).2; omega) (nsm_row hao hs).1 i)
    have HROW := Lib.hid (fun s (hs : s < a.nx.length) => (nsm_row hao hs).2)
    have hl1 := wdL_len (nsm_two hao) [97, 117, 116, 111] 2 (by simp)
    have hl2 := wdL_len hf1 [102, 105, 110, 97, 108, 115] a.fi.length (Nat.le_refl _)
    have hcat := cat_l (wdL [97, 117, 116, 111] [a.st, a.sa] 2 ++ [10]) (wdL [102, 105, 110, 97, 108, 115] a.fi a.fi.length ++ [10]) (atL a 0) rfl (by simp only [List.length_append, List.length_cons, List.length_nil] at *; omega)
    have HLEN := Lib.hid (fun k hk => atL_len hao k hk)
    have HST : Hid (∀ k, atL a (k + 1) = atL a k ++ (wdL [115, 116, 97, 116, 101] (tA a.nx k) (tA a.nx k).length ++ [10])) := fun k => rfl
    have HRL := Lib.hid (fun k (hk : k < a.nx.length) => (by have h2 := nsm_row hao hk; have h4 := wdL_len h2.1 [115, 116, 97, 116, 101] (tA a.nx k).length (Nat.le_refl _); simp only [List.length_append, List.length_cons, List.length_nil] at *; omega : (wdL [115, 116, 97, 116, 101] (tA a.nx k) (tA a.nx k).length ++ [10]).length ≤ 30))
    have hn24 : a.nx.length ≤ 24 := by obtain ⟨f1, f2, f3, f4, f5⟩ := nau_facts hao; omega
    clear hl1 hl2 hf1 e1 hao hs
    rw [show ([a.st, a.sa] : List Int).length = 2 from rfl] at HW1
    generalize hA1 : wdL [97, 117, 116, 111] [a.st, a.sa] 2 ++ [10] = L1 at *
    generalize hA2 : wdL [102, 105, 110, 97, 108, 115] a.fi a.fi.length ++ [10] = L2 at *
    clear hA1 hA2
    generalize hA0 : atL a 0 = A0 at *
    have HA0 := Lib.hid hA0
    clear hA0
    go_enter Tryd.func7, Tryd.ntmps7
    go_wp2_with fail
    refine (HV.out).mono ?_
    rintro e w2 ⟨rfl, hb2⟩
    have c0 : w2.cell? ⟨w.heap.size, 0, none⟩ = some (.int .i64 a.st) := by rw [hb2.cell (by simp)]; simp [go_sem]
    have c1 : w2.cell? ⟨w.heap.size, 1, none⟩ = some (.int .i64 a.sa) := by rw [hb2.cell (by simp)]; simp [go_sem]
    have c2 : w2.cell? ⟨w.heap.size, 2, none⟩ = some (.slice a1 a.fi.length k1) := by rw [hb2.cell (by simp)]; simp [go_sem]
    have c3 : w2.cell? ⟨w.heap.size, 3, none⟩ = some (.slice a2 a.nx.length k2) := by rw [hb2.cell (by simp)]; simp [go_sem]
    have HB2 := Lib.hid (below_box hb2)
    have HJ1 := Lib.hid (inI_below HI1.out hb2)
    have HJ2 := Lib.hid (inT_below HI2.out hb2)
    have HSS : Hid (∀ w', Below w2.heap.size w2 w' → Below w2.heap.size w2 w' ∧ w'.cell? ⟨w.heap.size, 0, none⟩ = some (.int .i64 a.st) ∧ w'.cell? ⟨w.heap.size, 1, none⟩ = some (.int .i64 a.sa) ∧ w'.cell? ⟨w.heap.size, 2, none⟩ = some (.slice a1 a.fi.length k1) ∧ w'.cell? ⟨w.heap.size, 3, none⟩ = some (.slice a2 a.nx.length k2)) := fun w' h => ⟨h, cell_later h c0, cell_later h c1, cell_later h c2, cell_later h c3⟩
    clear hb2 HI1 HI2 HV
    go_wp2
    go_region_held3 (fun w' => Below w2.heap.size w2 w' ∧ w'.cell? ⟨w.heap.size, 0, none⟩ = some (.int .i64 a.st) ∧ w'.cell? ⟨w.heap.size, 1, none⟩ = some (.int .i64 a.sa) ∧ w'.cell? ⟨w.heap.size, 2, none⟩ = some (.slice a1 a.fi.length k1) ∧ w'.cell? ⟨w.heap.size, 3, none⟩ = some (.slice a2 a.nx.length k2)) (exact HSS.out _ (by (repeat (first | with_reducible exact Below.refl _ _ | with_reducible apply Below.drew | with_reducible apply nb_alloc)); done)) (first | (go_at_call 16; with_reducible refine (HW2.out _ (inI_below HJ1.out (by (repeat (first | with_reducible exact Below.refl _ _ | with_reducible apply Below.drew | with_reducible apply nb_alloc)); done))).mono ?_; rintro e wX ⟨rfl, rfl⟩) | (go_at_call 16; refine (HW1.out _ _ (nown2 _ _ _)).mono ?_; rintro e wX ⟨rfl, rfl⟩) | (go_at_call 16; refine (HW1.out _ _ (inI_below (nown2 w2 _ _) (Below.refl _ _).drew)).mono ?_; rintro e wX ⟨rfl, rfl⟩))
    refine ngen_then (fun w3 => Below w2.heap.size w2 w3) (nb_alloc (Below.refl _ _)).drew ?_
    intro w3 hb3
    obtain ⟨-, d0, d1, d2, d3⟩ := HSS.out w3 hb3
    have HB3 := Lib.hid (HB2.out.trans (hb3.mono HB2.out.size))
    have HK2 := Lib.hid (inT_below HJ2.out hb3)
    clear hb3 HSS c0 c1 c2 c3 d0 d1 d2 HJ1 HJ2 HW1 HW2
    go_wp2
    go_loop [3, 5, 22] (fun t _ i => ∃ k : Nat, k ≤ a.nx.length ∧ i = .int .i64 k ∧ t = .string ⟨(atL a k).toArray⟩) (fun _ _ i => a.nx.length - (intOf i).toNat)
    case atStart => exact ⟨0, by omega, rfl, by rw [HA0.out]⟩
    case round =>
      obtain ⟨k, hk, rfl, rfl⟩ := hrel
      by_cases hlt : k < a.nx.length
      · have hin : (k : Int) < a.nx.length := by omega
        obtain ⟨bt, ot, rfl, hbt, hall⟩ := ninT_all HK2.out (by omega)
        obtain ⟨rp, cp, hcp, hip⟩ := hall k hlt
        have HD := Lib.hid (HW3.out k hlt _ w3 hip)
        have hl1 := HLEN.out k hk
        have hl2 := HRL.out k hlt
        have hc2 := cat_l (atL a k) _ (atL a (k + 1)) (HST.out k) (by omega)
        clear hl1 hl2 hall hip d3
        generalize wdL [115, 116, 97, 116, 101] (tA a.nx k) (tA a.nx k).length ++ [10] = d at *
        generalize atL a k = u at *
        go_wp2_with fail
        refine (HD.out).mono ?_
        rintro e w4 ⟨rfl, rfl⟩
        go_wp2
        go_round
        case rel => exact ⟨k + 1, by omega, by go_num, rfl⟩
        case measure => first | (simp [intOf]; done) | (simp [intOf]; omega)
      · have e : k = a.nx.length := by omega
        subst e
        have hnl : ¬ ((a.nx.length : Int) < a.nx.length) := by omega
        go_wp2
        go_ret
        exact ⟨by rw [HE1.out]; rfl, HB3.out⟩
theorem s_Dec (n : Int) (w : World) (h : 0 ≤ n ∧ n ≤ 24) : Calls Tryd.prog 22 #[.int .i64 n] w fun e w' => e = .returned (.string ⟨(dcL n).toArray⟩) ∧ Below w.heap.size w w' := by
  obtain ⟨m, rfl⟩ := Int.eq_ofNat_of_zero_le h.1
  have := s_Decimal (m + 1) m w (by omega) (by omega)
  rw [dcL, Int.toNat_natCast]
  exact this
theorem s_l04List (v : Value) (xs : List Int) (w : World) (hx : xs.length ≤ 1000) (hs : smL xs) (hin : InI w v xs) :
    Calls Tryd.prog 23 #[v] w fun e w' => e = .returned (.string ⟨(wdL [] xs xs.length).toArray⟩) ∧ Below w.heap.size w w' := by
  obtain ⟨a, cap, rfl⟩ := inI_sl hin
  have HIN := Lib.hid hin
  have HS := Lib.hid hs
  have HL := Lib.hid (fun k hk => wdL_len hs [] k hk)
  have HST : Hid (∀ k, wdL [] xs (k + 1) = wdL [] xs k ++ (32 :: dcL (xs.getD k 0))) := fun k => rfl
  clear hin hs
  go_enter Tryd.func23, Tryd.ntmps23
  go_wp2
  go_loopw [3, 4] (fun t i wr => Below w.heap.size w wr ∧ ∃ k : Nat, k ≤ xs.length ∧ i = .int .i64 k ∧ t = .string ⟨(wdL [] xs k).toArray⟩) (fun _ i _ => xs.length - (intOf i).toNat)
  case atStart => exact ⟨Below.refl _ _, 0, by omega, rfl, rfl⟩
  case round =>
    obtain ⟨hb, k, hk, rfl, rfl⟩ := hrel
    have HB := Lib.hid hb
    by_cases hlt : k < xs.length
    · have hin : (k : Int) < xs.length := by omega
      obtain ⟨g, f, hgx, hg, hv⟩ := inI_at (inI_below HIN.out hb) hlt
      subst hgx
      have hbd := HS.out k hlt
      have HD := Lib.hid (fun w => s_Dec (xs.getD k 0) w hbd)
      have hl1 := HL.out k hk
      have hl2 := dcL_len hbd
      have hc1 := cat_l [32] (dcL (xs.getD k 0)) (32 :: dcL (xs.getD k 0)) rfl (by have h9 : ([32] : List UInt8).length = 1 := rfl; omega)
      have hc2 := cat_l (wdL [] xs k) (32 :: dcL (xs.getD k 0)) (wdL [] xs (k + 1)) (HST.out k) (by rw [List.length_cons]; have h9 : ([] : List UInt8).length = 0 := rfl; omega)
      clear hl1 hl2 hbd hb
      generalize dcL (xs.getD k 0) = d at *
      generalize 32 :: d = d2 at *
      generalize wdL [] xs k = u at *
      generalize xs.getD k 0 = x at *
      go_wp2_with fail
      refine (HD.out _).mono ?_
      rintro e w2 ⟨rfl, hb2⟩
      have HB2 := Lib.hid (HB.out.trans (hb2.mono HB.out.size))
      clear hb2
      go_wp2
      go_roundw
      case rel => exact ⟨HB2.out, k + 1, by omega, by go_num, rfl⟩
      case measure => first | (simp [intOf]; done) | (simp [intOf]; omega)
    · have e : k = xs.length := by omega
      subst e
      have hnl : ¬ ((xs.length : Int) < xs.length) := by omega
      clear hb
      go_wp2
      go_ret
      exact ⟨rfl, HB.out⟩
theorem s_l04Text (bq : Nat) (u1 u2 : Value) (a : Au) (w : World) (ha : auOk a = true) (c0 : w.cell? ⟨bq, 0, none⟩ = some (.int .i64 a.st)) (c1 : w.cell? ⟨bq, 1, none⟩ = some (.int .i64 a.sa)) (c2 : w.cell? ⟨bq, 2, none⟩ = some u1) (c3 : w.cell? ⟨bq, 3, none⟩ = some u2) (h1 : InI w u1 a.fi) (h2 : InT w u2 a.nx) :
    Calls Tryd.prog 12 #[.pointer (some ⟨bq, 0, none⟩)] w fun e w' => e = .returned (.string ⟨(atL a a.nx.length).toArray⟩) ∧ Below w.heap.size w w' := by
  obtain ⟨a1, k1, rfl⟩ := inI_sl h1
  obtain ⟨a2, k2, rfl⟩ := inT_sl h2
  have HI1 := Lib.hid h1
  have HI2 := Lib.hid h2
  obtain ⟨hf1, hf2⟩ := nsm_fi ha
  obtain ⟨f1, f2, f3, f4, f5⟩ := nau_facts ha
  have HD1 := Lib.hid (fun w => s_Dec a.st w (by omega))
  have HD2 := Lib.hid (fun w => s_Dec a.sa w (by omega))
  have HL1 := Lib.hid (fun w i => s_l04List (.slice a1 a.fi.length k1) a.fi w (by omega) hf1 i)
  have HL3 := Lib.hid (fun s (hs : s < a.nx.length) v w i => s_l04List v (tA a.nx s) w (by have := (nsm_row ha hs).2; omega) (nsm_row ha hs).1 i)
  have hd1 := dcL_len (show 0 ≤ a.st ∧ a.st ≤ 24 by omega)
  have hd2 := dcL_len (show 0 ≤ a.sa ∧ a.sa ≤ 24 by omega)
  have hd3 := wdL_len hf1 [] a.fi.length (Nat.le_refl _)
  have e0 : atL a 0 = ((((([97, 117, 116, 111, 32] ++ dcL a.st) ++ [32]) ++ dcL a.sa) ++ [10, 102, 105, 110, 97, 108, 115]) ++ wdL [] a.fi a.fi.length) ++ [10] := by
    have h : wdL [97, 117, 116, 111] [a.st, a.sa] 2 = ([97, 117, 116, 111] ++ (32 :: dcL a.st)) ++ (32 :: dcL a.sa) := rfl
    rw [atL, h, wdL_pre [102, 105, 110, 97, 108, 115] a.fi]
    simp
  have HLEN := Lib.hid (fun k hk => atL_len ha k hk)
  have HST : Hid (∀ k, k < a.nx.length → atL a (k + 1) = atL a k ++ (([115, 116, 97, 116, 101] ++ wdL [] (tA a.nx k) (tA a.nx k).length) ++ [10])) := fun k _ => by rw [atL, wdL_pre [115, 116, 97, 116, 101]]
  have HRL := Lib.hid (fun k (hk : k < a.nx.length) => (by have h2 := nsm_row ha hk; have h4 := wdL_len h2.1 [] (tA a.nx k).length (Nat.le_refl _); simp only [List.length_nil] at h4; omega : (wdL [] (tA a.nx k) (tA a.nx k).length).length ≤ 12))
  have hn24 : a.nx.length ≤ 24 := by omega
  have h9 : ([] : List UInt8).length = 0 := rfl
  have hq1 := cat_l [97, 117, 116, 111, 32] (dcL a.st) ([97, 117, 116, 111, 32] ++ dcL a.st) rfl (by simp only [List.length_cons, List.length_nil]; omega)
  have hq2 := cat_l ([97, 117, 116, 111, 32] ++ dcL a.st) [32] (([97, 117, 116, 111, 32] ++ dcL a.st) ++ [32]) rfl (by simp only [List.length_append, List.length_cons, List.length_nil]; omega)
  have hq3 := cat_l (([97, 117, 116, 111, 32] ++ dcL a.st) ++ [32]) (dcL a.sa) ((([97, 117, 116, 111, 32] ++ dcL a.st) ++ [32]) ++ dcL a.sa) rfl (by simp only [List.length_append, List.length_cons, List.length_nil]; omega)
  have hq4 := cat_l ((([97, 117, 116, 111, 32] ++ dcL a.st) ++ [32]) ++ dcL a.sa) [10, 102, 105, 110, 97, 108, 115] (((([97, 117, 116, 111, 32] ++ dcL a.st) ++ [32]) ++ dcL a.sa) ++ [10, 102, 105, 110, 97, 108, 115]) rfl (by simp only [List.length_append, List.length_cons, List.length_nil]; omega)
  have hq5 := cat_l (((([97, 117, 116, 111, 32] ++ dcL a.st) ++ [32]) ++ dcL a.sa) ++ [10, 102, 105, 110, 97, 108, 115]) (wdL [] a.fi a.fi.length) ((((([97, 117, 116, 111, 32] ++ dcL a.st) ++ [32]) ++ dcL a.sa) ++ [10, 102, 105, 110, 97, 108, 115]) ++ wdL [] a.fi a.fi.length) rfl (by simp only [List.length_append, List.length_cons, List.length_nil]; omega)
  have hq6 := cat_l ((((([97, 117, 116, 111, 32] ++ dcL a.st) ++ [32]) ++ dcL a.sa) ++ [10, 102, 105, 110, 97, 108, 115]) ++ wdL [] a.fi a.fi.length) [10] (atL a 0) e0 (by simp only [List.length_append, List.length_cons, List.length_nil]; omega)
  clear e0 hd1 hd2 hd3 h1 h2 hf1 f1 f2 f3 f4 f5 ha
  generalize (((([97, 117, 116, 111, 32] ++ dcL a.st) ++ [32]) ++ dcL a.sa) ++ [10, 102, 105, 110, 97, 108, 115]) ++ wdL [] a.fi a.fi.length = M5 at *
  generalize ((([97, 117, 116, 111, 32] ++ dcL a.st) ++ [32]) ++ dcL a.sa) ++ [10, 102, 105, 110, 97, 108, 115] = M4 at *
  generalize (([97, 117, 116, 111, 32] ++ dcL a.st) ++ [32]) ++ dcL a.sa = M3 at *
  generalize ([97, 117, 116, 111, 32] ++ dcL a.st) ++ [32] = M2 at *
  generalize [97, 117, 116, 111, 32] ++ dcL a.st = M1 at *
  generalize dcL a.st = D1 at *
  generalize dcL a.sa = D2 at *
  generalize wdL [] a.fi a.fi.length = D3 at *
  generalize hA0 : atL a 0 = A0 at *
  have HA0 := Lib.hid hA0
  clear hA0 h9
  have HSS : Hid (∀ w', Below w.heap.size w w' → Below w.heap.size w w' ∧ w'.cell? ⟨bq, 0, none⟩ = some (.int .i64 a.st) ∧ w'.cell? ⟨bq, 1, none⟩ = some (.int .i64 a.sa) ∧ w'.cell? ⟨bq, 2, none⟩ = some (.slice a1 a.fi.length k1) ∧ w'.cell? ⟨bq, 3, none⟩ = some (.slice a2 a.nx.length k2)) := fun w' h => ⟨h, cell_later h c0, cell_later h c1, cell_later h c2, cell_later h c3⟩
  go_enter Tryd.func12, Tryd.ntmps12
  go_wp2
  go_region_held3 (fun w' => Below w.heap.size w w' ∧ w'.cell? ⟨bq, 0, none⟩ = some (.int .i64 a.st) ∧ w'.cell? ⟨bq, 1, none⟩ = some (.int .i64 a.sa) ∧ w'.cell? ⟨bq, 2, none⟩ = some (.slice a1 a.fi.length k1) ∧ w'.cell? ⟨bq, 3, none⟩ = some (.slice a2 a.nx.length k2)) (exact HSS.out _ (by (repeat (first | with_reducible exact Below.refl _ _ | with_reducible apply Below.drew | (with_reducible refine nb_tr ?_ hT1) | (with_reducible refine nb_tr ?_ hT2) | (with_reducible refine nb_tr ?_ hT3))); done)) (first | (go_at_call 22; with_reducible refine (HD1.out _).mono ?_; rintro e wA ⟨rfl, hT1⟩) | (go_at_call 22; with_reducible refine (HD2.out _).mono ?_; rintro e wB ⟨rfl, hT2⟩) | (go_at_call 23; with_reducible refine (HL1.out _ (inI_below HI1.out (by (repeat (first | with_reducible exact Below.refl _ _ | with_reducible apply Below.drew | (with_reducible refine nb_tr ?_ hT1) | (with_reducible refine nb_tr ?_ hT2))); done))).mono ?_; rintro e wC ⟨rfl, hT3⟩))
  all_goals (refine ngen_then (fun w3 => Below w.heap.size w w3) (by (repeat (first | with_reducible exact Below.refl _ _ | with_reducible apply Below.drew | (with_reducible refine nb_tr ?_ hT1) | (with_reducible refine nb_tr ?_ hT2) | (with_reducible refine nb_tr ?_ hT3))); done) ?_)
  all_goals
    intro w3 hb3
    obtain ⟨-, d0, d1, d2, d3⟩ := HSS.out w3 hb3
    have HB3 := Lib.hid hb3
    have HK2 := Lib.hid (inT_below HI2.out hb3)
    clear hb3 HSS hT1 hT2 hT3 d0 d1 d2 c0 c1 c2 c3
    go_wp2
    go_loopw [3, 4] (fun t i wr => Below w3.heap.size w3 wr ∧ ∃ k : Nat, k ≤ a.nx.length ∧ i = .int .i64 k ∧ t = .string ⟨(atL a k).toArray⟩) (fun _ i _ => a.nx.length - (intOf i).toNat)
    case atStart => exact ⟨Below.refl _ _, 0, by omega, rfl, by rw [HA0.out]⟩
    case round =>
      obtain ⟨hb, k, hk, rfl, rfl⟩ := hrel
      have HB := Lib.hid hb
      have d4 := cell_later hb d3
      by_cases hlt : k < a.nx.length
      · have hin : (k : Int) < a.nx.length := by omega
        obtain ⟨bt, ot, hbt0, hbt, hall⟩ := ninT_all (inT_below HK2.out hb) (by omega)
        subst hbt0
        obtain ⟨rp, cp, hcp, hip⟩ := hall k hlt
        have HD := Lib.hid (HL3.out k hlt _ wr hip)
        have hl1 := HLEN.out k hk
        have hl2 := HRL.out k hlt
        have hc1 := cat_l [115, 116, 97, 116, 101] (wdL [] (tA a.nx k) (tA a.nx k).length) _ rfl (by simp only [List.length_cons, List.length_nil]; omega)
        have hc2 := cat_l ([115, 116, 97, 116, 101] ++ wdL [] (tA a.nx k) (tA a.nx k).length) [10] _ rfl (by simp only [List.length_append, List.length_cons, List.length_nil]; omega)
        have hc3 := cat_l (atL a k) _ (atL a (k + 1)) (HST.out k hlt) (by simp only [List.length_append, List.length_cons, List.length_nil]; omega)
        clear hl1 hl2 hall hip hb
        generalize ([115, 116, 97, 116, 101] ++ wdL [] (tA a.nx k) (tA a.nx k).length) ++ [10] = d at *
        generalize [115, 116, 97, 116, 101] ++ wdL [] (tA a.nx k) (tA a.nx k).length = d5 at *
        generalize wdL [] (tA a.nx k) (tA a.nx k).length = d6 at *
        generalize atL a k = u at *
        go_wp2_with fail
        refine (HD.out).mono ?_
        rintro e w4 ⟨rfl, hb4⟩
        have HB4 := Lib.hid (HB.out.trans (hb4.mono HB.out.size))
        clear hb4
        go_wp2
        go_roundw
        case rel => exact ⟨HB4.out, k + 1, by omega, by go_num, rfl⟩
        case measure => first | (simp [intOf]; done) | (simp [intOf]; omega)
      · have e : k = a.nx.length := by omega
        subst e
        have hnl : ¬ ((a.nx.length : Int) < a.nx.length) := by omega
        have hbf := HB3.out.trans (hb.mono HB3.out.size)
        clear hb
        go_wp2
        go_ret
        exact ⟨rfl, hbf⟩
theorem s_AutoText (u1 u2 : Value) (a : Au) (w : World) (hs : auSm a) (h1 : InI w u1 a.fi) (h2 : InT w u2 a.nx) :
    Calls Tryd.prog 5 #[.agg #[.int .i64 a.st, .int .i64 a.sa, u1, u2]] w fun e w' => e = .returned (.string ⟨(auTx a).toArray⟩) ∧ Below w.heap.size w w' := by
  obtain ⟨a1, k1, rfl⟩ := inI_sl h1
  obtain ⟨a2, k2, rfl⟩ := inT_sl h2
  have hbx := (Below.refl w.heap.size w).alloc (Nat.le_refl _) (.cells #[.int .i64 a.st, .int .i64 a.sa, .slice a1 a.fi.length k1, .slice a2 a.nx.length k2] 28)
  have HI1 := Lib.hid (inI_below h1 hbx)
  have HI2 := Lib.hid (inT_below h2 hbx)
  have HV := Lib.hid (s_l04Ok w.heap.size 0 _ _ a _ hs (by simp [go_sem]) (by simp [go_sem]) (by simp [go_sem]) (by simp [go_sem]) HI1.out HI2.out)
  have HBX : Hid (∀ w', Below (w.alloc (.cells #[.int .i64 a.st, .int .i64 a.sa, .slice a1 a.fi.length k1, .slice a2 a.nx.length k2] 28)).heap.size (w.alloc (.cells #[.int .i64 a.st, .int .i64 a.sa, .slice a1 a.fi.length k1, .slice a2 a.nx.length k2] 28)) w' → Below w.heap.size w w') := fun w' h => below_box h
  have hqb := fun q => below_drewN (Below.refl (w.alloc (.cells #[.int .i64 a.st, .int .i64 a.sa, .slice a1 a.fi.length k1, .slice a2 a.nx.length k2] 28)).heap.size (w.alloc (.cells #[.int .i64 a.st, .int .i64 a.sa, .slice a1 a.fi.length k1, .slice a2 a.nx.length k2] 28))) q
  have HQB := Lib.hid hqb
  clear h1 h2 hbx hqb hs
  cases hao : auOk a
  · have e1 : auTx a = [] := by rw [auTx, hao]; simp
    rw [hao] at HV
    rw [e1]
    clear e1 hao HI1 HI2
    go_enter Tryd.func5, Tryd.ntmps5
    go_wp2_with fail
    refine (HV.out).mono ?_
    rintro e w2 ⟨rfl, q2, rfl⟩
    have BF := HBX.out _ (HQB.out q2)
    go_wp2
    go_ret
    exact ⟨rfl, BF⟩
  · have e1 : auTx a = atL a a.nx.length := by rw [auTx, hao]; simp
    rw [hao] at HV
    have HT := Lib.hid (fun w1 c0 c1 c2 c3 i1 i2 => s_l04Text w.heap.size (.slice a1 a.fi.length k1) (.slice a2 a.nx.length k2) a w1 hao c0 c1 c2 c3 i1 i2)
    rw [e1]
    clear e1 hao
    go_enter Tryd.func5, Tryd.ntmps5
    go_wp2_with fail
    refine (HV.out).mono ?_
    rintro e w2 ⟨rfl, q2, rfl⟩
    have hq := HQB.out q2
    have c0 := cell_later hq (show _ = some (.int .i64 a.st) from by (show (World.cell? _ ⟨w.heap.size, 0, none⟩) = _; simp [go_sem]))
    have c1 := cell_later hq (show _ = some (.int .i64 a.sa) from by (show (World.cell? _ ⟨w.heap.size, 1, none⟩) = _; simp [go_sem]))
    have c2 := cell_later hq (show _ = some (.slice a1 a.fi.length k1) from by (show (World.cell? _ ⟨w.heap.size, 2, none⟩) = _; simp [go_sem]))
    have c3 := cell_later hq (show _ = some (.slice a2 a.nx.length k2) from by (show (World.cell? _ ⟨w.heap.size, 3, none⟩) = _; simp [go_sem]))
    have HT2 := Lib.hid (HT.out _ c0 c1 c2 c3 (inI_below HI1.out hq) (inT_below HI2.out hq))
    have HB2 := Lib.hid hq
    clear hq c0 c1 c2 c3 HT
    go_wp2_with fail
    refine (HT2.out).mono ?_
    rintro e w3 ⟨rfl, hb3⟩
    have BF := HBX.out _ (HB2.out.trans (hb3.mono HB2.out.size))
    clear hb3
    go_wp2
    go_ret
    exact ⟨rfl, BF⟩
end Go.Proofs.YtefcdkgfabaffaaDoor

/- FnUses: the walk. -/
import Derived.Test.YtimfbnjgodbgoaaUG
import Derived.Test.YtimfbnjgodbgoaaP3
namespace Go.Proofs.Ytimfbnjgodbgoaa
open Go.ChangeShapes Go.WideShapes Go.RowKit
set_option linter.unusedVariables false
set_option linter.unusedSimpArgs false
set_option maxHeartbeats 2000000
set_option maxRecDepth 100000
theorem owns_64 {w : World} {base n : Nat} {v : Value} {xs : List Int} (h : w.ownsRow base 2 1 v n (xs.map (Value.int .i64))) (h0 : n ≠ 0) : ∃ g cap, v = .slice (some ⟨g, 0, none⟩) n cap := by
  obtain ⟨a, cap, rfl, hs, -⟩ := owns_sl3 h
  obtain ⟨g, rfl⟩ := hs h0
  exact ⟨g, cap, rfl⟩
/-- the counts' sum, wrapped -/
def sum4 (c : List Int) : Nat → Int
  | 0 => 0
  | k + 1 => wrap64 (sum4 c k + c.getD k 0)
theorem sum4_eq (c : List Int) : EqW (sum4 c 4) (s4 c) := by
  have h1 := wrap_eqW (0 + c.getD 0 0)
  have h2 := (wrap_eqW (wrap64 (0 + c.getD 0 0) + c.getD 1 0)).trans (h1.add (EqW.refl (c.getD 1 0)))
  have h3 := (wrap_eqW (wrap64 (wrap64 (0 + c.getD 0 0) + c.getD 1 0) + c.getD 2 0)).trans (h2.add (EqW.refl (c.getD 2 0)))
  have h4 := (wrap_eqW (wrap64 (wrap64 (wrap64 (0 + c.getD 0 0) + c.getD 1 0) + c.getD 2 0) + c.getD 3 0)).trans (h3.add (EqW.refl (c.getD 3 0)))
  have e : sum4 c 4 = wrap64 (wrap64 (wrap64 (wrap64 (0 + c.getD 0 0) + c.getD 1 0) + c.getD 2 0) + c.getD 3 0) := rfl
  rw [e]
  unfold s4
  rw [Int.zero_add] at *
  exact h4
theorem sum4_last {L : List Ru} (hok : gOk L = true) (hne : L ≠ []) : sum4 (gLc L) 4 = lastI (gLn L) := by
  have h1 := sum4_eq (gLc L)
  rw [gLc_ok hok] at h1 ⊢
  have h2 := (h1.trans (lc_sum hok (gU L) L.length (Nat.le_refl _))).trans (Lw_all hok hne)
  obtain ⟨-, -, hlen, hr⟩ := gOk_some hok
  have hp : 0 < L.length := List.length_pos_iff.2 hne
  have hm : lastI (gLn L) ∈ gLn L := by
    rw [lastI_getD _ (by intro e; rw [e] at hlen; simp at hlen; omega), List.getD, List.getElem?_eq_getElem (by omega)]; exact List.getElem_mem _
  obtain ⟨m1, m2⟩ := hr _ hm
  have e : sum4 (lcT L (gU L) L.length) 4 = wrap64 (sum4 (lcT L (gU L) L.length) 3 + (lcT L (gU L) L.length).getD 3 0) := rfl
  rw [e] at h2 ⊢
  exact eqW_small h2 (by omega) m2
/-- the loop that counts uses anew -/
def DuR (w6 : World) (L : List Ru) (k : Nat) (le : Int) (wr : World) : Prop := (∃ q, le = wrap64 q) ∧ EqW (le + Lw L (gU L) k) (Lw L (gU L) L.length) ∧ ∃ out : List Int, out.length = L.length ∧ usD L k out = gU L ∧ wr.ownsRow w6.heap.size 2 1 (.slice (some ⟨w6.heap.size, 0, none⟩) L.length L.length) L.length (out.map (Value.int .i64)) ∧ Below w6.heap.size w6 wr ∧ w6.heap.size < wr.heap.size
theorem DuR.let {w6 wr w2 : World} {L : List Ru} {j : Nat} {le : Int} (h : DuR w6 L (j + 1) le wr) (hz : (ruA L j).1.size ≠ 0) (hb : Below wr.heap.size wr w2) : DuR w6 L j (wrap64 (le + (gU L).getD j 0)) w2 := by
  obtain ⟨-, h2, out, h3, h4, h5, h6, h7⟩ := h
  have hbz := hb.size
  refine ⟨⟨_, rfl⟩, ?_, out, h3, ?_, owns_after h5 hb, h6.trans (hb.mono h6.size), by omega⟩
  · rw [Lw, if_neg hz] at h2
    obtain ⟨c, hc⟩ := wrap_eqW (le + (gU L).getD j 0)
    exact EqW.trans ⟨c, by omega⟩ h2
  · rw [usD, usS_let hz] at h4; exact h4
theorem DuR.pair {w6 w2 : World} {L : List Ru} {j p q : Nat} {le : Int} {out o1 : List Int} (hok : gOk L = true) (hj : j < L.length) (hl : ∃ q, le = wrap64 q) (he : EqW (le + Lw L (gU L) (j + 1)) (Lw L (gU L) L.length)) (hol : out.length = L.length) (hus : usD L (j + 1) out = gU L)
    (hz : (ruA L j).1.size = 0) (hp : (ruA L j).2.1 = p) (hq : (ruA L j).2.2 = q) (h1 : o1 = out.set p (wrap64 (out.getD p 0 + (gU L).getD j 0)))
    (ho : w2.ownsRow w6.heap.size 2 1 (.slice (some ⟨w6.heap.size, 0, none⟩) L.length L.length) L.length ((o1.set q (wrap64 (o1.getD q 0 + (gU L).getD j 0))).map (Value.int .i64))) (hb : Below w6.heap.size w6 w2) (hs : w6.heap.size < w2.heap.size) : DuR w6 L j le w2 := by
  have hru := (gOk_rule hok hj).1 hz
  have hu : (gU L).getD j 0 = out.getD j 0 := by rw [← hus]; exact usD_above hok (j + 1) out j (by omega) (by omega)
  have hpj : p ≠ j := by omega
  have ho1 : o1.getD j 0 = out.getD j 0 := by rw [h1]; exact getD_set_other _ hpj
  refine ⟨hl, ?_, _, ?_, ?_, ho, hb, hs⟩
  · rw [Lw, if_pos hz] at he; exact he
  · rw [h1]; simpa using hol
  · rw [hu] at h1
    have e := usS_pair hz hp hq h1
    rw [usD, e, ho1, ← hu] at hus
    exact hus
theorem DuR.below {w6 wr w2 : World} {L : List Ru} {k : Nat} {le : Int} (h : DuR w6 L k le wr) (hb : Below wr.heap.size wr w2) : DuR w6 L k le w2 := by
  obtain ⟨h1, h2, out, h3, h4, h5, h6, h7⟩ := h
  have hbz := hb.size
  exact ⟨h1, h2, out, h3, h4, owns_after h5 hb, h6.trans (hb.mono h6.size), by omega⟩
theorem DuR.start {w6 w7 : World} {L : List Ru} (h0 : L.length ≠ 0) {n : Nat} (hn : (L.length : Int) - 1 = n) (ho : w7.ownsRow w6.heap.size 2 1 (.slice (some ⟨w6.heap.size, 0, none⟩) L.length L.length) L.length ((List.replicate L.length (0 : Int)).map (Value.int .i64))) (hb : Below w6.heap.size w6 w7) (hz : w6.heap.size < w7.heap.size) : DuR w6 L L.length 0 (w7.setCell ⟨w6.heap.size, n, none⟩ (.int .i64 1)) := by
  obtain rfl : n = L.length - 1 := by omega
  exact ⟨⟨0, by unfold wrap64; omega⟩, by rw [Int.zero_add]; exact EqW.refl _, usZ L.length, by simp [usZ], rfl, own_set ho _ _, hb.setCell (Nat.le_refl _) _, by simpa using hz⟩
theorem DuR.stop {w6 wr : World} {L : List Ru} {le m : Int} (h : DuR w6 L 0 le wr) (hm : EqW (Lw L (gU L) L.length) m) (hb : 1 ≤ m ∧ m ≤ 1000000000000000) : le = m := by
  obtain ⟨⟨q, rfl⟩, h2, -⟩ := h
  have h3 := h2.trans hm
  rw [Lw, Int.add_zero] at h3
  exact eqW_small h3 (by omega) hb.2
theorem walk_FnUses (v : Value) (l : List UInt8) (v2 : Value) (l2 : List UInt8) (w : World) (h0 : InRow w v l.length 1 (u8s l)) (h0b : l.length ≤ 9223372036854775807) (h0c : True) (h1 : InRow w v2 l2.length 1 (u8s l2)) (h1b : l2.length ≤ 9223372036854775807) (h1c : True) :
    Calls Try.prog 3 #[v, v2] w fun e w' => e = .returned (.bool true) ∧ Below w.heap.size w w' := by
  have H0 := Lib.hid h0
  have H1 := Lib.hid h1
  clear h0 h1
  by_cases hlong : 3000 < l.length ∨ 3000 < l2.length
  · have HL : Hid ((decide (3000 < l.length) || decide (3000 < l2.length)) = true) := by show _ = _; simpa using hlong
    clear hlong
    go_enter Try.func3, Try.ntmps3
    go_wp2_with fail
    refine (l_a2Long v v2 _ _ _ _ w H0.out H1.out).mono ?_
    rintro e w1 ⟨rfl, rfl⟩
    rw [HL.out]
    go_wp2
    go_ret
    exact ⟨rfl, Below.refl _ _⟩
  · have HL : Hid ((decide (3000 < l.length) || decide (3000 < l2.length)) = false) := by show _ = _; simpa using hlong
    have hl : l.length ≤ 1048576 := by omega
    clear hlong
    go_enter Try.func3, Try.ntmps3
    go_wp2_with fail
    refine (l_a2Long v v2 _ _ _ _ w H0.out H1.out).mono ?_
    rintro e w1 ⟨rfl, rfl⟩
    rw [HL.out]
    go_wp2_with fail
    refine (s_A2Huge v l _ hl H0.out).mono ?_
    rintro e w1 ⟨vg, L, rfl, hok, hne, hog, hb1⟩
    have hl0 : L.length ≠ 0 := fun e => hne (List.eq_nil_of_length_eq_zero e)
    obtain ⟨g, cg, rfl, -, -⟩ := owns_some3 hog hl0
    have hL4 := (gOk_some hok).1
    have hsm : ∀ r ∈ L, r.1.size ≤ 1048576 := fun r hr => by have := ru_small hok r hr; omega
    have hc : gC L = 0 := (g_ok hok).2.1
    have HU := Lib.hid (fun w i => i_UsesOf (.slice (some ⟨g, 0, none⟩) L.length cg) L w (by omega) hsm i)
    have HC := Lib.hid (fun w i => i_LetterCounts (.slice (some ⟨g, 0, none⟩) L.length cg) L w (by omega) hsm i)
    have HS := Lib.hid (fun w i => i_LengthsOf (.slice (some ⟨g, 0, none⟩) L.length cg) L w (by omega) hsm i)
    have HN := Lib.hid (fun w i => i_LengthOf (.slice (some ⟨g, 0, none⟩) L.length cg) L w (by omega) hsm i)
    have HD := Lib.hid (fun w i => i_DepthOf (.slice (some ⟨g, 0, none⟩) L.length cg) L w (by omega) hsm i)
    have hgu : gUs L = gU L := by simp [gUs, hok]
    rw [hc] at HU HC HS HN HD
    rw [hgu] at HU
    rw [(g_ok hok).2.2] at HS
    rw [(g_ok hok).1] at HN
    have HI1 := Lib.hid (inRu_box (o := .cells #[.slice (some ⟨g, 0, none⟩) L.length cg] 26) (inRu_of_own hog hne))
    have HB1 := Lib.hid (hb1.alloc hb1.size (.cells #[.slice (some ⟨g, 0, none⟩) L.length cg] 26))
    have HOK := Lib.hid hok
    have HUL := Lib.hid (gU_len L)
    have HLC := Lib.hid (show (gLc L).length = 4 by rw [gLc_ok hok]; exact lcT_len _ _ _)
    have HSL := Lib.hid (gOk_some hok).2.2.1
    clear hog hb1 hok hc hgu hsm
    go_wp2_with fail
    refine (HU.out _ HI1.out).mono ?_
    rintro e w2 ⟨vu, rfl, hou, hb2⟩
    rw [HUL.out] at hou
    obtain ⟨gu, cu, rfl⟩ := owns_64 hou hl0
    have c2 : w2.cell? ⟨w1.heap.size, 0, none⟩ = some (.slice (some ⟨g, 0, none⟩) L.length cg) := by rw [hb2.cell (by simp)]; simp [go_sem]
    have HI2 := Lib.hid (inRu_below HI1.out hb2)
    have HB2 := Lib.hid (HB1.out.trans (hb2.mono HB1.out.size))
    have HOU2 := Lib.hid hou
    clear hou hb2 HU HI1 HB1
    go_wp2_with fail
    refine (HC.out _ HI2.out).mono ?_
    rintro e w3 ⟨vc, rfl, hoc, hb3⟩
    rw [HLC.out] at hoc
    obtain ⟨gc, cc, rfl⟩ := owns_64 hoc (by omega)
    have c3 := cell_later hb3 c2
    have HI3 := Lib.hid (inRu_below HI2.out hb3)
    have HB3 := Lib.hid (HB2.out.trans (hb3.mono HB2.out.size))
    have HOU3 := Lib.hid (owns_after HOU2.out hb3)
    have HOC3 := Lib.hid hoc
    clear hoc hb3 HC HI2 HB2 HOU2 c2
    go_wp2_with fail
    refine (HS.out _ HI3.out).mono ?_
    rintro e w4 ⟨vs, rfl, hos, hb4⟩
    rw [HSL.out] at hos
    obtain ⟨gs, cs, rfl⟩ := owns_64 hos hl0
    have c4 := cell_later hb4 c3
    have HI4 := Lib.hid (inRu_below HI3.out hb4)
    have HB4 := Lib.hid (HB3.out.trans (hb4.mono HB3.out.size))
    have HOU4 := Lib.hid (owns_after HOU3.out hb4)
    have HOC4 := Lib.hid (owns_after HOC3.out hb4)
    have HOS4 := Lib.hid hos
    clear hos hb4 HS HI3 HB3 HOU3 HOC3 c3
    go_wp2_with fail
    refine (HN.out _ HI4.out).mono ?_
    rintro e w5 ⟨rfl, hb5⟩
    have c5 := cell_later hb5 c4
    have HI5 := Lib.hid (inRu_below HI4.out hb5)
    have HB5 := Lib.hid (HB4.out.trans (hb5.mono HB4.out.size))
    have HOU5 := Lib.hid (owns_after HOU4.out hb5)
    have HOC5 := Lib.hid (owns_after HOC4.out hb5)
    have HOS5 := Lib.hid (owns_after HOS4.out hb5)
    clear hb5 HN HI4 HB4 HOU4 HOC4 HOS4 c4
    go_wp2_with fail
    refine (HD.out _ HI5.out).mono ?_
    rintro e w6 ⟨rfl, hb6⟩
    have c6 := cell_later hb6 c5
    have HI6 := Lib.hid (inRu_below HI5.out hb6)
    have HB6 := Lib.hid (HB5.out.trans (hb6.mono HB5.out.size))
    have HOU6 := Lib.hid (owns_after HOU5.out hb6)
    have HOC6 := Lib.hid (owns_after HOC5.out hb6)
    have HOS6 := Lib.hid (owns_after HOS5.out hb6)
    clear hb6 HD HI5 HB5 HOU5 HOC5 HOS5 c5
    obtain ⟨n, hn⟩ : ∃ n, L.length = n + 1 := ⟨L.length - 1, by omega⟩
    have hn1 : (L.length : Int) - 1 = (n : Int) := by omega
    have hnL : (n : Int) < L.length := by omega
    have qu := own_get HOU6.out HUL.out (show n < L.length by omega)
    rw [show (gU L).getD n 0 = 1 by have := gU_last HOK.out hne; rw [hn] at this; simpa using this] at qu
    have qs := own_get HOS6.out HSL.out (show n < L.length by omega)
    have hls : (gLn L).getD n 0 = lastI (gLn L) := by
      have := lastI_getD (gLn L) (by intro e; have := HSL.out; rw [e] at this; simp at this; omega)
      rw [this, HSL.out, hn]; rfl
    rw [hls] at qs
    obtain ⟨hd1, hd2⟩ := gDp_bd HOK.out hne
    have HW4 := Lib.hid (sum4_last HOK.out hne)
    have HLW := Lib.hid (Lw_all HOK.out hne)
    have HNB : Hid (1 ≤ lastI (gLn L) ∧ lastI (gLn L) ≤ 1000000000000000) := by
      have hr := (gOk_some HOK.out).2.2.2
      have hz := HSL.out
      have hm : lastI (gLn L) ∈ gLn L := by
        rw [lastI_getD _ (by intro e; rw [e] at hz; simp at hz; omega), List.getD, List.getElem?_eq_getElem (by omega)]; exact List.getElem_mem _
      exact hr _ hm
    have C6 := Lib.hid c6
    clear hls hn
    generalize gDp L = d at *
    generalize lastI (gLn L) = m at *
    have hdd1 : decide (d < 1) = false := by simpa using hd1
    have hdd2 : decide ((L.length : Int) < d) = false := by simpa using hd2
    go_upto_region 11 with fail
    clear qu qs hdd1 hdd2 hd1 hd2 c6
    have c6 : w6.cell? ⟨w1.heap.size, 0, none⟩ = some (.slice (some ⟨g, 0, none⟩) L.length cg) := C6.out
    have hw16 : w1.heap.size < w6.heap.size := World.block_lt_of_cell? _ _ C6.out
    go_wp2
    go_loop [16, 17] (fun s k => ∃ j : Nat, j ≤ 4 ∧ k = .int .i64 j ∧ s = .int .i64 (sum4 (gLc L) j)) (fun _ k => 4 - (intOf k).toNat)
    case atStart => exact ⟨0, by omega, rfl, rfl⟩
    case round =>
      obtain ⟨j, hj, rfl, rfl⟩ := hrel
      by_cases hlt : j < 4
      · have qc := own_get HOC6.out HLC.out hlt
        have hstep : Hid (sum4 (gLc L) (j + 1) = wrap64 (sum4 (gLc L) j + (gLc L).getD j 0)) := rfl
        have hj4 : (j : Int) < 4 := by omega
        generalize (gLc L).getD j 0 = y at *
        generalize hs : sum4 (gLc L) j = s at *
        clear hs
        go_wp2
        go_round
        case rel => exact ⟨j + 1, by omega, by go_num, by rw [hstep.out]⟩
        case measure => simp [intOf]; omega
      · obtain rfl : j = 4 := by omega
        have hs4 : sum4 (gLc L) 4 = m := HW4.out
        rw [hs4]
        clear hs4 HW4 HOC6 HLC
        have hzN : (List.replicate L.length (0 : Int)).length = L.length := by simp
        go_upto_region 16 with fail
        go_wp2_with (at_make; refine make64 _ rfl _ _ rfl w6.heap.size (Nat.le_refl _) L.length rfl rfl (by omega) ?_; intro w7 ho7 hb7; have c7 := cell_later hb7 C6.out; have qn := own_get ho7 hzN (show n < L.length by omega); have fn : w7.frozen? ⟨w6.heap.size, n, none⟩ = false := ho7.frozenAt n; have HO7 := Lib.hid ho7; have HB7 := Lib.hid hb7; have hz7 : w6.heap.size < w7.heap.size := (ho7.lt _ rfl).2; have hne7 : w6.heap.size ≠ w1.heap.size := (by omega); clear ho7 hb7 c6)
        have HU6 : Hid (∀ wr, Below w6.heap.size w6 wr → ∀ j, j < L.length → wr.cell? ⟨gu, j, none⟩ = some (.int .i64 ((gU L).getD j 0))) := fun wr hb j hj => own_get (owns_after HOU6.out hb) HUL.out hj
        have HS6 : Hid (∀ wr, Below w6.heap.size w6 wr → ∀ j, j < L.length → wr.cell? ⟨gs, j, none⟩ = some (.int .i64 ((gLn L).getD j 0))) := fun wr hb j hj => own_get (owns_after HOS6.out hb) HSL.out hj
        have hgu6 : gu < w6.heap.size := (HOU6.out.lt gu rfl).2
        have hgs6 : gs < w6.heap.size := (HOS6.out.lt gs rfl).2
        go_loopw [19, 20] (fun le i wr => ∃ (k : Nat) (ix lv : Int), k ≤ L.length ∧ i = .int .i64 ix ∧ ix = (k : Int) - 1 ∧ le = .int .i64 lv ∧ DuR w6 L k lv wr) (fun _ i _ => (intOf i + 1).toNat)
        case atStart => exact ⟨L.length, n, 0, Nat.le_refl _, rfl, hn1.symm, rfl, DuR.start hl0 hn1 HO7.out HB7.out hz7⟩
        case round =>
          obtain ⟨k, ix, lv, hk, rfl, hix, rfl, hdu⟩ := hrel
          have HDU := Lib.hid hdu
          have HBR := Lib.hid hdu.2.2
          clear hdu c7 HO7 HB7 qn fn
          by_cases hlt : 0 < k
          · obtain ⟨j, rfl⟩ : ∃ j, k = j + 1 := ⟨k - 1, by omega⟩
            obtain rfl : ix = (j : Int) := by omega
            clear hix
            have hjL : j < L.length := by omega
            have hjI : (j : Int) < L.length := by omega
            obtain ⟨out, hol, hus, hown, hbr, hzr⟩ := HBR.out
            have cr : wr.cell? ⟨w1.heap.size, 0, none⟩ = some (.slice (some ⟨g, 0, none⟩) L.length cg) := cell_later hbr C6.out
            obtain ⟨b', off', hbe, hbl, hc0, hc1, hc2⟩ := inRu_at (inRu_below HI6.out hbr) hjL
            obtain ⟨rfl, rfl⟩ : g = b' ∧ 0 = off' := by injection hbe with e; injection e with e1 e2; exact ⟨e1, e2⟩
            clear hbe
            rw [Nat.zero_add] at hc0 hc1 hc2
            have quj := HU6.out _ hbr j hjL
            have qsj := HS6.out _ hbr j hjL
            have hlen := gOk_len HOK.out hjL
            have hw1r : w1.heap.size < wr.heap.size := Nat.lt_of_lt_of_le hw16 hbr.size
            have hgur : gu < wr.heap.size := Nat.lt_of_lt_of_le hgu6 hbr.size
            have hgsr : gs < wr.heap.size := Nat.lt_of_lt_of_le hgs6 hbr.size
            by_cases hz : (ruA L j).1.size ≠ 0
            · have h1 := hlen.2 hz
              rw [h1] at qsj
              have hst := fun w2 (h : Below _ _ w2) => HDU.out.let hz h
              have HST := Lib.hid hst
              have hne := neq_empty hz
              have hnn := not_empty hz
              clear hst hlen h1 hz hus hown hol HBR HDU
              generalize (ruA L j).1 = x1 at *
              generalize (ruA L j).2.1 = x2 at *
              generalize (ruA L j).2.2 = x3 at *
              generalize (gU L).getD j 0 = y at *
              go_wp2
              go_roundw
              case rel => exact ⟨j, (j : Int) - 1, wrap64 (lv + y), by omega, by go_num, rfl, rfl, HST.out _ ((Below.refl _ _).alloc (Nat.le_refl _) _)⟩
              case measure => first | (simp [intOf]; done) | (simp [intOf]; omega)
            · have hz0 : (ruA L j).1.size = 0 := by omega
              obtain ⟨q1, q2, q3, q4⟩ := (gOk_rule HOK.out hjL).1 hz0
              obtain ⟨p, hp⟩ := Int.eq_ofNat_of_zero_le q1
              obtain ⟨q, hq⟩ := Int.eq_ofNat_of_zero_le q3
              have hl3 := hlen.1 hz0
              rw [hp, hq] at hl3
              simp only [Int.toNat_natCast] at hl3
              have hx1 := size_zero hz0
              rw [hx1] at hc0
              rw [hp] at hc1
              rw [hq] at hc2
              have hpj : p < j := by omega
              have hqj : q < j := by omega
              have HPAIR := Lib.hid (fun o1 w2 h1 ho hb hs => HDU.out.1 |> fun hl => DuR.pair (w6 := w6) (w2 := w2) (o1 := o1) HOK.out hjL hl HDU.out.2.1 hol hus hz0 hp hq h1 ho hb hs)
              have hop := own_get hown hol (show p < L.length by omega)
              have fop : wr.frozen? ⟨w6.heap.size, p, none⟩ = false := hown.frozenAt p
              have hpI : (p : Int) < L.length := by omega
              have hqI : (q : Int) < L.length := by omega
              have HOW := Lib.hid hown
              have HOL := Lib.hid hol
              have HBW := Lib.hid hbr
              have HL3 := Lib.hid hl3
              clear hlen hl3 hx1 hp hq q1 q2 q3 q4 hz hz0 hus hown hol hbr HBR HDU
              generalize hyy : (gU L).getD j 0 = y at *
              have HY := Lib.hid hyy
              clear hyy
              have hA := (Below.refl wr.heap.size wr).alloc (Nat.le_refl _) (.cells #[.string ⟨#[]⟩, .int .i64 p, .int .i64 q] 34)
              go_upto_region 27 with fail
              refine gen_world2 (fun wa => wa.cell? ⟨wr.heap.size, 1, none⟩ = some (.int .i64 p) ∧ wa.cell? ⟨wr.heap.size, 2, none⟩ = some (.int .i64 q) ∧ Below wr.heap.size wr wa ∧ wr.heap.size < wa.heap.size) ⟨by simp [go_sem], by simp [go_sem], hA, by simp⟩ ?_
              rintro wa ⟨r1, r2, hba, hza⟩
              have aop := cell_later hba hop
              have auj := cell_later hba quj
              have afp : wa.frozen? ⟨w6.heap.size, p, none⟩ = false := by rw [hba.frozen (by simpa using hzr)]; exact fop
              have HOA := Lib.hid (owns_after HOW.out hba)
              have HBA := Lib.hid (HBW.out.trans (hba.mono HBW.out.size))
              clear hA hba hop fop quj qsj cr hc0 hc1 hc2 HOW HBW
              generalize hpp : out.getD p 0 = op at *
              refine wp_region_L (S := fun w' => w'.cell? ⟨wr.heap.size, 1, none⟩ = some (.int .i64 p) ∧ w'.cell? ⟨w6.heap.size, p, none⟩ = some (.int .i64 op) ∧ w'.cell? ⟨gu, j, none⟩ = some (.int .i64 y)) (T := [11]) (by kernel_rfl) ⟨by simpa using r1, by simpa using aop, by simpa using auj⟩ (fun hHeld => ?_)
              refine wpAnyL_take (i := 0) (v := ?_) rfl (by kernel_rfl) (by kernel_rfl) (by kernel_rfl) (by kernel_rfl) (fun _ _ _ h => h) (Or.inl ⟨by rfl, ?_⟩) (by assumption) ?_
              rotate_left
              · intro w hSw
                try dsimp only at hSw
                go_simp
                all_goals with_reducible rfl
              try simp only [Act.put, List.setIfInBounds_toArray, List.set_cons_zero, List.set_cons_succ]
              refine wpAnyL_take (i := 1) (v := ?_) rfl (by kernel_rfl) (by kernel_rfl) (by kernel_rfl) (by kernel_rfl) (fun _ _ _ h => h) (Or.inl ⟨by rfl, ?_⟩) (by assumption) ?_
              rotate_left
              · intro w hSw
                try dsimp only at hSw
                go_simp
                all_goals with_reducible rfl
              try simp only [Act.put, List.setIfInBounds_toArray, List.set_cons_zero, List.set_cons_succ]
              refine wpAnyL_take (i := 2) (v := ?_) rfl (by kernel_rfl) (by kernel_rfl) (by kernel_rfl) (by kernel_rfl) (fun _ _ _ h => h) (Or.inl ⟨by rfl, ?_⟩) (by assumption) ?_
              rotate_left
              · intro w hSw
                try dsimp only at hSw
                go_simp
                all_goals with_reducible rfl
              try simp only [Act.put, List.setIfInBounds_toArray, List.set_cons_zero, List.set_cons_succ]
              refine wpAnyL_take (i := 3) (v := ?_) rfl (by kernel_rfl) (by kernel_rfl) (by kernel_rfl) (by kernel_rfl) (fun _ _ _ h => h) (Or.inl ⟨by rfl, ?_⟩) (by assumption) ?_
              rotate_left
              · intro w hSw
                try dsimp only at hSw
                go_simp
                all_goals with_reducible rfl
              try simp only [Act.put, List.setIfInBounds_toArray, List.set_cons_zero, List.set_cons_succ]
              refine wpAnyL_take (i := 4) (v := ?_) rfl (by kernel_rfl) (by kernel_rfl) (by kernel_rfl) (by kernel_rfl) (fun _ _ _ h => h) (Or.inl ⟨by rfl, ?_⟩) (by assumption) ?_
              rotate_left
              · intro w hSw
                try dsimp only at hSw
                go_simp
                all_goals with_reducible rfl
              try simp only [Act.put, List.setIfInBounds_toArray, List.set_cons_zero, List.set_cons_succ]
              refine wpAnyL_take (i := 5) (v := ?_) rfl (by kernel_rfl) (by kernel_rfl) (by kernel_rfl) (by kernel_rfl) (fun _ _ _ h => h) (Or.inl ⟨by rfl, ?_⟩) (by assumption) ?_
              rotate_left
              · intro w hSw
                try dsimp only at hSw
                go_simp
                all_goals with_reducible rfl
              try simp only [Act.put, List.setIfInBounds_toArray, List.set_cons_zero, List.set_cons_succ]
              refine wpAnyL_take (i := 6) (v := ?_) rfl (by kernel_rfl) (by kernel_rfl) (by kernel_rfl) (by kernel_rfl) (fun _ _ _ h => h) (Or.inl ⟨by rfl, ?_⟩) (by assumption) ?_
              rotate_left
              · intro w hSw
                try dsimp only at hSw
                go_simp
                all_goals with_reducible rfl
              try simp only [Act.put, List.setIfInBounds_toArray, List.set_cons_zero, List.set_cons_succ]
              refine wpAnyL_take (i := 7) (v := ?_) rfl (by kernel_rfl) (by kernel_rfl) (by kernel_rfl) (by kernel_rfl) (fun _ _ _ h => h) (Or.inl ⟨by rfl, ?_⟩) (by assumption) ?_
              rotate_left
              · intro w hSw
                try dsimp only at hSw
                go_simp
                all_goals with_reducible rfl
              try simp only [Act.put, List.setIfInBounds_toArray, List.set_cons_zero, List.set_cons_succ]
              refine wpAnyL_take (i := 8) (v := ?_) rfl (by kernel_rfl) (by kernel_rfl) (by kernel_rfl) (by kernel_rfl) (fun _ _ _ h => h) (Or.inl ⟨by rfl, ?_⟩) (by assumption) ?_
              rotate_left
              · intro w hSw
                try dsimp only at hSw
                go_simp
                all_goals with_reducible rfl
              try simp only [Act.put, List.setIfInBounds_toArray, List.set_cons_zero, List.set_cons_succ]
              refine wpAnyL_take (i := 9) (v := ?_) rfl (by kernel_rfl) (by kernel_rfl) (by kernel_rfl) (by kernel_rfl) (fun _ _ _ h => h) (Or.inl ⟨by rfl, ?_⟩) (by assumption) ?_
              rotate_left
              · intro w hSw
                try dsimp only at hSw
                go_simp
                all_goals with_reducible rfl
              try simp only [Act.put, List.setIfInBounds_toArray, List.set_cons_zero, List.set_cons_succ]
              refine wpAnyL_take (i := 10) (v := ?_) rfl (by kernel_rfl) (by kernel_rfl) (by kernel_rfl) (by kernel_rfl) (fun _ _ _ h => h) (Or.inl ⟨by rfl, ?_⟩) (by assumption) ?_
              rotate_left
              · intro w hSw
                try dsimp only at hSw
                go_simp
                all_goals with_reducible rfl
              try simp only [Act.put, List.setIfInBounds_toArray, List.set_cons_zero, List.set_cons_succ]
              clear hHeld
              refine wpAnyL_tail (i := 11) (by kernel_rfl) (by rfl) rfl (fun K hK => ?_)
              go_simp
              go_wp2_with fail
              refine hK.out _ _ ?_
              clear hK K
              try simp only [Act.put, List.setIfInBounds_toArray, List.set_cons_zero, List.set_cons_succ]
              refine wpAny_done (by kernel_rfl) ?_ _
              obtain ⟨o1, ho1⟩ : ∃ o1, out.set p (wrap64 (op + y)) = o1 := ⟨_, rfl⟩
              have HO1 := Lib.hid ho1
              have ho1l : o1.length = L.length := by rw [← ho1]; simpa using HOL.out
              go_upto_region 28 with fail
              refine gen_world2 (fun wb => wb.cell? ⟨wr.heap.size, 1, none⟩ = some (.int .i64 p) ∧ wb.cell? ⟨wr.heap.size, 2, none⟩ = some (.int .i64 q) ∧ wb.ownsRow w6.heap.size 2 1 (.slice (some ⟨w6.heap.size, 0, none⟩) L.length L.length) L.length ((out.set p (wrap64 (op + y))).map (Value.int .i64)) ∧ Below w6.heap.size w6 wb ∧ wr.heap.size < wb.heap.size) ⟨(by first | (rw [World.cell?_setCell_far _ _ _ _ (by simp; omega)]; simpa using r1) | (simp only [World.cell?_drew]; rw [World.cell?_setCell_far _ _ _ _ (by simp; omega)]; exact r1)), (by first | (rw [World.cell?_setCell_far _ _ _ _ (by simp; omega)]; simpa using r2) | (simp only [World.cell?_drew]; rw [World.cell?_setCell_far _ _ _ _ (by simp; omega)]; exact r2)), (by rw [IntWalk.i64_left]; first | exact own_set (ownsRow_drew HOA.out) p _ | exact ownsRow_drew (own_set HOA.out p _)), (by first | exact (HBA.out.drew).setCell (p := ⟨w6.heap.size, p, none⟩) (Nat.le_refl _) _ | exact (HBA.out.setCell (p := ⟨w6.heap.size, p, none⟩) (Nat.le_refl _) _).drew), by simpa using hza⟩ ?_
              clear r1 r2 aop auj afp HOA HBA hza
              rintro wb ⟨r1, r2, hownb, hbb, hzb⟩
              rw [ho1] at hownb
              have buj := HU6.out wb hbb j hjL
              rw [HY.out] at buj
              have bop := own_get hownb ho1l (show q < L.length by omega)
              have bfp : wb.frozen? ⟨w6.heap.size, q, none⟩ = false := hownb.frozenAt q
              have HOB := Lib.hid hownb
              have HBB := Lib.hid hbb
              clear hownb hbb ho1
              generalize hqq : o1.getD q 0 = oq at *
              refine wp_region_L (S := fun w' => w'.cell? ⟨wr.heap.size, 2, none⟩ = some (.int .i64 q) ∧ w'.cell? ⟨w6.heap.size, q, none⟩ = some (.int .i64 oq) ∧ w'.cell? ⟨gu, j, none⟩ = some (.int .i64 y)) (T := [11]) (by kernel_rfl) ⟨by simpa using r2, by simpa using bop, by simpa using buj⟩ (fun hHeld => ?_)
              refine wpAnyL_take (i := 0) (v := ?_) rfl (by kernel_rfl) (by kernel_rfl) (by kernel_rfl) (by kernel_rfl) (fun _ _ _ h => h) (Or.inl ⟨by rfl, ?_⟩) (by assumption) ?_
              rotate_left
              · intro w hSw
                try dsimp only at hSw
                go_simp
                all_goals with_reducible rfl
              try simp only [Act.put, List.setIfInBounds_toArray, List.set_cons_zero, List.set_cons_succ]
              refine wpAnyL_take (i := 1) (v := ?_) rfl (by kernel_rfl) (by kernel_rfl) (by kernel_rfl) (by kernel_rfl) (fun _ _ _ h => h) (Or.inl ⟨by rfl, ?_⟩) (by assumption) ?_
              rotate_left
              · intro w hSw
                try dsimp only at hSw
                go_simp
                all_goals with_reducible rfl
              try simp only [Act.put, List.setIfInBounds_toArray, List.set_cons_zero, List.set_cons_succ]
              refine wpAnyL_take (i := 2) (v := ?_) rfl (by kernel_rfl) (by kernel_rfl) (by kernel_rfl) (by kernel_rfl) (fun _ _ _ h => h) (Or.inl ⟨by rfl, ?_⟩) (by assumption) ?_
              rotate_left
              · intro w hSw
                try dsimp only at hSw
                go_simp
                all_goals with_reducible rfl
              try simp only [Act.put, List.setIfInBounds_toArray, List.set_cons_zero, List.set_cons_succ]
              refine wpAnyL_take (i := 3) (v := ?_) rfl (by kernel_rfl) (by kernel_rfl) (by kernel_rfl) (by kernel_rfl) (fun _ _ _ h => h) (Or.inl ⟨by rfl, ?_⟩) (by assumption) ?_
              rotate_left
              · intro w hSw
                try dsimp only at hSw
                go_simp
                all_goals with_reducible rfl
              try simp only [Act.put, List.setIfInBounds_toArray, List.set_cons_zero, List.set_cons_succ]
              refine wpAnyL_take (i := 4) (v := ?_) rfl (by kernel_rfl) (by kernel_rfl) (by kernel_rfl) (by kernel_rfl) (fun _ _ _ h => h) (Or.inl ⟨by rfl, ?_⟩) (by assumption) ?_
              rotate_left
              · intro w hSw
                try dsimp only at hSw
                go_simp
                all_goals with_reducible rfl
              try simp only [Act.put, List.setIfInBounds_toArray, List.set_cons_zero, List.set_cons_succ]
              refine wpAnyL_take (i := 5) (v := ?_) rfl (by kernel_rfl) (by kernel_rfl) (by kernel_rfl) (by kernel_rfl) (fun _ _ _ h => h) (Or.inl ⟨by rfl, ?_⟩) (by assumption) ?_
              rotate_left
              · intro w hSw
                try dsimp only at hSw
                go_simp
                all_goals with_reducible rfl
              try simp only [Act.put, List.setIfInBounds_toArray, List.set_cons_zero, List.set_cons_succ]
              refine wpAnyL_take (i := 6) (v := ?_) rfl (by kernel_rfl) (by kernel_rfl) (by kernel_rfl) (by kernel_rfl) (fun _ _ _ h => h) (Or.inl ⟨by rfl, ?_⟩) (by assumption) ?_
              rotate_left
              · intro w hSw
                try dsimp only at hSw
                go_simp
                all_goals with_reducible rfl
              try simp only [Act.put, List.setIfInBounds_toArray, List.set_cons_zero, List.set_cons_succ]
              refine wpAnyL_take (i := 7) (v := ?_) rfl (by kernel_rfl) (by kernel_rfl) (by kernel_rfl) (by kernel_rfl) (fun _ _ _ h => h) (Or.inl ⟨by rfl, ?_⟩) (by assumption) ?_
              rotate_left
              · intro w hSw
                try dsimp only at hSw
                go_simp
                all_goals with_reducible rfl
              try simp only [Act.put, List.setIfInBounds_toArray, List.set_cons_zero, List.set_cons_succ]
              refine wpAnyL_take (i := 8) (v := ?_) rfl (by kernel_rfl) (by kernel_rfl) (by kernel_rfl) (by kernel_rfl) (fun _ _ _ h => h) (Or.inl ⟨by rfl, ?_⟩) (by assumption) ?_
              rotate_left
              · intro w hSw
                try dsimp only at hSw
                go_simp
                all_goals with_reducible rfl
              try simp only [Act.put, List.setIfInBounds_toArray, List.set_cons_zero, List.set_cons_succ]
              refine wpAnyL_take (i := 9) (v := ?_) rfl (by kernel_rfl) (by kernel_rfl) (by kernel_rfl) (by kernel_rfl) (fun _ _ _ h => h) (Or.inl ⟨by rfl, ?_⟩) (by assumption) ?_
              rotate_left
              · intro w hSw
                try dsimp only at hSw
                go_simp
                all_goals with_reducible rfl
              try simp only [Act.put, List.setIfInBounds_toArray, List.set_cons_zero, List.set_cons_succ]
              refine wpAnyL_take (i := 10) (v := ?_) rfl (by kernel_rfl) (by kernel_rfl) (by kernel_rfl) (by kernel_rfl) (fun _ _ _ h => h) (Or.inl ⟨by rfl, ?_⟩) (by assumption) ?_
              rotate_left
              · intro w hSw
                try dsimp only at hSw
                go_simp
                all_goals with_reducible rfl
              try simp only [Act.put, List.setIfInBounds_toArray, List.set_cons_zero, List.set_cons_succ]
              clear hHeld
              refine wpAnyL_tail (i := 11) (by kernel_rfl) (by rfl) rfl (fun K hK => ?_)
              go_simp
              go_wp2_with fail
              refine hK.out _ _ ?_
              clear hK K
              try simp only [Act.put, List.setIfInBounds_toArray, List.set_cons_zero, List.set_cons_succ]
              refine wpAny_done (by kernel_rfl) ?_ _
              go_upto_region 29 with fail
              refine gen_world2 (fun wz => wz.cell? ⟨wr.heap.size, 1, none⟩ = some (.int .i64 p) ∧ wz.cell? ⟨wr.heap.size, 2, none⟩ = some (.int .i64 q) ∧ wz.ownsRow w6.heap.size 2 1 (.slice (some ⟨w6.heap.size, 0, none⟩) L.length L.length) L.length ((o1.set q (wrap64 (oq + y))).map (Value.int .i64)) ∧ Below w6.heap.size w6 wz ∧ wr.heap.size < wz.heap.size) ⟨(by first | (rw [World.cell?_setCell_far _ _ _ _ (by simp; omega)]; simpa using r1) | (simp only [World.cell?_drew]; rw [World.cell?_setCell_far _ _ _ _ (by simp; omega)]; exact r1)), (by first | (rw [World.cell?_setCell_far _ _ _ _ (by simp; omega)]; simpa using r2) | (simp only [World.cell?_drew]; rw [World.cell?_setCell_far _ _ _ _ (by simp; omega)]; exact r2)), (by rw [IntWalk.i64_left]; first | exact own_set (ownsRow_drew HOB.out) q _ | exact ownsRow_drew (own_set HOB.out q _)), (by first | exact (HBB.out.drew).setCell (p := ⟨w6.heap.size, q, none⟩) (Nat.le_refl _) _ | exact (HBB.out.setCell (p := ⟨w6.heap.size, q, none⟩) (Nat.le_refl _) _).drew), by simpa using hzb⟩ ?_
              clear r1 r2 bop buj bfp HOB HBB hzb
              rintro wz ⟨r1, r2, hownz, hbz, hzz⟩
              have hsj := HS6.out wz hbz j hjL
              have hsp := HS6.out wz hbz p (by omega)
              have hsq := HS6.out wz hbz q (by omega)
              rw [HL3.out] at hsj
              have HBN : Hid (∀ i, i < L.length → 1 ≤ (gLn L).getD i 0 ∧ (gLn L).getD i 0 ≤ 1000000000000000) := by
                intro i hi
                have hr := (gOk_some HOK.out).2.2.2
                have hz := HSL.out
                exact hr _ (by rw [List.getD, List.getElem?_eq_getElem (by omega)]; exact List.getElem_mem _)
              obtain ⟨ba1, ba2⟩ := HBN.out p (by omega)
              obtain ⟨bb1, bb2⟩ := HBN.out q (by omega)
              have HDZ := Lib.hid (HPAIR.out o1 wz HO1.out.symm (by rw [hqq]; exact hownz) hbz (by omega))
              clear hownz hbz HPAIR HOL HL3 HBN hqq hpp
              generalize (gLn L).getD p 0 = la at *
              generalize (gLn L).getD q 0 = lb at *
              have hwab : IntKind.i64.wrap (la + lb) = la + lb := IntWalk.i64_in _ (by omega)
              go_big_quiet (fail)
              go_wp2
              go_roundw
              case rel => exact ⟨j, (j : Int) - 1, lv, by omega, by go_num, rfl, rfl, HDZ.out.below (below_drewN (Below.refl _ _) _)⟩
              case measure => first | (simp [intOf]; done) | (simp [intOf]; omega)
          · obtain rfl : k = 0 := by omega
            obtain rfl : ix = -1 := by omega
            have hlv := HDU.out.stop HLW.out HNB.out
            obtain ⟨out, hol, hus, hown, hbr, hzr⟩ := HBR.out
            have hou : out = gU L := hus
            rw [hou] at hown
            have HDX : Hid (∀ wy, Below wr.heap.size wr wy → ∀ k, k < L.length → wy.cell? ⟨w6.heap.size, k, none⟩ = some (.int .i64 ((gU L).getD k 0)) ∧ wy.cell? ⟨gu, k, none⟩ = some (.int .i64 ((gU L).getD k 0))) := fun wy hb k hk => ⟨own_get (owns_after hown hb) HUL.out hk, HU6.out wy (hbr.trans (hb.mono hbr.size)) k hk⟩
            have HBZ := Lib.hid (HB6.out.trans (hbr.mono HB6.out.size))
            subst hlv
            clear hix hlt hol hus hown hou hbr HBR HDU HU6 HS6 HLW HNB
            go_wp2
            go_loopw [22] (fun i wy => ∃ k : Nat, k ≤ L.length ∧ i = .int .i64 k ∧ Below wr.heap.size wr wy) (fun i _ => L.length - (intOf i).toNat)
            case atStart => exact ⟨0, by omega, rfl, Below.refl _ _⟩
            case round =>
              obtain ⟨k, hk2, rfl, hby⟩ := hrel
              by_cases hlt : k < L.length
              · obtain ⟨d1, d2⟩ := HDX.out _ hby k hlt
                have hkI : (k : Int) < L.length := by omega
                have HBY := Lib.hid hby
                clear hby
                generalize (gU L).getD k 0 = y at *
                go_wp2
                go_big_quiet (fail)
                go_wp2
                go_roundw
                case rel => exact ⟨k + 1, by omega, by go_num, below_drewN HBY.out _⟩
                case measure => first | (simp [intOf]; done) | (simp [intOf]; omega)
              · have hkI : ¬ (k : Int) < L.length := by omega
                have HBF := Lib.hid (HBZ.out.trans (hby.mono HBZ.out.size))
                clear hby
                go_wp2
                go_ret
                exact ⟨rfl, HBF.out⟩
end Go.Proofs.Ytimfbnjgodbgoaa

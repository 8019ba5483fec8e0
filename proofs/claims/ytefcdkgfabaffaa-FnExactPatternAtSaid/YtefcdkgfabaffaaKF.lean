/- The length of a code: the reference's walk. -/
import Derived.Test.YtefcdkgfabaffaaKE
namespace Go.Proofs.Ytefcdkgfabaffaa
open Go.ChangeShapes Go.WideShapes Go.RowKit
set_option linter.unusedVariables false
set_option linter.unusedSimpArgs false
set_option maxHeartbeats 2000000
set_option maxRecDepth 100000
theorem s_l00Min (a b : Int) (w : World) : Calls Try.prog 152 #[.int .i64 a, .int .i64 b] w fun e w' => e = .returned (.int .i64 (min a b)) ∧ w' = w := by
  by_cases h : a < b
  · have h2 : min a b = a := by omega
    rw [h2]
    go_enter Try.func152, Try.ntmps152
    go_wp2
    go_ret
    exact ⟨rfl, rfl⟩
  · have h2 : min a b = b := by omega
    rw [h2]
    go_enter Try.func152, Try.ntmps152
    go_wp2
    go_ret
    exact ⟨rfl, rfl⟩
def fC (x : Int) : Int := min 1000000000000001 x
theorem fC_bd (x : Int) (h : 0 ≤ x) : 0 ≤ fC x ∧ fC x ≤ x := by unfold fC; omega
theorem s_l04Coded (bm bg : Nat) (vm u1 u2 vg : Value) (MT : Tb) (a : Co) (l : List Ru) (w : World) (H : cdP MT a.ou a.nx.length l) (hml : MT.length = l.length) (hmr : ∀ p, p < l.length → (tA MT p).length = a.nx.length) (hnl : a.nx.length ≤ 24) (hol : a.ou.length = a.nx.length) (ho4 : ∀ s, s < a.nx.length → (uA a.ou s).length = 4)
    (c2 : w.cell? ⟨bm, 2, none⟩ = some u1) (c3 : w.cell? ⟨bm, 3, none⟩ = some u2) (c4 : w.cell? ⟨bg, 0, none⟩ = some vg) (h1 : InT w u1 a.nx) (h2 : InU w u2 a.ou) (hg : InRu w vg l) (hm : InT w vm MT) :
    Calls Try.prog 146 #[.pointer (some ⟨bm, 0, none⟩), .pointer (some ⟨bg, 0, none⟩), vm] w fun e w' => ∃ v', e = .returned v' ∧ OwnT w.heap.size w' v' (cdT fC MT a.ou a.nx.length l l.length) ∧ Below w.heap.size w w' := by
  obtain ⟨an, cn, rfl⟩ := inT_sl h1
  obtain ⟨au, cu, rfl⟩ := inU_sl h2
  obtain ⟨ag, cg, rfl⟩ := inRu_sl hg
  obtain ⟨am, cm, rfl⟩ := inT_sl hm
  have hok := H.ok
  have HIN := Lib.hid hg
  have HNU := Lib.hid h2
  have HMI := Lib.hid hm
  have HR := Lib.hid (fun k hk => @gOk_rule l hok k hk)
  have HBD := Lib.hid (cdT_bd fC_bd H)
  have HLB : Hid (∀ p, p < l.length → (gLn l).getD p 0 ≤ 1000000000000000) := fun p hp => by
    have g := (gOk_some hok).2.2
    rw [List.getD, List.getElem?_eq_getElem (by omega)]
    exact (g.2 _ (List.getElem_mem (by omega))).2
  have HMB := Lib.hid H.mp
  have HMR := Lib.hid hmr
  have HOU := Lib.hid ho4
  have HOB := Lib.hid H.op
  have HOL := Lib.hid hol
  have HML := Lib.hid hml
  have hl400 := (gOk_some hok).1
  have hsz0 : bm < w.heap.size := World.block_lt_of_cell? _ _ c2
  have hsz1 : bg < w.heap.size := World.block_lt_of_cell? _ _ c4
  clear h1 h2 hg hok hm H hmr ho4 hol
  rw [hml]
  clear hml
  go_enter Try.func146, Try.ntmps146
  go_wp2
  go_loopw [7, 8, 9, 10, 11, 12] (fun o i _ _ _ _ wr => Below w.heap.size w wr ∧ ∃ k : Nat, k ≤ l.length ∧ i = .int .i64 k ∧ OwnT w.heap.size wr o (cdT fC MT a.ou a.nx.length l k)) (fun _ i _ _ _ _ _ => l.length - (intOf i).toNat)
  case atStart => exact ⟨(Below.refl _ _).alloc (Nat.le_refl _) _, 0, by omega, rfl, by have := ownT_nil (w := w) (base := w.heap.size) (Nat.le_refl _); simpa [cdT] using this⟩
  case round =>
    obtain ⟨hb, k, hk, rfl, hown⟩ := hrel
    have HB := Lib.hid hb
    have d4 := cell_later hb c4
    by_cases hlt : k < l.length
    · obtain ⟨b, off, rfl, hbl, hc0, hc1, hc2⟩ := inRu_at (inRu_below HIN.out hb) hlt
      have hin : ((k : Nat) : Int) < l.length := by omega
      have HT := Lib.hid (show cdT fC MT a.ou a.nx.length l (k + 1) = cdT fC MT a.ou a.nx.length l k ++ [cdR fC MT a.ou (cdT fC MT a.ou a.nx.length l k) (ruA l k) a.nx.length] from rfl)
      have htl := cdT_len fC MT a.ou a.nx.length l k
      have HTR := Lib.hid (fun p (h : p < k) => cdT_row fC MT a.ou a.nx.length l h)
      have HBD2 := Lib.hid (fun p s h hs => HBD.out k p s h (by omega) hs)
      have HRU := Lib.hid (HR.out k hlt)
      have HE : Hid (∀ s, cdR fC MT a.ou (cdT fC MT a.ou a.nx.length l k) (ruA l k) (s + 1) = cdR fC MT a.ou (cdT fC MT a.ou a.nx.length l k) (ruA l k) s ++ [cdE fC MT a.ou (cdT fC MT a.ou a.nx.length l k) (ruA l k) s]) := fun s => rfl
      have HEp : Hid ((ruA l k).1.size = 0 → ∀ s, cdE fC MT a.ou (cdT fC MT a.ou a.nx.length l k) (ruA l k) s = fC ((tA (cdT fC MT a.ou a.nx.length l k) (ruA l k).2.1.toNat).getD s 0 + (tA (cdT fC MT a.ou a.nx.length l k) (ruA l k).2.2.toNat).getD ((tA MT (ruA l k).2.1.toNat).getD s 0).toNat 0)) := fun h s => by rw [cdE, if_pos h]
      have HEl : Hid ((ruA l k).1.size ≠ 0 → ∀ s, cdE fC MT a.ou (cdT fC MT a.ou a.nx.length l k) (ruA l k) s = (((uA a.ou s).getD (lcI (ruA l k).1) ⟨#[]⟩).size : Int)) := fun h s => by rw [cdE, if_neg h]
      have HL := Lib.hid (cdR_len fC MT a.ou (cdT fC MT a.ou a.nx.length l k) (ruA l k))
      have HL0 : Hid (cdR fC MT a.ou (cdT fC MT a.ou a.nx.length l k) (ruA l k) 0 = []) := rfl
      have hns : w.heap.size ≤ wr.heap.size := hb.size
      have HOWN := Lib.hid hown
      have HNW := Lib.hid (inU_below HNU.out hb)
      have HMW := Lib.hid (inT_below (by have := HMI.out; exact this) hb)
      have d2 := cell_later hb c2
      have d3 := cell_later hb c3
      have hwo : bm < wr.heap.size := World.block_lt_of_cell? _ _ d2
      have hwg : bg < wr.heap.size := World.block_lt_of_cell? _ _ d4
      clear hb hown
      obtain ⟨wo, rfl⟩ : ∃ wo, wo = wr := ⟨_, rfl⟩
      obtain ⟨ao, co, rfl⟩ := inT_sl (ownT_in HOWN.out)
      rw [htl]
      generalize cdE fC MT a.ou (cdT fC MT a.ou a.nx.length l k) (ruA l k) = sE at *
      generalize cdR fC MT a.ou (cdT fC MT a.ou a.nx.length l k) (ruA l k) = sR at *
      generalize cdT fC MT a.ou a.nx.length l k = T at *
      generalize (ruA l k).1 = x1 at *
      generalize (ruA l k).2.1 = x2 at *
      generalize (ruA l k).2.2 = x3 at *
      go_wp2
      go_loopw [10, 11, 12] (fun o i _ wr => Below (wo.heap.size + 1) (wo.alloc (.cells #[.string x1, .int .i64 x2, .int .i64 x3] 131)) wr ∧ ∃ s : Nat, s ≤ a.nx.length ∧ i = .int .i64 s ∧ wr.ownsRow (wo.heap.size + 1) 2 1 o s (iv (sR s))) (fun _ i _ _ => a.nx.length - (intOf i).toNat)
      case atStart => exact ⟨(Below.refl _ _).alloc (by simp) _, 0, by omega, rfl, by rw [HL0.out]; have := own_nil64 (w := wo.alloc (.cells #[.string x1, .int .i64 x2, .int .i64 x3] 131)) (base := wo.heap.size + 1) (by simp); simpa using this⟩
      case round =>
        obtain ⟨hb2, s, hs, rfl, hro⟩ := hrel
        have hbq := below_box (w := wo) (o := .cells #[.string x1, .int .i64 x2, .int .i64 x3] 131) (w1 := wr) (by simpa using hb2)
        have e2 := cell_later hbq d2
        by_cases hls : s < a.nx.length
        · have hlsI : ((s : Nat) : Int) < a.nx.length := by omega
          have r0 : wr.cell? ⟨wo.heap.size, 0, none⟩ = some (.string x1) := by rw [hb2.cell (by simp)]; simp [go_sem]
          have r1 : wr.cell? ⟨wo.heap.size, 1, none⟩ = some (.int .i64 x2) := by rw [hb2.cell (by simp)]; simp [go_sem]
          have r2 : wr.cell? ⟨wo.heap.size, 2, none⟩ = some (.int .i64 x3) := by rw [hb2.cell (by simp)]; simp [go_sem]
          have HRO := Lib.hid hro
          have HB2 := Lib.hid hb2
          have hqs : wo.heap.size + 1 ≤ wr.heap.size := by have := hb2.size; simpa using this
          have e3 := cell_later hbq d3
          by_cases hz : x1.size = 0
          · obtain ⟨q1, q2, q3, q4⟩ := HRU.out.1 hz
            obtain ⟨p, rfl⟩ := Int.eq_ofNat_of_zero_le q1
            obtain ⟨q, rfl⟩ := Int.eq_ofNat_of_zero_le q3
            have hpk : p < k := by omega
            have hqk : q < k := by omega
            have HV := Lib.hid (HEp.out hz s)
            simp only [Int.toNat_natCast] at HV
            obtain rfl := size_zero hz
            clear q1 q2 q3 q4 d3 e3 hz d4
            have hti := ownT_in HOWN.out
            obtain ⟨bt, ot, rfl, hlt0, hall⟩ := inT_all hti (by omega)
            have hmi := HMW.out
            have hml := HML.out
            obtain ⟨bo, om, rfl, hltm, hmll⟩ := inT_all hmi (by omega)
            obtain ⟨rp, cp, hcp, hip⟩ := hall p (by omega)
            obtain ⟨rq, cq, hcq, hiq⟩ := hall q (by omega)
            obtain ⟨rm, cm2, hcm, him⟩ := hmll p (by omega)
            clear hml
            obtain ⟨gp, fp, rfl, hlt1, hvp⟩ := inI_at hip (show s < (tA T p).length by rw [HTR.out p hpk]; exact hls)
            obtain ⟨gm, fm, rfl, hlt3, hvm⟩ := inI_at him (show s < (tA MT p).length by rw [HMR.out p (by omega)]; exact hls)
            have hbm := HMB.out p s (by omega) hls
            obtain ⟨m, hm⟩ := Int.eq_ofNat_of_zero_le hbm.1
            have hmlt : m < a.nx.length := by omega
            obtain ⟨gq, fq, rfl, hlt2, hvq⟩ := inI_at hiq (show m < (tA T q).length by rw [HTR.out q hqk]; exact hmlt)
            rw [hm] at hvm
            have HEV := Lib.hid (HE.out s)
            rw [HV.out, hm] at HEV
            simp only [Int.toNat_natCast] at HEV
            rw [HTR.out p hpk] at hcp
            rw [HTR.out q hqk] at hcq
            rw [HMR.out p (by omega)] at hcm
            have hcp := cell_later hbq hcp
            have hcq := cell_later hbq hcq
            have hcm := cell_later hbq hcm
            have hvp := cell_later hbq hvp
            have hvq := cell_later hbq hvq
            have hvm := cell_later hbq hvm
            have hpI : ((p : Nat) : Int) < k := by omega
            have hqI : ((q : Nat) : Int) < k := by omega
            have hpM : ((p : Nat) : Int) < l.length := by omega
            have hmI : ((m : Nat) : Int) < a.nx.length := by omega
            have g1 := HBD2.out p s hpk hls
            have g2 := HBD2.out q m hqk hmlt
            have g3 := HLB.out p (by omega)
            have g4 := HLB.out q (by omega)
            obtain ⟨z, hz⟩ : ∃ z, (tA T p).getD s 0 + (tA T q).getD m 0 = z := ⟨_, rfl⟩
            have hwz : IntKind.i64.wrap ((tA T p).getD s 0 + (tA T q).getD m 0) = z := by rw [← hz]; exact IntWalk.i64_in _ (by omega)
            rw [hz] at HEV
            have HMN := Lib.hid (fun w => s_l00Min 1000000000000001 z w)
            have hzf : min 1000000000000001 z = fC z := rfl
            rw [hzf] at HMN
            clear hti hall hip hiq hbm hm HV g1 g2 g3 g4 him hmll hmi hz hzf hro hb2 hbq hc0 hc1 hc2 d2
            generalize fC z = y at *
            generalize (tA T p).getD s 0 = z1 at *
            generalize (tA T q).getD m 0 = z2 at *
            go_wp2
            go_big_quiet ((go_at_call 152; exact Calls.quiet_of_same (HMN.out _)))
            have hown3 := ownsRow_drewN HRO.out nq
            go_wp2_with (at_builtin; refine app_i64 rfl (.tmp 82) (.tmp 84) rfl (wo.heap.size + 1) _ _ _ _ _ _ rfl hown3 rfl (by simp) (by omega) (by simpa using hqs) ?_; intro v' w4 ho4 hb4 hsz4)
            go_roundw
            case rel => exact ⟨(below_drewN HB2.out nq).trans hb4, s + 1, by omega, by go_num, by rw [HEV.out]; simpa [iv] using ho4⟩
            case measure => first | (simp [intOf]; done) | (simp [intOf]; omega)
          · obtain ⟨h1, hv, h2, h3⟩ := HRU.out.2 hz
            have h0 : 0 < x1.size := by omega
            obtain ⟨hc4, hcv⟩ := lcI_ok h1 hv h0
            obtain ⟨c, hc⟩ : ∃ c, lcI x1 = c := ⟨_, rfl⟩
            have HEV := Lib.hid (HE.out s)
            rw [HEl.out hz s, hc] at HEV
            rw [hc] at hc4 hcv
            have hci : (c : Int) < 4 := by omega
            have hx0 : (x1[0].toNat : Int) = 97 + (c : Int) := by omega
            have hne := neq_empty hz
            have hne2 := not_empty hz
            have HLT := Lib.hid (fun w => s_l04Letter (97 + (c : Int)) c w rfl hc4)
            have hol := HOL.out
            obtain ⟨bt, ot, rfl, hlt0, hall⟩ := inU_all HNW.out (by omega)
            obtain ⟨rp, cp, hcp, hip⟩ := hall s (by omega)
            have hr4 := HOU.out s hls
            obtain ⟨gp, fp, rfl, hlt1, hvp⟩ := inS_at hip (show c < (uA a.ou s).length by omega)
            have h6 := HOB.out s hls c hc4
            rw [hr4] at hcp
            have hcp := cell_later hbq hcp
            have hvp := cell_later hbq hvp
            have hlsU : ((s : Nat) : Int) < a.ou.length := by omega
            clear hall hip hol hz h2 h3 hv hc hcv hro hb2 hbq hc0 hc1 hc2 d2 d3 d4
            generalize (uA a.ou s).getD c ⟨#[]⟩ = z at *
            go_wp2
            go_big_quiet ((go_at_call 92; exact (HLT.out _).mono (fun e w'' h => ⟨h.1, _, h.2.symm⟩)))
            have hown3 := ownsRow_drewN HRO.out nq
            go_wp2_with (at_builtin; refine app_i64 rfl (.tmp 82) (.tmp 84) rfl (wo.heap.size + 1) _ _ _ _ _ _ rfl hown3 rfl (by simp) (by omega) (by simpa using hqs) ?_; intro v' w4 ho4 hb4 hsz4)
            go_roundw
            case rel => exact ⟨(below_drewN HB2.out nq).trans hb4, s + 1, by omega, by go_num, by rw [HEV.out]; simpa [iv] using ho4⟩
            case measure => first | (simp [intOf]; done) | (simp [intOf]; omega)
        · have es : s = a.nx.length := by omega
          subst es
          have hls' : ¬ (a.nx.length : Int) < a.nx.length := by omega
          obtain ⟨ar, cr, rfl, -, -⟩ := owns_sl3 hro
          have hown1 : OwnT w.heap.size wo (.slice ao k co) T := by have := HOWN.out; rwa [htl] at this
          have hro1 := own_len (m := (sR a.nx.length).length) (owns_weak (base' := wo.heap.size) hro (by omega)) (HL.out _)
          have hbq1 := Lib.hid hbq
          have hwb := hbq.size
          clear hls hb2 hbq hc0 hc1 hc2 d2 d3 d4
          go_wp2_with (at_builtin; refine appT rfl (.tmp 86) (.tmp 88) rfl w.heap.size wo wr _ _ _ T _ (by rfl) hown1 hbq1.out hro1 (by rfl) (by simp) (by omega) (by omega) ?_; intro v' w4 ho4 hb4 hsz4)
          go_roundw
          case rel => exact ⟨(HB.out.trans (hbq1.out.mono hns)).trans hb4, k + 1, by omega, by go_num, by rw [HT.out]; exact ho4⟩
          case measure => first | (simp [intOf]; done) | (simp [intOf]; omega)
    · have ek : k = l.length := by omega
      subst ek
      have hk' : ¬ (l.length : Int) < l.length := by omega
      clear hb
      go_wp2
      go_ret
      exact ⟨_, rfl, hown, HB.out⟩
end Go.Proofs.Ytefcdkgfabaffaa

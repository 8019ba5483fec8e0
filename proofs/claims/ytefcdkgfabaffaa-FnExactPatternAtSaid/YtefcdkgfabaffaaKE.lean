/- The length of a code: the program's walk. -/
import Derived.Test.YtefcdkgfabaffaaKD
namespace Go.Proofs.Ytefcdkgfabaffaa
open Go.ChangeShapes Go.WideShapes Go.RowKit
set_option linter.unusedVariables false
set_option linter.unusedSimpArgs false
set_option maxHeartbeats 2000000
set_option maxRecDepth 100000
theorem inU_all {w : World} {a : Option Addr} {cap : Nat} {t : Ts} (h : InU w (.slice a t.length cap) t) (h0 : 0 < t.length) :
    ∃ b off, a = some ⟨b, off, none⟩ ∧ b < w.heap.size ∧ ∀ k, k < t.length → ∃ r c, w.cell? ⟨b, off + k, none⟩ = some (.slice r (uA t k).length c) ∧ InS w (.slice r (uA t k).length c) (uA t k) := by
  obtain ⟨b, off, _, _, e, hb, _, _⟩ := inU_at h h0
  refine ⟨b, off, e, hb, fun k hk => ?_⟩
  obtain ⟨b', off', r, c, e', _, h1, h2⟩ := inU_at h hk
  rw [e] at e'
  injection e' with e'; injection e' with e1 e2
  subst e1 e2
  exact ⟨r, c, h1, h2⟩
theorem i_codedLength (u1 u2 vg : Value) (a : Co) (l : List Ru) (w : World) (hok : gOk l = true) (hco : coOk a = true) (h1 : InT w u1 a.nx) (h2 : InU w u2 a.ou) (hg : InRu w vg l) :
    Calls Try.prog 118 #[.agg #[.int .i64 a.st, .int .i64 a.sa, u1, u2], .agg #[vg]] w fun e w' => e = .returned (.int .i64 (cdN (fun x => x) a l)) ∧ Below w.heap.size w w' := by
  obtain ⟨an, cn, rfl⟩ := inT_sl h1
  obtain ⟨au, cu, rfl⟩ := inU_sl h2
  obtain ⟨ag, cg, rfl⟩ := inRu_sl hg
  obtain ⟨f1, f2, f3, f4, f5, f6⟩ := coOk_facts hco
  obtain ⟨p0, hp0⟩ := Int.eq_ofNat_of_zero_le f2.1
  have hnl : a.nx.length ≤ 24 := by omega
  have hol : a.ou.length = a.nx.length := by omega
  have hp1 : p0 < a.nx.length := by omega
  have H := cdP_of hco hok
  have hbx := ((Below.refl w.heap.size w).alloc (Nat.le_refl _) (.cells #[.int .i64 a.st, .int .i64 a.sa, .slice an a.nx.length cn, .slice au a.ou.length cu] 42)).alloc (by simp) (.cells #[.slice ag l.length cg] 59)
  have HM := Lib.hid (i_stateMaps (.slice an a.nx.length cn) (.slice ag l.length cg) a.nx l _ hok hnl f5 (inT_below h1 hbx) (inRu_below hg hbx))
  have HIG := Lib.hid hg
  have HIU := Lib.hid h2
  have HBX := Lib.hid hbx
  have HR := Lib.hid (fun k hk => @gOk_rule l hok k hk)
  have HBD := Lib.hid (cdT_bd (f := fun x => x) (fun x hx => ⟨hx, Int.le_refl _⟩) H)
  have HLB : Hid (∀ p, p < l.length → (gLn l).getD p 0 ≤ 1000000000000000) := fun p hp => by
    have g := (gOk_some hok).2.2
    rw [List.getD, List.getElem?_eq_getElem (by omega)]
    exact (g.2 _ (List.getElem_mem (by omega))).2
  have HMB := Lib.hid H.mp
  have HMR := Lib.hid (fun p (h : p < l.length) => smT_row a.nx l (k := l.length) h)
  have HOU : Hid (∀ s, s < a.nx.length → (uA a.ou s).length = 4) := fun s hs => (f6 s (by omega)).1
  have HOB := Lib.hid H.op
  have hl400 := (gOk_some hok).1
  have HNT : Hid (cdN (fun x => x) a l = if l.length = 0 then 0 else (tA (cdT (fun x => x) (gSm a.nx l) a.ou a.nx.length l l.length) (l.length - 1)).getD p0 0) := by
    show cdN (fun x => x) a l = _
    rw [cdN, hp0]; simp
  have HP0 := Lib.hid hp0
  have HOL := Lib.hid hol
  clear h1 h2 hg hok hco hbx f1 f2 f3 f4 f5 f6 H hp0 hol
  generalize cdN (fun x => x) a l = res at *
  unfold gSm at *
  go_enter Try.func118, Try.ntmps118
  go_wp2_with fail
  refine (HM.out).mono ?_
  rintro e w1 ⟨vm, rfl, hom, hb1⟩
  have hb0 := HBX.out.trans (hb1.mono HBX.out.size)
  have c1 : w1.cell? ⟨w.heap.size, 1, none⟩ = some (.int .i64 a.sa) := by rw [hb1.cell (by first | (simp; done) | (simp; omega))]; simp [go_sem]
  have c2 : w1.cell? ⟨w.heap.size, 2, none⟩ = some (.slice an a.nx.length cn) := by rw [hb1.cell (by first | (simp; done) | (simp; omega))]; simp [go_sem]
  have c3 : w1.cell? ⟨w.heap.size, 3, none⟩ = some (.slice au a.ou.length cu) := by rw [hb1.cell (by first | (simp; done) | (simp; omega))]; simp [go_sem]
  have c4 : w1.cell? ⟨w.heap.size + 1, 0, none⟩ = some (.slice ag l.length cg) := by rw [hb1.cell (by first | (simp; done) | (simp; omega))]; simp [go_sem]
  have hmi := ownT_in hom
  obtain ⟨am, cm, rfl⟩ := inT_sl hmi
  have HMI := Lib.hid hmi
  have HIN := Lib.hid (inRu_below HIG.out hb0)
  have HNU := Lib.hid (inU_below HIU.out hb0)
  have HB0 := Lib.hid hb0
  rw [HP0.out] at c1
  have hsz1 : w.heap.size + 1 < w1.heap.size := World.block_lt_of_cell? _ _ c4
  have hsz0 : w.heap.size < w1.heap.size := World.block_lt_of_cell? _ _ c1
  have hml : (smT a.nx l l.length).length = l.length := smT_len a.nx l l.length
  clear hom hmi hb0 hb1 HM HIG HIU HBX
  generalize smT a.nx l l.length = MT at *
  rw [hml]
  have HML := Lib.hid hml
  clear hml
  go_wp2
  go_loopw [6, 8, 9, 10, 19, 27] (fun o _ _ _ i _ wr => Below w1.heap.size w1 wr ∧ ∃ k : Nat, k ≤ l.length ∧ i = .int .i64 k ∧ OwnT w1.heap.size wr o (cdT (fun x => x) MT a.ou a.nx.length l k)) (fun _ _ _ _ i _ _ => l.length - (intOf i).toNat)
  case atStart => exact ⟨(Below.refl _ _).alloc (Nat.le_refl _) _, 0, by omega, rfl, by have := ownT_nil (w := w1) (base := w1.heap.size) (Nat.le_refl _); simpa [cdT] using this⟩
  case round =>
    obtain ⟨hb, k, hk, rfl, hown⟩ := hrel
    have HB := Lib.hid hb
    by_cases hlt : k < l.length
    · obtain ⟨b, off, rfl, hbl, hc0, hc1, hc2⟩ := inRu_at (inRu_below HIN.out hb) hlt
      have hin : ((k : Nat) : Int) < l.length := by omega
      have HT := Lib.hid (show cdT (fun x => x) MT a.ou a.nx.length l (k + 1) = cdT (fun x => x) MT a.ou a.nx.length l k ++ [cdR (fun x => x) MT a.ou (cdT (fun x => x) MT a.ou a.nx.length l k) (ruA l k) a.nx.length] from rfl)
      have htl := cdT_len (fun x => x) MT a.ou a.nx.length l k
      have HTR := Lib.hid (fun p (h : p < k) => cdT_row (fun x => x) MT a.ou a.nx.length l h)
      have HBD2 := Lib.hid (fun p s h hs => HBD.out k p s h (by omega) hs)
      have HRU := Lib.hid (HR.out k hlt)
      have HE : Hid (∀ s, cdR (fun x => x) MT a.ou (cdT (fun x => x) MT a.ou a.nx.length l k) (ruA l k) (s + 1) = cdR (fun x => x) MT a.ou (cdT (fun x => x) MT a.ou a.nx.length l k) (ruA l k) s ++ [cdE (fun x => x) MT a.ou (cdT (fun x => x) MT a.ou a.nx.length l k) (ruA l k) s]) := fun s => rfl
      have HEp : Hid ((ruA l k).1.size = 0 → ∀ s, cdE (fun x => x) MT a.ou (cdT (fun x => x) MT a.ou a.nx.length l k) (ruA l k) s = (tA (cdT (fun x => x) MT a.ou a.nx.length l k) (ruA l k).2.1.toNat).getD s 0 + (tA (cdT (fun x => x) MT a.ou a.nx.length l k) (ruA l k).2.2.toNat).getD ((tA MT (ruA l k).2.1.toNat).getD s 0).toNat 0) := fun h s => by rw [cdE, if_pos h]
      have HEl : Hid ((ruA l k).1.size ≠ 0 → ∀ s, cdE (fun x => x) MT a.ou (cdT (fun x => x) MT a.ou a.nx.length l k) (ruA l k) s = (((uA a.ou s).getD (lcI (ruA l k).1) ⟨#[]⟩).size : Int)) := fun h s => by rw [cdE, if_neg h]
      have HL := Lib.hid (cdR_len (fun x => x) MT a.ou (cdT (fun x => x) MT a.ou a.nx.length l k) (ruA l k))
      have HL0 : Hid (cdR (fun x => x) MT a.ou (cdT (fun x => x) MT a.ou a.nx.length l k) (ruA l k) 0 = []) := rfl
      have hns : w1.heap.size ≤ wr.heap.size := hb.size
      have HOWN := Lib.hid hown
      have HNW := Lib.hid (inU_below HNU.out hb)
      have HMW := Lib.hid (inT_below (by have := HMI.out; exact this) hb)
      have d2 := cell_later hb c2
      have d3 := cell_later hb c3
      have hwo : w.heap.size < wr.heap.size := World.block_lt_of_cell? _ _ d2
      clear hb hown
      obtain ⟨wo, rfl⟩ : ∃ wo, wo = wr := ⟨_, rfl⟩
      obtain ⟨ao, co, rfl⟩ := inT_sl (ownT_in HOWN.out)
      rw [htl]
      generalize cdE (fun x => x) MT a.ou (cdT (fun x => x) MT a.ou a.nx.length l k) (ruA l k) = sE at *
      generalize cdR (fun x => x) MT a.ou (cdT (fun x => x) MT a.ou a.nx.length l k) (ruA l k) = sR at *
      generalize cdT (fun x => x) MT a.ou a.nx.length l k = T at *
      generalize (ruA l k).1 = x1 at *
      generalize (ruA l k).2.1 = x2 at *
      generalize (ruA l k).2.2 = x3 at *
      go_wp2
      go_loopw [9, 10, 27] (fun o _ i wr => Below (wo.heap.size + 1) (wo.alloc (.cells #[.string x1, .int .i64 x2, .int .i64 x3] 131)) wr ∧ ∃ s : Nat, s ≤ a.nx.length ∧ i = .int .i64 s ∧ wr.ownsRow (wo.heap.size + 1) 2 1 o s (iv (sR s))) (fun _ _ i _ => a.nx.length - (intOf i).toNat)
      case atStart => exact ⟨(Below.refl _ _).alloc (by simp) _, 0, by omega, rfl, by rw [HL0.out]; have := own_nil64 (w := wo.alloc (.cells #[.string x1, .int .i64 x2, .int .i64 x3] 131)) (base := wo.heap.size + 1) (by simp); simpa using this⟩
      case round =>
        obtain ⟨hb2, s, hs, rfl, hro⟩ := hrel
        by_cases hls : s < a.nx.length
        · have hlsI : ((s : Nat) : Int) < a.nx.length := by omega
          have hbq := below_box (w := wo) (o := .cells #[.string x1, .int .i64 x2, .int .i64 x3] 131) (w1 := wr) (by simpa using hb2)
          have r0 : wr.cell? ⟨wo.heap.size, 0, none⟩ = some (.string x1) := by rw [hb2.cell (by simp)]; simp [go_sem]
          have r1 : wr.cell? ⟨wo.heap.size, 1, none⟩ = some (.int .i64 x2) := by rw [hb2.cell (by simp)]; simp [go_sem]
          have r2 : wr.cell? ⟨wo.heap.size, 2, none⟩ = some (.int .i64 x3) := by rw [hb2.cell (by simp)]; simp [go_sem]
          have HRO := Lib.hid hro
          have HBQ := Lib.hid hbq
          have HB2 := Lib.hid hb2
          have hqs : wo.heap.size + 1 ≤ wr.heap.size := by have := hb2.size; simpa using this
          clear hro hbq hb2 hc0 hc1 hc2 d2
          by_cases hz : x1.size = 0
          · have HIS := Lib.hid (fun w => i_isPair x1 x2 x3 w)
            have hd : decide (x1.size = 0) = true := by simpa using hz
            rw [hd] at HIS
            obtain ⟨q1, q2, q3, q4⟩ := HRU.out.1 hz
            obtain ⟨p, rfl⟩ := Int.eq_ofNat_of_zero_le q1
            obtain ⟨q, rfl⟩ := Int.eq_ofNat_of_zero_le q3
            have hpk : p < k := by omega
            have hqk : q < k := by omega
            have HV := Lib.hid (HEp.out hz s)
            simp only [Int.toNat_natCast] at HV
            clear hd hz q1 q2 q3 q4 d3
            go_wp2_with fail
            refine (HIS.out _).mono ?_
            rintro e w2 ⟨rfl, hb3⟩
            have s1 := cell_later hb3 r1
            have s2 := cell_later hb3 r2
            have hb4 := HBQ.out.trans (hb3.mono HBQ.out.size)
            have hti := ownT_in HOWN.out
            obtain ⟨bt, ot, rfl, hlt0, hall⟩ := inT_all hti (by omega)
            have hmi := HMW.out
            have hml := HML.out
            obtain ⟨bm, om, rfl, hltm, hmll⟩ := inT_all hmi (by omega)
            obtain ⟨rp, cp, hcp, hip⟩ := hall p (by omega)
            obtain ⟨rq, cq, hcq, hiq⟩ := hall q (by omega)
            obtain ⟨rm, cm2, hcm, him⟩ := hmll p (by omega)
            clear hml
            obtain ⟨gp, fp, rfl, hlt1, hvp⟩ := inI_at hip (show s < (tA T p).length by rw [HTR.out p hpk]; exact hls)
            obtain ⟨gm, fm, rfl, hlt3, hvm⟩ := inI_at him (show s < (tA MT p).length by rw [HMR.out p (by omega)]; exact hls)
            have hbm := HMB.out p s (by omega) hls
            obtain ⟨m, hm⟩ := Int.eq_ofNat_of_zero_le hbm.1
            have hmlt : m < a.nx.length := by omega
            obtain ⟨gq, fq, rfl, hlt2, hvq⟩ := inI_at hiq (show m < (tA T q).length by rw [HTR.out q hqk]; exact hmlt)
            rw [hm] at hvm
            have HEV := Lib.hid (HE.out s)
            rw [HV.out, hm] at HEV
            simp only [Int.toNat_natCast] at HEV
            rw [HTR.out p hpk] at hcp
            rw [HTR.out q hqk] at hcq
            rw [HMR.out p (by omega)] at hcm
            have hcp := cell_later hb4 hcp
            have hcq := cell_later hb4 hcq
            have hcm := cell_later hb4 hcm
            have hvp := cell_later hb4 hvp
            have hvq := cell_later hb4 hvq
            have hvm := cell_later hb4 hvm
            have hpI : ((p : Nat) : Int) < k := by omega
            have hqI : ((q : Nat) : Int) < k := by omega
            have hpM : ((p : Nat) : Int) < l.length := by omega
            have hmI : ((m : Nat) : Int) < a.nx.length := by omega
            have hro2 := owns_after HRO.out hb3
            have HB5 := Lib.hid (HB2.out.trans (hb3.mono (by simpa using hqs)))
            have hs3 := hb3.size
            have g1 := HBD2.out p s hpk hls
            have g2 := HBD2.out q m hqk hmlt
            have g3 := HLB.out p (by omega)
            have g4 := HLB.out q (by omega)
            obtain ⟨z, hz⟩ : ∃ z, (tA T p).getD s 0 + (tA T q).getD m 0 = z := ⟨_, rfl⟩
            have hwz : IntKind.i64.wrap ((tA T p).getD s 0 + (tA T q).getD m 0) = z := by rw [← hz]; exact IntWalk.i64_in _ (by omega)
            rw [hz] at HEV
            clear hti hall hip hiq hbm hm HV hb3 hb4 HIS r0 r1 r2 g1 g2 g3 g4 him hmll hmi hz
            generalize (tA T p).getD s 0 = z1 at *
            generalize (tA T q).getD m 0 = z2 at *
            go_wp2
            go_region_held3 (fun w' => w'.cell? ⟨wo.heap.size, 1, none⟩ = some (.int .i64 p) ∧ w'.cell? ⟨wo.heap.size, 2, none⟩ = some (.int .i64 q) ∧ w'.cell? ⟨bt, ot + p, none⟩ = some (.slice (some ⟨gp, fp, none⟩) a.nx.length cp) ∧ w'.cell? ⟨bt, ot + q, none⟩ = some (.slice (some ⟨gq, fq, none⟩) a.nx.length cq) ∧ w'.cell? ⟨bm, om + p, none⟩ = some (.slice (some ⟨gm, fm, none⟩) a.nx.length cm2) ∧ w'.cell? ⟨gp, fp + s, none⟩ = some (.int .i64 z1) ∧ w'.cell? ⟨gm, fm + s, none⟩ = some (.int .i64 m) ∧ w'.cell? ⟨gq, fq + m, none⟩ = some (.int .i64 z2))
              (first | go_keep | (go_split_ands; refine ⟨?_, ?_, ?_, ?_, ?_, ?_, ?_, ?_⟩ <;> (rw [hb7.cell (by first | (simp; done) | (simp; omega))]; assumption)))
              ((refine step_app_i64 (by rfl) _ _ (by rfl) (wo.heap.size + 1) _ u9 s (iv (sR s)) z (by rfl) (by first | exact ownsRow_drew (hro2.alloc _) | exact (ownsRow_drew hro2).alloc _ | exact ownsRow_drew ((ownsRow_drew hro2).alloc _)) w2.heap.size (by rfl) (by simp [go_sem, hwz]) (by omega) (by simp; omega) ?_; intro v' w4 ho4 hb7 hsz4 hgr4))
            have hb8 : Below (wo.heap.size + 1) w2 w4 := by
              refine Below.trans ?_ hb7
              first | exact ((Below.refl _ _).alloc (by omega) _).drew | exact ((Below.refl _ _).drew.alloc (by simp; omega) _) | exact ((Below.refl _ _).drew.alloc (by simp; omega) _).drew
            have HB6 := Lib.hid (HB5.out.trans hb8)
            clear HB5 hcp hcq hcm hvp hvq hvm s1 s2 hb7 hb8
            go_wp2
            go_roundw
            case rel => exact ⟨HB6.out, s + 1, by omega, by go_num, by rw [HEV.out]; simpa [iv] using ho4⟩
            case measure => first | (simp [intOf]; done) | (simp [intOf]; omega)
          · have HIS := Lib.hid (fun w => i_isPair x1 x2 x3 w)
            have hd : decide (x1.size = 0) = false := by simpa using hz
            rw [hd] at HIS
            obtain ⟨h1, hv, h2, h3⟩ := HRU.out.2 hz
            have h0 : 0 < x1.size := by omega
            obtain ⟨hc4, hcv⟩ := lcI_ok h1 hv h0
            obtain ⟨c, hc⟩ : ∃ c, lcI x1 = c := ⟨_, rfl⟩
            have HEV := Lib.hid (HE.out s)
            rw [HEl.out hz s, hc] at HEV
            rw [hc] at hc4 hcv
            have hci : (c : Int) < 4 := by omega
            have hx0 : (x1[0].toNat : Int) = 97 + (c : Int) := by omega
            have hw8 : IntKind.u8.wrap (97 + (c : Int) - 97) = (c : Int) := by rw [show 97 + (c : Int) - 97 = (c : Int) by omega]; exact wrap_u8 (by omega) (by omega)
            have hw9 : IntKind.u8.wrap (c : Int) = (c : Int) := wrap_u8 (by omega) (by omega)
            clear hd hz h2 h3 hv hc hcv
            go_wp2_with fail
            refine (HIS.out _).mono ?_
            rintro e w2 ⟨rfl, hb3⟩
            have s0 := cell_later hb3 r0
            have hb4 := HBQ.out.trans (hb3.mono HBQ.out.size)
            have s3 := cell_later hb4 d3
            obtain ⟨bt, ot, rfl, hlt0, hall⟩ := inU_all HNW.out (by have := HOL.out; omega)
            obtain ⟨rp, cp, hcp, hip⟩ := hall s (by have := HOL.out; omega)
            have hr4 := HOU.out s hls
            obtain ⟨gp, fp, rfl, hlt1, hvp⟩ := inS_at hip (show c < (uA a.ou s).length by omega)
            have h6 := HOB.out s hls c hc4
            have hol := HOL.out
            rw [hr4] at hcp
            have hcp := cell_later hb4 hcp
            have hvp := cell_later hb4 hvp
            have hro2 := owns_after HRO.out hb3
            have HB5 := Lib.hid (HB2.out.trans (hb3.mono (by simpa using hqs)))
            have hs3 := hb3.size
            have hlsU : ((s : Nat) : Int) < a.ou.length := by omega
            clear hol
            clear hall hip hb3 hb4 HIS r0 r1 r2 d3
            generalize (uA a.ou s).getD c ⟨#[]⟩ = z at *
            go_wp2
            go_region_held3 (fun w' => w'.cell? ⟨w.heap.size, 3, none⟩ = some (.slice (some ⟨bt, ot, none⟩) a.ou.length cu) ∧ w'.cell? ⟨wo.heap.size, 0, none⟩ = some (.string x1) ∧ w'.cell? ⟨bt, ot + s, none⟩ = some (.slice (some ⟨gp, fp, none⟩) 4 cp) ∧ w'.cell? ⟨gp, fp + c, none⟩ = some (.string z))
              (first | go_keep | (go_split_ands; refine ⟨?_, ?_, ?_, ?_⟩ <;> (rw [hb7.cell (by first | (simp; done) | (simp; omega))]; assumption)))
              (first | (go_at_call 110; with_reducible refine (i_size z _).mono ?_; rintro e w' ⟨rfl, rfl⟩) | (refine step_app_i64 (by rfl) _ _ (by rfl) (wo.heap.size + 1) _ u9 s (iv (sR s)) (z.size : Int) (by rfl) (by first | exact ownsRow_drew (hro2.alloc _) | exact (ownsRow_drew hro2).alloc _ | exact ownsRow_drew ((ownsRow_drew hro2).alloc _)) w2.heap.size (by rfl) (by simp [go_sem]) (by omega) (by simp; omega) ?_; intro v' w4 ho4 hb7 hsz4 hgr4))
            have hb8 : Below (wo.heap.size + 1) w2 w4 := by
              refine Below.trans ?_ hb7
              first | exact ((Below.refl _ _).alloc (by omega) _).drew | exact ((Below.refl _ _).drew.alloc (by simp; omega) _) | exact ((Below.refl _ _).drew.alloc (by simp; omega) _).drew
            have HB6 := Lib.hid (HB5.out.trans hb8)
            clear HB5 hcp hvp s0 s3 hb7 hb8
            go_wp2
            go_roundw
            case rel => exact ⟨HB6.out, s + 1, by omega, by go_num, by rw [HEV.out]; simpa [iv] using ho4⟩
            case measure => first | (simp [intOf]; done) | (simp [intOf]; omega)
        · have es : s = a.nx.length := by omega
          subst es
          have hls' : ¬ (a.nx.length : Int) < a.nx.length := by omega
          have hbq := below_box (w := wo) (o := .cells #[.string x1, .int .i64 x2, .int .i64 x3] 131) (w1 := wr) (by simpa using hb2)
          obtain ⟨ar, cr, rfl, -, -⟩ := owns_sl3 hro
          have hown1 : OwnT w1.heap.size wo (.slice ao k co) T := by have := HOWN.out; rwa [htl] at this
          have hro1 := own_len (m := (sR a.nx.length).length) (owns_weak (base' := wo.heap.size) hro (by omega)) (HL.out _)
          have hbq1 := Lib.hid hbq
          have hwb := hbq.size
          clear hls hb2 hbq hc0 hc1 hc2 d2 d3
          go_wp2_with (at_builtin; refine appT rfl (.tmp 75) (.tmp 77) rfl w1.heap.size wo wr _ _ _ T _ (by rfl) hown1 hbq1.out hro1 (by rfl) (by simp) (by omega) (by omega) ?_; intro v' w4 ho4 hb4 hsz4)
          go_roundw
          case rel => exact ⟨(HB.out.trans (hbq1.out.mono hns)).trans hb4, k + 1, by omega, by go_num, by rw [HT.out]; exact ho4⟩
          case measure => first | (simp [intOf]; done) | (simp [intOf]; omega)
    · have ek : k = l.length := by omega
      have hbz : Hid (Below w.heap.size w wr) := HB0.out.trans (hb.mono HB0.out.size)
      have d1 := cell_later hb c1
      by_cases hz : l.length = 0
      · rw [if_pos hz] at HNT
        have hk0 : k = 0 := by omega
        subst hk0
        obtain ⟨ao, co, rfl⟩ := inT_sl (ownT_in hown)
        have htl := cdT_len (fun x => x) MT a.ou a.nx.length l 0
        rw [htl]
        rw [hz] at *
        obtain rfl : res = 0 := HNT.out
        clear hlt ek hb hown HNT
        go_wp2
        go_ret
        exact ⟨rfl, hbz.out⟩
      · rw [if_neg hz] at HNT
        subst ek
        obtain ⟨ao, co, rfl⟩ := inT_sl (ownT_in hown)
        have htl := cdT_len (fun x => x) MT a.ou a.nx.length l l.length
        obtain ⟨bt, ot, rfl, hlt0, hall⟩ := inT_all (ownT_in hown) (by omega)
        obtain ⟨rp, cp, hcp, hip⟩ := hall (l.length - 1) (by omega)
        obtain ⟨gp, fp, rfl, hlt1, hvp⟩ := inI_at hip (show p0 < (tA (cdT (fun x => x) MT a.ou a.nx.length l l.length) (l.length - 1)).length by rw [cdT_row (fun x => x) MT a.ou a.nx.length l (by omega)]; exact hp1)
        rw [cdT_row (fun x => x) MT a.ou a.nx.length l (by omega)] at hcp
        rw [← HNT.out] at hvp
        rw [htl]
        obtain ⟨j, hj⟩ : ∃ j, l.length - 1 = j := ⟨_, rfl⟩
        rw [hj] at hcp
        have hij : (l.length : Int) - 1 = (j : Int) := by omega
        have hjl : (j : Int) < l.length := by omega
        have hj0 : ((l.length : Int) == 0) = false := by rw [beq_eq_false_iff_ne]; omega
        have hpl : (p0 : Int) < a.nx.length := by omega
        have hk' : ¬ (l.length : Int) < l.length := by omega
        clear hb hown HNT hall hip hlt hj hz htl
        go_wp2
        go_big_quiet (fail)
        go_wp2
        go_ret
        exact ⟨rfl, below_drewN hbz.out _⟩
end Go.Proofs.Ytefcdkgfabaffaa

/- The reference's tables: how often a state is met, and behind how many letters first. -/
import Derived.Test.YtefcdkgfabaffaaY4
import Derived.Test.YtefcdkgfabaffaaKF
namespace Go.Proofs.Ytefcdkgfabaffaa
open Go.ChangeShapes Go.WideShapes Go.RowKit
set_option linter.unusedVariables false
set_option linter.unusedSimpArgs false
set_option maxHeartbeats 1000000
set_option maxRecDepth 100000
theorem gl_bd {l : List Ru} (hok : gOk l = true) {p : Nat} (hp : p < l.length) : 0 ≤ (gLn l).getD p 0 ∧ (gLn l).getD p 0 ≤ 1000000000000000 := by
  have g := (gOk_some hok).2.2
  rw [List.getD, List.getElem?_eq_getElem (by omega)]
  have := (g.2 _ (List.getElem_mem (show p < (gLn l).length by omega)))
  simp only [Option.getD_some]
  omega
theorem tl_bd {nx : Tb} {l : List Ru} (hn : nxP nx) (hok : gOk l = true) {t : Nat} (f k s : Nat) (h : k < f) (hf : f ≤ l.length) (hs : s < nx.length) :
    0 ≤ (tA (etT (tlE l (gSm nx l) t) nx.length f) k).getD s 0 ∧ (tA (etT (tlE l (gSm nx l) t) nx.length f) k).getD s 0 ≤ (gLn l).getD k 0 := by
  rw [tl_law hn hok f k s h hf hs]
  have h1 := cwW_bd nx t (exF l l.length k) s
  have h2 := exF_len hok l.length k (by omega) (by omega)
  omega
theorem fs_bd {nx : Tb} {l : List Ru} (hn : nxP nx) (hok : gOk l = true) {t : Nat} (f k s : Nat) (h : k < f) (hf : f ≤ l.length) (hs : s < nx.length) :
    -1 ≤ (tA (etT (fsE l (gSm nx l) t) nx.length f) k).getD s 0 ∧ (tA (etT (fsE l (gSm nx l) t) nx.length f) k).getD s 0 ≤ (gLn l).getD k 0 := by
  have h1 := fs_law hn hok (t := t) f k s h hf hs
  have h2 := exF_len hok l.length k (by omega) (by omega)
  have h3 := gl_bd hok (show k < l.length by omega)
  rcases h1 with ⟨e, -⟩ | ⟨-, e⟩
  · omega
  · have := e.1; have := e.2.1; omega
theorem gLn_len3 {l : List Ru} (hok : gOk l = true) : (gLn l).length = l.length := (gOk_some hok).2.2.1
theorem s_l04Tallies (v vm : Value) (bq oq cap : Nat) (ag : Option Addr) (nx : Tb) (l : List Ru) (t : Nat) (w : World) (hok : gOk l = true) (hnl : nx.length ≤ 24) (hnx : nxP nx) (hin : InT w v nx) (hm : InT w vm (gSm nx l)) (hcell : w.cell? ⟨bq, oq, none⟩ = some (.slice ag l.length cap)) (hg : InRu w (.slice ag l.length cap) l) :
    Calls Try.prog 107 #[v, .pointer (some ⟨bq, oq, none⟩), vm, .int .i64 (t : Int)] w fun e w' => ∃ v', e = .returned v' ∧ OwnT w.heap.size w' v' (etT (tlE l (gSm nx l) t) nx.length l.length) ∧ Below w.heap.size w w' := by
  obtain ⟨an, cn, rfl⟩ := inT_sl hin
  obtain ⟨am, cm, rfl⟩ := inT_sl hm
  have HIN := Lib.hid hg
  have HMI := Lib.hid hm
  have HR := Lib.hid (fun k hk => @gOk_rule l hok k hk)
  have HBD := Lib.hid (fun f k s h hf hs => @tl_bd nx l hnx hok t f k s h hf hs)
  have HLB := Lib.hid (fun p hp => @gl_bd l hok p hp)
  have HMB : Hid (∀ p s, p < l.length → s < nx.length → 0 ≤ (tA (gSm nx l) p).getD s 0 ∧ (tA (gSm nx l) p).getD s 0 < nx.length) := fun p s hp hs => smT_bd hnx hok l.length p s hp (Nat.le_refl _) hs
  have HMR : Hid (∀ p, p < l.length → (tA (gSm nx l) p).length = nx.length) := fun p hp => smT_row nx l hp
  have HML : Hid ((gSm nx l).length = l.length) := smT_len nx l l.length
  have hl400 := (gOk_some hok).1
  have hsz1 : bq < w.heap.size := World.block_lt_of_cell? _ _ hcell
  have HET : Hid (∀ k, etT (tlE l (gSm nx l) t) nx.length (k + 1) = etT (tlE l (gSm nx l) t) nx.length k ++ [etR (tlE l (gSm nx l) t) (etT (tlE l (gSm nx l) t) nx.length k) k nx.length]) := fun k => rfl
  clear hin hg hok hm
  generalize hM : gSm nx l = MT at *
  clear hM
  go_enter Try.func107, Try.ntmps107
  go_wp2
  go_loopw [9, 10, 11, 12, 13, 14] (fun o i _ _ _ _ wr => Below w.heap.size w wr ∧ ∃ k : Nat, k ≤ l.length ∧ i = .int .i64 k ∧ OwnT w.heap.size wr o (etT (tlE l MT t) nx.length k)) (fun _ i _ _ _ _ _ => l.length - (intOf i).toNat)
  case atStart => exact ⟨(Below.refl _ _).alloc (Nat.le_refl _) _, 0, by omega, rfl, by have := ownT_nil (w := w) (base := w.heap.size) (Nat.le_refl _); simpa [etT] using this⟩
  case round =>
    obtain ⟨hb, k, hk, rfl, hown⟩ := hrel
    have HB := Lib.hid hb
    have d4 := cell_later hb hcell
    by_cases hlt : k < l.length
    · obtain ⟨b, off, hag, hbl, hc0, hc1, hc2⟩ := inRu_at (inRu_below HIN.out hb) hlt
      subst hag
      have hin : ((k : Nat) : Int) < l.length := by omega
      have HT := Lib.hid (HET.out k)
      have htl := etT_len (tlE l MT t) nx.length k
      have HTR := Lib.hid (fun p (h : p < k) => etT_row (tlE l MT t) nx.length h)
      have HBD2 := Lib.hid (fun p s h hs => HBD.out k p s h (by omega) hs)
      have HRU := Lib.hid (HR.out k hlt)
      have HE : Hid (∀ s, etR (tlE l MT t) (etT (tlE l MT t) nx.length k) k (s + 1) = etR (tlE l MT t) (etT (tlE l MT t) nx.length k) k s ++ [tlE l MT t (etT (tlE l MT t) nx.length k) k s]) := fun s => rfl
      have HEp : Hid ((ruA l k).1.size = 0 → ∀ s, tlE l MT t (etT (tlE l MT t) nx.length k) k s = (tA (etT (tlE l MT t) nx.length k) (ruA l k).2.1.toNat).getD s 0 + (tA (etT (tlE l MT t) nx.length k) (ruA l k).2.2.toNat).getD ((tA MT (ruA l k).2.1.toNat).getD s 0).toNat 0) := fun h s => by rw [tlE, if_pos h]
      have HEl : Hid ((ruA l k).1.size ≠ 0 → ∀ s, tlE l MT t (etT (tlE l MT t) nx.length k) k s = if (tA MT k).getD s 0 = (t : Int) then 1 else 0) := fun h s => by rw [tlE, if_neg h]
      have HL := Lib.hid (etR_len (tlE l MT t) (etT (tlE l MT t) nx.length k) k)
      have HL0 : Hid (etR (tlE l MT t) (etT (tlE l MT t) nx.length k) k 0 = []) := rfl
      have hns : w.heap.size ≤ wr.heap.size := hb.size
      have HOWN := Lib.hid hown
      have HMW := Lib.hid (inT_below HMI.out hb)
      have hwg : bq < wr.heap.size := World.block_lt_of_cell? _ _ d4
      clear hb hown
      obtain ⟨wo, rfl⟩ : ∃ wo, wo = wr := ⟨_, rfl⟩
      obtain ⟨ao, co, rfl⟩ := inT_sl (ownT_in HOWN.out)
      rw [htl]
      generalize tlE l MT t (etT (tlE l MT t) nx.length k) k = sE at *
      generalize etR (tlE l MT t) (etT (tlE l MT t) nx.length k) k = sR at *
      generalize etT (tlE l MT t) nx.length k = T at *
      generalize (ruA l k).1 = x1 at *
      generalize (ruA l k).2.1 = x2 at *
      generalize (ruA l k).2.2 = x3 at *
      go_wp2
      go_loopw [12, 13, 14] (fun o i _ wr => Below (wo.heap.size + 1) (wo.alloc (.cells #[.string x1, .int .i64 x2, .int .i64 x3] 131)) wr ∧ ∃ s : Nat, s ≤ nx.length ∧ i = .int .i64 s ∧ wr.ownsRow (wo.heap.size + 1) 2 1 o s (iv (sR s))) (fun _ i _ _ => nx.length - (intOf i).toNat)
      case atStart => exact ⟨(Below.refl _ _).alloc (by simp) _, 0, by omega, rfl, by rw [HL0.out]; have := own_nil64 (w := wo.alloc (.cells #[.string x1, .int .i64 x2, .int .i64 x3] 131)) (base := wo.heap.size + 1) (by simp); simpa using this⟩
      case round =>
        obtain ⟨hb2, s, hs, rfl, hro⟩ := hrel
        have hbq := below_box (w := wo) (o := .cells #[.string x1, .int .i64 x2, .int .i64 x3] 131) (w1 := wr) (by simpa using hb2)
        by_cases hls : s < nx.length
        · have hlsI : ((s : Nat) : Int) < nx.length := by omega
          have r0 : wr.cell? ⟨wo.heap.size, 0, none⟩ = some (.string x1) := by rw [hb2.cell (by simp)]; simp [go_sem]
          have r1 : wr.cell? ⟨wo.heap.size, 1, none⟩ = some (.int .i64 x2) := by rw [hb2.cell (by simp)]; simp [go_sem]
          have r2 : wr.cell? ⟨wo.heap.size, 2, none⟩ = some (.int .i64 x3) := by rw [hb2.cell (by simp)]; simp [go_sem]
          have HRO := Lib.hid hro
          have HB2 := Lib.hid hb2
          have hqs : wo.heap.size + 1 ≤ wr.heap.size := by have := hb2.size; simpa using this
          obtain ⟨bo, om, hbo, hltm, hmll⟩ := inT_all HMW.out (by have := HML.out; omega)
          subst hbo
          by_cases hz : x1.size = 0
          · obtain ⟨q1, q2, q3, q4⟩ := HRU.out.1 hz
            obtain ⟨p, rfl⟩ := Int.eq_ofNat_of_zero_le q1
            obtain ⟨q, rfl⟩ := Int.eq_ofNat_of_zero_le q3
            have hpk : p < k := by omega
            have hqk : q < k := by omega
            have HV := Lib.hid (HEp.out hz s)
            simp only [Int.toNat_natCast] at HV
            obtain rfl := size_zero hz
            clear q1 q2 q3 q4 hz d4
            obtain ⟨bt, ot, hbt, hlt0, hall⟩ := inT_all (ownT_in HOWN.out) (by omega)
            subst hbt
            obtain ⟨rp, cp, hcp, hip⟩ := hall p (by omega)
            obtain ⟨rq, cq, hcq, hiq⟩ := hall q (by omega)
            obtain ⟨rm, cm2, hcm, him⟩ := hmll p (by have := HML.out; omega)
            obtain ⟨gp, fp, rfl, hlt1, hvp⟩ := inI_at hip (show s < (tA T p).length by rw [HTR.out p hpk]; exact hls)
            obtain ⟨gm, fm, rfl, hlt3, hvm⟩ := inI_at him (show s < (tA MT p).length by rw [HMR.out p (by omega)]; exact hls)
            have hbm := HMB.out p s (by omega) hls
            obtain ⟨m, hm⟩ := Int.eq_ofNat_of_zero_le hbm.1
            have hmlt : m < nx.length := by omega
            obtain ⟨gq, fq, rfl, hlt2, hvq⟩ := inI_at hiq (show m < (tA T q).length by rw [HTR.out q hqk]; exact hmlt)
            rw [hm] at hvm
            have HEV := Lib.hid (HE.out s)
            rw [HV.out, hm] at HEV
            simp only [Int.toNat_natCast] at HEV
            rw [HTR.out p hpk] at hcp
            rw [HTR.out q hqk] at hcq
            rw [HMR.out p (by omega)] at hcm
            have hcp := cell_later hbq hcp
            have hcq := cell_later hbq hcq
            have hcm := cell_later hbq hcm
            have hvp := cell_later hbq hvp
            have hvq := cell_later hbq hvq
            have hvm := cell_later hbq hvm
            have hpI : ((p : Nat) : Int) < k := by omega
            have hqI : ((q : Nat) : Int) < k := by omega
            have hpM : ((p : Nat) : Int) < MT.length := by have := HML.out; omega
            have hmI : ((m : Nat) : Int) < nx.length := by omega
            have g1 := HBD2.out p s hpk hls
            have g2 := HBD2.out q m hqk hmlt
            have g3 := HLB.out p (by omega)
            have g4 := HLB.out q (by omega)
            obtain ⟨z, hz⟩ : ∃ z, (tA T p).getD s 0 + (tA T q).getD m 0 = z := ⟨_, rfl⟩
            have hwz : IntKind.i64.wrap ((tA T p).getD s 0 + (tA T q).getD m 0) = z := by rw [← hz]; exact IntWalk.i64_in _ (by omega)
            rw [hz] at HEV
            clear hall hip hiq hbm hm HV g1 g2 g3 g4 him hmll hz hro hb2 hbq hc0 hc1 hc2
            generalize (tA T p).getD s 0 = z1 at *
            generalize (tA T q).getD m 0 = z2 at *
            go_wp2
            go_big_quiet (fail)
            have hown3 := ownsRow_drewN HRO.out nq
            go_wp2_with (at_builtin; refine app_i64 rfl (.tmp 75) (.tmp 77) rfl (wo.heap.size + 1) _ _ _ _ _ _ rfl hown3 rfl (by simp) (by omega) (by simpa using hqs) ?_; intro v' w4 ho4 hb4 hsz4)
            go_roundw
            case rel => exact ⟨(below_drewN HB2.out nq).trans hb4, s + 1, by omega, by go_num, by rw [HEV.out]; simpa [iv] using ho4⟩
            case measure => first | (simp [intOf]; done) | (simp [intOf]; omega)
          · have hne := neq_empty hz
            have hne2 := not_empty hz
            have hkM : ((k : Nat) : Int) < MT.length := by have := HML.out; omega
            obtain ⟨rm, cm2, hcm, him⟩ := hmll k (by have := HML.out; omega)
            obtain ⟨gm, fm, rfl, hlt3, hvm⟩ := inI_at him (show s < (tA MT k).length by rw [HMR.out k hlt]; exact hls)
            rw [HMR.out k hlt] at hcm
            have hcm := cell_later hbq hcm
            have hvm := cell_later hbq hvm
            have HEV := Lib.hid (HE.out s)
            rw [HEl.out hz s] at HEV
            clear him hmll hz hro hb2 hbq hc0 hc1 hc2 d4
            generalize (tA MT k).getD s 0 = y at *
            by_cases hy : y = (t : Int)
            · have hyb : (y == (t : Int)) = true := by rw [beq_iff_eq]; exact hy
              rw [if_pos hy] at HEV
              clear hy
              go_wp2_with (at_builtin; refine app_i64 rfl (.tmp 75) (.tmp 77) rfl (wo.heap.size + 1) _ _ _ _ _ _ rfl HRO.out rfl (by simp) (by omega) (by simpa using hqs) ?_; intro v' w4 ho4 hb4 hsz4)
              go_roundw
              case rel => exact ⟨HB2.out.trans hb4, s + 1, by omega, by go_num, by rw [HEV.out]; simpa [iv] using ho4⟩
              case measure => first | (simp [intOf]; done) | (simp [intOf]; omega)
            · have hyb : (y == (t : Int)) = false := by rw [beq_eq_false_iff_ne]; exact hy
              rw [if_neg hy] at HEV
              clear hy
              go_wp2_with (at_builtin; refine app_i64 rfl (.tmp 75) (.tmp 77) rfl (wo.heap.size + 1) _ _ _ _ _ _ rfl HRO.out rfl (by simp) (by omega) (by simpa using hqs) ?_; intro v' w4 ho4 hb4 hsz4)
              go_roundw
              case rel => exact ⟨HB2.out.trans hb4, s + 1, by omega, by go_num, by rw [HEV.out]; simpa [iv] using ho4⟩
              case measure => first | (simp [intOf]; done) | (simp [intOf]; omega)
        · have es : s = nx.length := by omega
          subst es
          have hls' : ¬ (nx.length : Int) < nx.length := by omega
          obtain ⟨ar, cr, rfl, -, -⟩ := owns_sl3 hro
          have hown1 : OwnT w.heap.size wo (.slice ao k co) T := by have := HOWN.out; rwa [htl] at this
          have hro1 := own_len (m := (sR nx.length).length) (owns_weak (base' := wo.heap.size) hro (by omega)) (HL.out _)
          have hbq1 := Lib.hid hbq
          have hwb := hbq.size
          clear hls hb2 hbq hc0 hc1 hc2 d4
          go_wp2_with (at_builtin; refine appT rfl (.tmp 79) (.tmp 81) rfl w.heap.size wo wr _ _ _ T _ (by rfl) hown1 hbq1.out hro1 (by rfl) (by simp) (by omega) (by omega) ?_; intro v' w4 ho4 hb4 hsz4)
          go_roundw
          case rel => exact ⟨(HB.out.trans (hbq1.out.mono hns)).trans hb4, k + 1, by omega, by go_num, by rw [HT.out]; exact ho4⟩
          case measure => first | (simp [intOf]; done) | (simp [intOf]; omega)
    · have ek : k = l.length := by omega
      subst ek
      have hk' : ¬ (l.length : Int) < l.length := by omega
      clear hb
      go_wp2
      go_ret
      exact ⟨_, rfl, hown, HB.out⟩
theorem s_l04First (v vl : Value) (bq oq cap B0 : Nat) (ag : Option Addr) (nx : Tb) (l : List Ru) (t : Nat) (w : World) (hok : gOk l = true) (hnl : nx.length ≤ 24) (hnx : nxP nx) (hin : InT w v nx) (hlo : w.ownsRow B0 2 1 vl l.length ((gLn l).map (Value.int .i64))) (hcell : w.cell? ⟨bq, oq, none⟩ = some (.slice ag l.length cap)) (hg : InRu w (.slice ag l.length cap) l) :
    Calls Try.prog 113 #[v, .pointer (some ⟨bq, oq, none⟩), vl, .int .i64 (t : Int)] w fun e w' => ∃ v', e = .returned v' ∧ OwnT w.heap.size w' v' (etT (fsE l (gSm nx l) t) nx.length l.length) ∧ Below w.heap.size w w' := by
  obtain ⟨an, cn, rfl⟩ := inT_sl hin
  obtain ⟨al, cl, rfl, hsl, -⟩ := owns_sl3 hlo
  have HMp := Lib.hid (s_l04Maps (.slice an nx.length cn) bq oq cap ag nx l w hok hnl hnx hin hcell hg)
  have HIN0 := Lib.hid hg
  have HLO := Lib.hid hlo
  have HGLN : Hid ((gLn l).length = l.length) := gLn_len3 hok
  have HR := Lib.hid (fun k hk => @gOk_rule l hok k hk)
  have HBD := Lib.hid (fun f k s h hf hs => @fs_bd nx l hnx hok t f k s h hf hs)
  have HLB := Lib.hid (fun p hp => @gl_bd l hok p hp)
  have HMB : Hid (∀ p s, p < l.length → s < nx.length → 0 ≤ (tA (gSm nx l) p).getD s 0 ∧ (tA (gSm nx l) p).getD s 0 < nx.length) := fun p s hp hs => smT_bd hnx hok l.length p s hp (Nat.le_refl _) hs
  have HMR : Hid (∀ p, p < l.length → (tA (gSm nx l) p).length = nx.length) := fun p hp => smT_row nx l hp
  have HML : Hid ((gSm nx l).length = l.length) := smT_len nx l l.length
  have hl400 := (gOk_some hok).1
  have hsz1 : bq < w.heap.size := World.block_lt_of_cell? _ _ hcell
  have HET : Hid (∀ k, etT (fsE l (gSm nx l) t) nx.length (k + 1) = etT (fsE l (gSm nx l) t) nx.length k ++ [etR (fsE l (gSm nx l) t) (etT (fsE l (gSm nx l) t) nx.length k) k nx.length]) := fun k => rfl
  clear hin hg hok hlo
  go_enter Try.func113, Try.ntmps113
  go_wp2_with fail
  refine HMp.out.mono ?_
  rintro e w1 ⟨vm, rfl, hoM, hbA⟩
  obtain ⟨am, cm, rfl⟩ := inT_sl (ownT_in hoM)
  have HMI := Lib.hid (ownT_in hoM)
  have HBA := Lib.hid hbA
  have HIN := Lib.hid (inRu_below HIN0.out hbA)
  have HLO1 := Lib.hid (owns_after HLO.out hbA)
  have hcell1 := cell_later hbA hcell
  have hsz2 : bq < w1.heap.size := World.block_lt_of_cell? _ _ hcell1
  clear hoM hbA hcell HMp HIN0 HLO hsz1
  obtain ⟨w0, rfl⟩ : ∃ w0, w0 = w := ⟨_, rfl⟩
  obtain ⟨w, rfl⟩ : ∃ w, w = w1 := ⟨_, rfl⟩
  have hcell := hcell1
  clear hcell1
  generalize hM : gSm nx l = MT at *
  have HMT := Lib.hid hM
  clear hM
  go_wp2
  go_loopw [10, 11, 12, 13, 14, 15, 16] (fun o i _ _ _ _ _ wr => Below w.heap.size w wr ∧ ∃ k : Nat, k ≤ l.length ∧ i = .int .i64 k ∧ OwnT w.heap.size wr o (etT (fsE l MT t) nx.length k)) (fun _ i _ _ _ _ _ _ => l.length - (intOf i).toNat)
  case atStart => exact ⟨(Below.refl _ _).alloc (Nat.le_refl _) _, 0, by omega, rfl, by have := ownT_nil (w := w) (base := w.heap.size) (Nat.le_refl _); simpa [etT] using this⟩
  case round =>
    obtain ⟨hb, k, hk, rfl, hown⟩ := hrel
    have HB := Lib.hid hb
    have d4 := cell_later hb hcell
    by_cases hlt : k < l.length
    · obtain ⟨b, off, hag, hbl, hc0, hc1, hc2⟩ := inRu_at (inRu_below HIN.out hb) hlt
      subst hag
      have hin : ((k : Nat) : Int) < l.length := by omega
      have HT := Lib.hid (HET.out k)
      have htl := etT_len (fsE l MT t) nx.length k
      have HTR := Lib.hid (fun p (h : p < k) => etT_row (fsE l MT t) nx.length h)
      have HBD2 := Lib.hid (fun p s h hs => HBD.out k p s h (by omega) hs)
      have HRU := Lib.hid (HR.out k hlt)
      have HE : Hid (∀ s, etR (fsE l MT t) (etT (fsE l MT t) nx.length k) k (s + 1) = etR (fsE l MT t) (etT (fsE l MT t) nx.length k) k s ++ [fsE l MT t (etT (fsE l MT t) nx.length k) k s]) := fun s => rfl
      have HEp : Hid ((ruA l k).1.size = 0 → ∀ s, fsE l MT t (etT (fsE l MT t) nx.length k) k s = (if (tA (etT (fsE l MT t) nx.length k) (ruA l k).2.1.toNat).getD s 0 < 0 ∧ 0 ≤ (tA (etT (fsE l MT t) nx.length k) (ruA l k).2.2.toNat).getD ((tA MT (ruA l k).2.1.toNat).getD s 0).toNat 0 then (gLn l).getD (ruA l k).2.1.toNat 0 + (tA (etT (fsE l MT t) nx.length k) (ruA l k).2.2.toNat).getD ((tA MT (ruA l k).2.1.toNat).getD s 0).toNat 0 else (tA (etT (fsE l MT t) nx.length k) (ruA l k).2.1.toNat).getD s 0)) := fun h s => by rw [fsE, if_pos h]
      have HEl : Hid ((ruA l k).1.size ≠ 0 → ∀ s, fsE l MT t (etT (fsE l MT t) nx.length k) k s = if (tA MT k).getD s 0 = (t : Int) then 1 else -1) := fun h s => by rw [fsE, if_neg h]
      have HL := Lib.hid (etR_len (fsE l MT t) (etT (fsE l MT t) nx.length k) k)
      have HL0 : Hid (etR (fsE l MT t) (etT (fsE l MT t) nx.length k) k 0 = []) := rfl
      have hns : w.heap.size ≤ wr.heap.size := hb.size
      have HOWN := Lib.hid hown
      have HMW := Lib.hid (inT_below HMI.out hb)
      have hwg : bq < wr.heap.size := World.block_lt_of_cell? _ _ d4
      clear hb hown
      obtain ⟨wo, rfl⟩ : ∃ wo, wo = wr := ⟨_, rfl⟩
      obtain ⟨ao, co, rfl⟩ := inT_sl (ownT_in HOWN.out)
      rw [htl]
      generalize fsE l MT t (etT (fsE l MT t) nx.length k) k = sE at *
      generalize etR (fsE l MT t) (etT (fsE l MT t) nx.length k) k = sR at *
      generalize etT (fsE l MT t) nx.length k = T at *
      generalize (ruA l k).1 = x1 at *
      generalize (ruA l k).2.1 = x2 at *
      generalize (ruA l k).2.2 = x3 at *
      go_wp2
      go_loopw [13, 14, 15, 16] (fun o i _ _ wr => Below (wo.heap.size + 1) (wo.alloc (.cells #[.string x1, .int .i64 x2, .int .i64 x3] 131)) wr ∧ ∃ s : Nat, s ≤ nx.length ∧ i = .int .i64 s ∧ wr.ownsRow (wo.heap.size + 1) 2 1 o s (iv (sR s))) (fun _ i _ _ _ => nx.length - (intOf i).toNat)
      case atStart => exact ⟨(Below.refl _ _).alloc (by simp) _, 0, by omega, rfl, by rw [HL0.out]; have := own_nil64 (w := wo.alloc (.cells #[.string x1, .int .i64 x2, .int .i64 x3] 131)) (base := wo.heap.size + 1) (by simp); simpa using this⟩
      case round =>
        obtain ⟨hb2, s, hs, rfl, hro⟩ := hrel
        have hbq := below_box (w := wo) (o := .cells #[.string x1, .int .i64 x2, .int .i64 x3] 131) (w1 := wr) (by simpa using hb2)
        by_cases hls : s < nx.length
        · have hlsI : ((s : Nat) : Int) < nx.length := by omega
          have r0 : wr.cell? ⟨wo.heap.size, 0, none⟩ = some (.string x1) := by rw [hb2.cell (by simp)]; simp [go_sem]
          have r1 : wr.cell? ⟨wo.heap.size, 1, none⟩ = some (.int .i64 x2) := by rw [hb2.cell (by simp)]; simp [go_sem]
          have r2 : wr.cell? ⟨wo.heap.size, 2, none⟩ = some (.int .i64 x3) := by rw [hb2.cell (by simp)]; simp [go_sem]
          have HRO := Lib.hid hro
          have HB2 := Lib.hid hb2
          have hqs : wo.heap.size + 1 ≤ wr.heap.size := by have := hb2.size; simpa using this
          obtain ⟨bo, om, hbo, hltm, hmll⟩ := inT_all HMW.out (by have := HML.out; omega)
          subst hbo
          by_cases hz : x1.size = 0
          · obtain ⟨q1, q2, q3, q4⟩ := HRU.out.1 hz
            obtain ⟨p, rfl⟩ := Int.eq_ofNat_of_zero_le q1
            obtain ⟨q, rfl⟩ := Int.eq_ofNat_of_zero_le q3
            have hpk : p < k := by omega
            have hqk : q < k := by omega
            have HV := Lib.hid (HEp.out hz s)
            simp only [Int.toNat_natCast] at HV
            obtain rfl := size_zero hz
            clear q1 q2 q3 q4 hz d4
            obtain ⟨bt, ot, hbt, hlt0, hall⟩ := inT_all (ownT_in HOWN.out) (by omega)
            subst hbt
            obtain ⟨rp, cp, hcp, hip⟩ := hall p (by omega)
            obtain ⟨rq, cq, hcq, hiq⟩ := hall q (by omega)
            obtain ⟨rm, cm2, hcm, him⟩ := hmll p (by have := HML.out; omega)
            obtain ⟨gp, fp, rfl, hlt1, hvp⟩ := inI_at hip (show s < (tA T p).length by rw [HTR.out p hpk]; exact hls)
            obtain ⟨gm, fm, rfl, hlt3, hvm⟩ := inI_at him (show s < (tA MT p).length by rw [HMR.out p (by omega)]; exact hls)
            have hbm := HMB.out p s (by omega) hls
            obtain ⟨m, hm⟩ := Int.eq_ofNat_of_zero_le hbm.1
            have hmlt : m < nx.length := by omega
            obtain ⟨gq, fq, rfl, hlt2, hvq⟩ := inI_at hiq (show m < (tA T q).length by rw [HTR.out q hqk]; exact hmlt)
            rw [hm] at hvm
            have HEV := Lib.hid (HE.out s)
            rw [HV.out, hm] at HEV
            simp only [Int.toNat_natCast] at HEV
            rw [HTR.out p hpk] at hcp
            rw [HTR.out q hqk] at hcq
            rw [HMR.out p (by omega)] at hcm
            have hcp := cell_later hbq hcp
            have hcq := cell_later hbq hcq
            have hcm := cell_later hbq hcm
            have hvp := cell_later hbq hvp
            have hvq := cell_later hbq hvq
            have hvm := cell_later hbq hvm
            have hpI : ((p : Nat) : Int) < k := by omega
            have hqI : ((q : Nat) : Int) < k := by omega
            have hpM : ((p : Nat) : Int) < MT.length := by have := HML.out; omega
            have hmI : ((m : Nat) : Int) < nx.length := by omega
            have g1 := HBD2.out p s hpk hls
            have g2 := HBD2.out q m hqk hmlt
            have g3 := HLB.out p (by omega)
            have g4 := HLB.out q (by omega)
            obtain ⟨gll, hgll⟩ := hsl (by omega)
            subst hgll
            have hcl := cell_later hbq (cell_later HB.out (own_get HLO1.out HGLN.out (show p < l.length by omega)))
            have hpL : ((p : Nat) : Int) < l.length := by omega
            clear hall hip hiq hbm hm HV him hmll hro hb2 hbq hc0 hc1 hc2
            generalize (tA T p).getD s 0 = z1 at *
            generalize (tA T q).getD m 0 = z2 at *
            generalize (gLn l).getD p 0 = z3 at *
            obtain ⟨g1a, g1b⟩ := g1
            obtain ⟨g2a, g2b⟩ := g2
            obtain ⟨g3a, g3b⟩ := g3
            have g4b := g4.2
            clear g4
            by_cases hn0 : z1 < 0
            · have hnb : decide (z1 < 0) = true := decide_eq_true hn0
              by_cases hm0 : 0 ≤ z2
              · have hmb : decide (0 ≤ z2) = true := decide_eq_true hm0
                rw [if_pos ⟨hn0, hm0⟩] at HEV
                have HRO2 := Lib.hid (fun nq => ownsRow_drewN HRO.out nq)
                go_wp2
                go_big_quiet (fail)
                have hown3 := HRO2.out nq
                go_wp2_with (at_builtin; refine app_i64 rfl (.tmp 92) (.tmp 94) rfl (wo.heap.size + 1) _ _ _ _ _ _ rfl hown3 rfl (by simp) (by omega) (by simpa using hqs) ?_; intro v' w4 ho4 hb4 hsz4)
                go_roundw
                case rel => exact ⟨(below_drewN HB2.out nq).trans hb4, s + 1, by omega, by go_num, by rw [HEV.out]; simpa [iv] using ho4⟩
                case measure => first | (simp [intOf]; done) | (simp [intOf]; omega)
              · have hmb : decide (0 ≤ z2) = false := decide_eq_false hm0
                rw [if_neg (fun h => hm0 h.2)] at HEV
                have HRO2 := Lib.hid (fun nq => ownsRow_drewN HRO.out nq)
                go_wp2
                go_big_quiet (fail)
                have hown3 := HRO2.out nq
                go_wp2_with (at_builtin; refine app_i64 rfl (.tmp 92) (.tmp 94) rfl (wo.heap.size + 1) _ _ _ _ _ _ rfl hown3 rfl (by simp) (by omega) (by simpa using hqs) ?_; intro v' w4 ho4 hb4 hsz4)
                go_roundw
                case rel => exact ⟨(below_drewN HB2.out nq).trans hb4, s + 1, by omega, by go_num, by rw [HEV.out]; simpa [iv] using ho4⟩
                case measure => first | (simp [intOf]; done) | (simp [intOf]; omega)
            · have hnb : decide (z1 < 0) = false := decide_eq_false hn0
              rw [if_neg (fun h => hn0 h.1)] at HEV
              have HRO2 := Lib.hid (fun nq => ownsRow_drewN HRO.out nq)
              go_wp2
              go_big_quiet (fail)
              have hown3 := HRO2.out nq
              go_wp2_with (at_builtin; refine app_i64 rfl (.tmp 92) (.tmp 94) rfl (wo.heap.size + 1) _ _ _ _ _ _ rfl hown3 rfl (by simp) (by omega) (by simpa using hqs) ?_; intro v' w4 ho4 hb4 hsz4)
              go_roundw
              case rel => exact ⟨(below_drewN HB2.out nq).trans hb4, s + 1, by omega, by go_num, by rw [HEV.out]; simpa [iv] using ho4⟩
              case measure => first | (simp [intOf]; done) | (simp [intOf]; omega)
          · have hne := neq_empty hz
            have hne2 := not_empty hz
            have hkM : ((k : Nat) : Int) < MT.length := by have := HML.out; omega
            obtain ⟨rm, cm2, hcm, him⟩ := hmll k (by have := HML.out; omega)
            obtain ⟨gm, fm, rfl, hlt3, hvm⟩ := inI_at him (show s < (tA MT k).length by rw [HMR.out k hlt]; exact hls)
            rw [HMR.out k hlt] at hcm
            have hcm := cell_later hbq hcm
            have hvm := cell_later hbq hvm
            have HEV := Lib.hid (HE.out s)
            rw [HEl.out hz s] at HEV
            clear him hmll hz hro hb2 hbq hc0 hc1 hc2 d4
            generalize (tA MT k).getD s 0 = y at *
            by_cases hy : y = (t : Int)
            · have hyb : (y == (t : Int)) = true := by rw [beq_iff_eq]; exact hy
              rw [if_pos hy] at HEV
              clear hy
              go_wp2_with (at_builtin; refine app_i64 rfl (.tmp 92) (.tmp 94) rfl (wo.heap.size + 1) _ _ _ _ _ _ rfl HRO.out rfl (by simp) (by omega) (by simpa using hqs) ?_; intro v' w4 ho4 hb4 hsz4)
              go_roundw
              case rel => exact ⟨HB2.out.trans hb4, s + 1, by omega, by go_num, by rw [HEV.out]; simpa [iv] using ho4⟩
              case measure => first | (simp [intOf]; done) | (simp [intOf]; omega)
            · have hyb : (y == (t : Int)) = false := by rw [beq_eq_false_iff_ne]; exact hy
              rw [if_neg hy] at HEV
              clear hy
              go_wp2_with (at_builtin; refine app_i64 rfl (.tmp 92) (.tmp 94) rfl (wo.heap.size + 1) _ _ _ _ _ _ rfl HRO.out rfl (by simp) (by omega) (by simpa using hqs) ?_; intro v' w4 ho4 hb4 hsz4)
              go_roundw
              case rel => exact ⟨HB2.out.trans hb4, s + 1, by omega, by go_num, by rw [HEV.out]; simpa [iv] using ho4⟩
              case measure => first | (simp [intOf]; done) | (simp [intOf]; omega)
        · have es : s = nx.length := by omega
          subst es
          have hls' : ¬ (nx.length : Int) < nx.length := by omega
          obtain ⟨ar, cr, rfl, -, -⟩ := owns_sl3 hro
          have hown1 : OwnT w.heap.size wo (.slice ao k co) T := by have := HOWN.out; rwa [htl] at this
          have hro1 := own_len (m := (sR nx.length).length) (owns_weak (base' := wo.heap.size) hro (by omega)) (HL.out _)
          have hbq1 := Lib.hid hbq
          have hwb := hbq.size
          clear hls hb2 hbq hc0 hc1 hc2 d4
          go_wp2_with (at_builtin; refine appT rfl (.tmp 96) (.tmp 98) rfl w.heap.size wo wr _ _ _ T _ (by rfl) hown1 hbq1.out hro1 (by rfl) (by simp) (by omega) (by omega) ?_; intro v' w4 ho4 hb4 hsz4)
          go_roundw
          case rel => exact ⟨(HB.out.trans (hbq1.out.mono hns)).trans hb4, k + 1, by omega, by go_num, by rw [HT.out]; exact ho4⟩
          case measure => first | (simp [intOf]; done) | (simp [intOf]; omega)
    · have ek : k = l.length := by omega
      subst ek
      have hk' : ¬ (l.length : Int) < l.length := by omega
      clear hb
      go_wp2
      go_ret
      exact ⟨u10, rfl, by rw [HMT.out]; exact ownT_weak hown HBA.out.size, HBA.out.trans (HB.out.mono HBA.out.size)⟩
end Go.Proofs.Ytefcdkgfabaffaa

/- Where the words of rules lead: the reference's walk. -/
import Derived.Test.YtefcdkgfabaffaaKA
namespace Go.Proofs.Ytefcdkgfabaffaa
open Go.ChangeShapes Go.WideShapes Go.RowKit
set_option linter.unusedVariables false
set_option linter.unusedSimpArgs false
set_option maxHeartbeats 2000000
set_option maxRecDepth 100000
theorem s_l04Letter (b : Int) (c : Nat) (w : World) (hb : b = 97 + (c : Int)) (hc : c < 4) :
    Calls Try.prog 92 #[.int .u8 b] w fun e w' => e = .returned (.int .i64 c) ∧ w = w' := by
  have hw8 : IntKind.u8.wrap (97 + (c : Int) - 97) = (c : Int) := by rw [show 97 + (c : Int) - 97 = (c : Int) by omega]; exact wrap_u8 (by omega) (by omega)
  have hw9 : IntKind.i64.wrap (c : Int) = (c : Int) := IntWalk.i64_in (c : Int) (by omega)
  subst hb
  go_enter Try.func92, Try.ntmps92
  go_wp2
  go_ret
  exact ⟨rfl, rfl⟩
theorem s_l04Maps (v : Value) (bq oq cap : Nat) (a : Option Addr) (nx : Tb) (l : List Ru) (w : World) (hok : gOk l = true) (hst : nx.length ≤ 24) (hnx : nxP nx) (hin : InT w v nx) (hcell : w.cell? ⟨bq, oq, none⟩ = some (.slice a l.length cap)) (hg : InRu w (.slice a l.length cap) l) :
    Calls Try.prog 98 #[v, .pointer (some ⟨bq, oq, none⟩)] w fun e w' => ∃ v', e = .returned v' ∧ OwnT w.heap.size w' v' (gSm nx l) ∧ Below w.heap.size w w' := by
  obtain ⟨an, cn, rfl⟩ := inT_sl hin
  have hbq := World.block_lt_of_cell? _ _ hcell
  have HIN := Lib.hid hg
  have HNX := Lib.hid hin
  have HN := Lib.hid hnx
  have HR := Lib.hid (fun k hk => @gOk_rule l hok k hk)
  have HBD := Lib.hid (smT_bd (l := l) hnx hok)
  have hl400 := (gOk_some hok).1
  clear hin hg hok hnx
  go_enter Try.func98, Try.ntmps98
  go_wp2
  go_loopw [5, 6, 7, 8, 9] (fun o i _ _ _ wr => Below w.heap.size w wr ∧ ∃ k : Nat, k ≤ l.length ∧ i = .int .i64 k ∧ OwnT w.heap.size wr o (smT nx l k)) (fun _ i _ _ _ _ => l.length - (intOf i).toNat)
  case atStart => exact ⟨(Below.refl _ _).alloc (by simp) _, 0, by omega, rfl, by have := ownT_nil (w := w) (base := w.heap.size) (by simp); simpa [smT] using this⟩
  case round =>
    obtain ⟨hb, k, hk, rfl, hown⟩ := hrel
    have HB := Lib.hid hb
    by_cases hlt : k < l.length
    · obtain ⟨b, off, rfl, hbl, hc0, hc1, hc2⟩ := inRu_at (inRu_below HIN.out hb) hlt
      have hin : ((k : Nat) : Int) < l.length := by omega
      have HT := Lib.hid (show smT nx l (k + 1) = smT nx l k ++ [smR nx (smT nx l k) (ruA l k) nx.length] from rfl)
      have htl := smT_len nx l k
      have HTR := Lib.hid (fun p (h : p < k) => smT_row nx l h)
      have HBD2 := Lib.hid (fun p s h hs => HBD.out k p s h (by omega) hs)
      have HRU := Lib.hid (HR.out k hlt)
      have HE : Hid (∀ s, smR nx (smT nx l k) (ruA l k) (s + 1) = smR nx (smT nx l k) (ruA l k) s ++ [smE nx (smT nx l k) (ruA l k) s]) := fun s => rfl
      have HEp : Hid ((ruA l k).1.size = 0 → ∀ s, smE nx (smT nx l k) (ruA l k) s = (tA (smT nx l k) (ruA l k).2.2.toNat).getD ((tA (smT nx l k) (ruA l k).2.1.toNat).getD s 0).toNat 0) := fun h s => by rw [smE, if_pos h]
      have HEl : Hid ((ruA l k).1.size ≠ 0 → ∀ s, smE nx (smT nx l k) (ruA l k) s = (tA nx s).getD (lcI (ruA l k).1) 0) := fun h s => by rw [smE, if_neg h]
      have HL := Lib.hid (smR_len nx (smT nx l k) (ruA l k))
      have HL0 : Hid (smR nx (smT nx l k) (ruA l k) 0 = []) := rfl
      have hns : w.heap.size ≤ wr.heap.size := hb.size
      have hcw := cell_later hb hcell
      have HOWN := Lib.hid hown
      have HNW := Lib.hid (inT_below HNX.out hb)
      clear hb hown
      obtain ⟨wo, rfl⟩ : ∃ wo, wo = wr := ⟨_, rfl⟩
      obtain ⟨ao, co, rfl⟩ := inT_sl (ownT_in HOWN.out)
      rw [htl]
      generalize smE nx (smT nx l k) (ruA l k) = sE at *
      generalize smR nx (smT nx l k) (ruA l k) = sR at *
      generalize smT nx l k = T at *
      generalize (ruA l k).1 = x1 at *
      generalize (ruA l k).2.1 = x2 at *
      generalize (ruA l k).2.2 = x3 at *
      go_wp2
      go_loopw [7, 8, 9] (fun o i _ wr => Below wo.heap.size wo wr ∧ ∃ s : Nat, s ≤ nx.length ∧ i = .int .i64 s ∧ wr.ownsRow wo.heap.size 2 1 o s (iv (sR s))) (fun _ i _ _ => nx.length - (intOf i).toNat)
      case atStart => exact ⟨(Below.refl _ _).alloc (by simp) _, 0, by omega, rfl, by rw [HL0.out]; have := own_nil64 (w := wo) (base := wo.heap.size) (by simp); simpa using this⟩
      case round =>
        obtain ⟨hb2, s, hs, rfl, hro⟩ := hrel
        have cc0 := cell_later hb2 hc0
        have cc1 := cell_later hb2 hc1
        have cc2 := cell_later hb2 hc2
        have ccw := cell_later hb2 hcw
        by_cases hls : s < nx.length
        · have hlsI : ((s : Nat) : Int) < nx.length := by omega
          have HRO := Lib.hid hro
          have HB2 := Lib.hid hb2
          have hqs : wo.heap.size ≤ wr.heap.size := hb2.size
          have hne7 : some wr.heap.size ≠ u7.ownBlock := fun e => by have := (hro.lt _ e.symm).2; omega
          clear hro hc0 hc1 hc2 hcw
          by_cases hz : x1.size = 0
          · have ex := size_zero hz
            obtain ⟨q1, q2, q3, q4⟩ := HRU.out.1 hz
            obtain ⟨p, rfl⟩ := Int.eq_ofNat_of_zero_le q1
            obtain ⟨q, rfl⟩ := Int.eq_ofNat_of_zero_le q3
            have hpk : p < k := by omega
            have hqk : q < k := by omega
            have HV := Lib.hid (HEp.out hz s)
            simp only [Int.toNat_natCast] at HV
            subst ex
            clear hz q1 q2 q3 q4
            have hti := ownT_in HOWN.out
            obtain ⟨bt, ot, rfl, hlt0, hall⟩ := inT_all hti (by omega)
            obtain ⟨rp, cp, hcp, hip⟩ := hall p (by omega)
            obtain ⟨rq, cq, hcq, hiq⟩ := hall q (by omega)
            obtain ⟨gp, fp, rfl, hlt1, hvp⟩ := inI_at hip (show s < (tA T p).length by rw [HTR.out p hpk]; exact hls)
            have hbm := HBD2.out p s hpk hls
            obtain ⟨m, hm⟩ := Int.eq_ofNat_of_zero_le hbm.1
            have hml : m < nx.length := by omega
            obtain ⟨gq, fq, rfl, hlt2, hvq⟩ := inI_at hiq (show m < (tA T q).length by rw [HTR.out q hqk]; exact hml)
            rw [hm] at hvp
            have HEV := Lib.hid (HE.out s)
            rw [HV.out, hm] at HEV
            simp only [Int.toNat_natCast] at HEV
            rw [HTR.out p hpk] at hcp
            rw [HTR.out q hqk] at hcq
            have hcp := cell_later hb2 hcp
            have hcq := cell_later hb2 hcq
            have hvp := cell_later hb2 hvp
            have hvq := cell_later hb2 hvq
            have hpI : ((p : Nat) : Int) < k := by omega
            have hqI : ((q : Nat) : Int) < k := by omega
            have hmI : ((m : Nat) : Int) < nx.length := by omega
            have hbx := (Below.refl wr.heap.size wr).alloc (Nat.le_refl _) (.cells #[.string ⟨#[]⟩, .int .i64 p, .int .i64 q] 131)
            have r1 : (wr.alloc (.cells #[.string ⟨#[]⟩, .int .i64 p, .int .i64 q] 131)).cell? ⟨wr.heap.size, 1, none⟩ = some (.int .i64 p) := by simp [go_sem]
            have r2 : (wr.alloc (.cells #[.string ⟨#[]⟩, .int .i64 p, .int .i64 q] 131)).cell? ⟨wr.heap.size, 2, none⟩ = some (.int .i64 q) := by simp [go_sem]
            have hcp := cell_later hbx hcp
            have hcq := cell_later hbx hcq
            have hvp := cell_later hbx hvp
            have hvq := cell_later hbx hvq
            have hro2 := owns_after HRO.out hbx
            have HB5 := Lib.hid (HB2.out.trans (hbx.mono hqs))
            have hs3 : wo.heap.size < (wr.alloc (.cells #[.string ⟨#[]⟩, .int .i64 p, .int .i64 q] 131)).heap.size := by simp; omega
            have hwq : wr.heap.size < (wr.alloc (.cells #[.string ⟨#[]⟩, .int .i64 p, .int .i64 q] 131)).heap.size := by simp
            clear hti hall hip hiq hbm hm HV
            generalize (tA T q).getD m 0 = z at *
            go_wp2
            refine gen_world2 (fun w2 => w2 = wr.alloc (.cells #[.string ⟨#[]⟩, .int .i64 p, .int .i64 q] 131)) rfl ?_
            intro w2 hw2
            rw [← hw2] at hcp hcq hvp hvq hro2 HB5 hs3 hwq r1 r2
            clear hw2 hbx
            go_region_held3 (fun w' => w'.cell? ⟨wr.heap.size, 1, none⟩ = some (.int .i64 p) ∧ w'.cell? ⟨wr.heap.size, 2, none⟩ = some (.int .i64 q) ∧ w'.cell? ⟨bt, ot + p, none⟩ = some (.slice (some ⟨gp, fp, none⟩) nx.length cp) ∧ w'.cell? ⟨bt, ot + q, none⟩ = some (.slice (some ⟨gq, fq, none⟩) nx.length cq) ∧ w'.cell? ⟨gp, fp + s, none⟩ = some (.int .i64 m) ∧ w'.cell? ⟨gq, fq + m, none⟩ = some (.int .i64 z))
              (first | go_keep | (go_split_ands; refine ⟨?_, ?_, ?_, ?_, ?_, ?_⟩ <;> first | (rw [hgr4.cell_far _ (by simp; omega) hne7]; assumption) | (rw [hb7.cell (by first | (simp; done) | (simp; omega))]; assumption)))
              ((refine step_app_i64 (by rfl) _ _ (by rfl) wo.heap.size _ u7 s (iv (sR s)) z (by rfl) (by first | exact ownsRow_drew (hro2.alloc _) | exact (ownsRow_drew hro2).alloc _ | exact ownsRow_drew ((ownsRow_drew hro2).alloc _)) w2.heap.size (by rfl) (by simp [go_sem]) (by omega) (by simp; omega) ?_; intro v' w4 ho4 hb7 hsz4 hgr4))
            have hb8 : Below wo.heap.size w2 w4 := by
              refine Below.trans ?_ hb7
              first | exact ((Below.refl _ _).alloc (by omega) _).drew | exact ((Below.refl _ _).drew.alloc (by simp; omega) _) | exact ((Below.refl _ _).drew.alloc (by simp; omega) _).drew
            have HB6 := Lib.hid (HB5.out.trans hb8)
            clear HB5 hcp hcq hvp hvq r1 r2 hb7 hb8
            go_wp2
            go_roundw
            case rel => exact ⟨HB6.out, s + 1, by omega, by go_num, by rw [HEV.out]; simpa [iv] using ho4⟩
            case measure => first | (simp [intOf]; done) | (simp [intOf]; omega)
          · obtain ⟨h1, hv, h2, h3⟩ := HRU.out.2 hz
            have h0 : 0 < x1.size := by omega
            obtain ⟨hc4, hcv⟩ := lcI_ok h1 hv h0
            obtain ⟨c, hc⟩ : ∃ c, lcI x1 = c := ⟨_, rfl⟩
            have HEV := Lib.hid (HE.out s)
            rw [HEl.out hz s, hc] at HEV
            rw [hc] at hc4 hcv
            have hci : (c : Int) < 4 := by omega
            have hx0 : (x1[0].toNat : Int) = 97 + (c : Int) := by omega
            have hne := neq_empty hz
            have hne2 := not_empty hz
            have HLT := Lib.hid (fun w => s_l04Letter (97 + (c : Int)) c w rfl hc4)
            clear hz h2 h3 hv hc hcv
            obtain ⟨bt, ot, rfl, hlt0, hall⟩ := inT_all HNW.out (by omega)
            obtain ⟨rp, cp, hcp, hip⟩ := hall s (by omega)
            have hr4 := (HN.out s hls).1
            obtain ⟨gp, fp, rfl, hlt1, hvp⟩ := inI_at hip (show c < (tA nx s).length by omega)
            rw [hr4] at hcp
            have hcp := cell_later hb2 hcp
            have hvp := cell_later hb2 hvp
            have hbx := (Below.refl wr.heap.size wr).alloc (Nat.le_refl _) (.cells #[.string x1, .int .i64 x2, .int .i64 x3] 131)
            have r0 : (wr.alloc (.cells #[.string x1, .int .i64 x2, .int .i64 x3] 131)).cell? ⟨wr.heap.size, 0, none⟩ = some (.string x1) := by simp [go_sem]
            have hcp := cell_later hbx hcp
            have hvp := cell_later hbx hvp
            have hro2 := owns_after HRO.out hbx
            have HB5 := Lib.hid (HB2.out.trans (hbx.mono hqs))
            have hs3 : wo.heap.size < (wr.alloc (.cells #[.string x1, .int .i64 x2, .int .i64 x3] 131)).heap.size := by simp; omega
            have hwq : wr.heap.size < (wr.alloc (.cells #[.string x1, .int .i64 x2, .int .i64 x3] 131)).heap.size := by simp
            clear hall hip
            generalize (tA nx s).getD c 0 = z at *
            go_wp2
            refine gen_world2 (fun w2 => w2 = wr.alloc (.cells #[.string x1, .int .i64 x2, .int .i64 x3] 131)) rfl ?_
            intro w2 hw2
            rw [← hw2] at hcp hvp hro2 HB5 hs3 hwq r0
            clear hw2 hbx
            go_region_held3 (fun w' => w'.cell? ⟨wr.heap.size, 0, none⟩ = some (.string x1) ∧ w'.cell? ⟨bt, ot + s, none⟩ = some (.slice (some ⟨gp, fp, none⟩) 4 cp) ∧ w'.cell? ⟨gp, fp + c, none⟩ = some (.int .i64 z))
              (first | go_keep | (go_split_ands; refine ⟨?_, ?_, ?_⟩ <;> first | (rw [hgr4.cell_far _ (by simp; omega) hne7]; assumption) | (rw [hb7.cell (by first | (simp; done) | (simp; omega))]; assumption)))
              (first | (go_at_call 92; refine (HLT.out _).mono ?_; rintro e w1 ⟨rfl, rfl⟩) | (refine step_app_i64 (by rfl) _ _ (by rfl) wo.heap.size _ u7 s (iv (sR s)) z (by rfl) (by first | exact ownsRow_drew (hro2.alloc _) | exact (ownsRow_drew hro2).alloc _ | exact ownsRow_drew ((ownsRow_drew hro2).alloc _)) w2.heap.size (by rfl) (by simp [go_sem]) (by omega) (by simp; omega) ?_; intro v' w4 ho4 hb7 hsz4 hgr4))
            have hb8 : Below wo.heap.size w2 w4 := by
              refine Below.trans ?_ hb7
              first | exact ((Below.refl _ _).alloc (by omega) _).drew | exact ((Below.refl _ _).drew.alloc (by simp; omega) _) | exact ((Below.refl _ _).drew.alloc (by simp; omega) _).drew
            have HB6 := Lib.hid (HB5.out.trans hb8)
            clear HB5 hcp hvp r0 hb7 hb8
            go_wp2
            go_roundw
            case rel => exact ⟨HB6.out, s + 1, by omega, by go_num, by rw [HEV.out]; simpa [iv] using ho4⟩
            case measure => first | (simp [intOf]; done) | (simp [intOf]; omega)
        · have es : s = nx.length := by omega
          subst es
          have hls' : ¬ (nx.length : Int) < nx.length := by omega
          obtain ⟨ar, cr, rfl, -, -⟩ := owns_sl3 hro
          have hown1 : OwnT w.heap.size wo (.slice ao k co) T := by have := HOWN.out; rwa [htl] at this
          have hro1 := own_len (m := (sR nx.length).length) hro (HL.out _)
          have hbq1 := Lib.hid hb2
          have hwb := hb2.size
          clear hls hb2 hc0 hc1 hc2 cc0 cc1 cc2
          go_wp2_with (at_builtin; refine appT rfl (.tmp 68) (.tmp 70) rfl w.heap.size wo wr _ _ _ T _ (by rfl) hown1 hbq1.out hro1 (by rfl) (by simp) (by omega) (by omega) ?_; intro v' w4 ho4 hb4 hsz4)
          go_roundw
          case rel => exact ⟨(HB.out.trans (hbq1.out.mono hns)).trans hb4, k + 1, by omega, by go_num, by rw [HT.out]; exact ho4⟩
          case measure => first | (simp [intOf]; done) | (simp [intOf]; omega)
    · have ek : k = l.length := by omega
      subst ek
      have hk' : ¬ (l.length : Int) < l.length := by omega
      have hcw := cell_later hb hcell
      go_wp2
      go_ret
      exact ⟨_, rfl, hown, HB.out⟩
end Go.Proofs.Ytefcdkgfabaffaa

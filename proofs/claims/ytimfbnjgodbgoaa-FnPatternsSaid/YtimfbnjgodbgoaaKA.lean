/- Where the words of rules lead: a plain table; the program's walk that makes it. -/
import Derived.Test.YtimfbnjgodbgoaaK0
namespace Go.Proofs.Ytimfbnjgodbgoaa
open Go.ChangeShapes Go.WideShapes Go.RowKit
set_option linter.unusedVariables false
set_option linter.unusedSimpArgs false
set_option maxHeartbeats 2000000
set_option maxRecDepth 100000
def smE (nx out : Tb) (r : Ru) (s : Nat) : Int := if r.1.size = 0 then (tA out r.2.2.toNat).getD ((tA out r.2.1.toNat).getD s 0).toNat 0 else (tA nx s).getD (lcI r.1) 0
def smR (nx out : Tb) (r : Ru) : Nat → List Int
  | 0 => []
  | s + 1 => smR nx out r s ++ [smE nx out r s]
def smT (nx : Tb) (l : List Ru) : Nat → Tb
  | 0 => []
  | k + 1 => smT nx l k ++ [smR nx (smT nx l k) (ruA l k) nx.length]
def gSm (nx : Tb) (l : List Ru) : Tb := smT nx l l.length
theorem smR_len (nx out : Tb) (r : Ru) : ∀ s, (smR nx out r s).length = s
  | 0 => rfl
  | s + 1 => by rw [smR, List.length_append, smR_len nx out r s]; rfl
theorem smR_at (nx out : Tb) (r : Ru) : ∀ {n s : Nat}, s < n → (smR nx out r n).getD s 0 = smE nx out r s
  | 0, s, h => by omega
  | n + 1, s, h => by
    have hl := smR_len nx out r n
    rw [smR]
    by_cases he : s < n
    · rw [List.getD, List.getElem?_append_left (by omega)]; exact smR_at nx out r he
    · have e : s = n := by omega
      subst e
      rw [List.getD, List.getElem?_append_right (by omega), hl]; simp
theorem smT_len (nx : Tb) (l : List Ru) : ∀ k, (smT nx l k).length = k
  | 0 => rfl
  | k + 1 => by rw [smT, List.length_append, smT_len nx l k]; rfl
theorem smT_at (nx : Tb) (l : List Ru) : ∀ {k p : Nat}, p < k → tA (smT nx l k) p = smR nx (smT nx l p) (ruA l p) nx.length
  | 0, p, h => by omega
  | k + 1, p, h => by
    have hl := smT_len nx l k
    rw [smT]
    by_cases he : p < k
    · rw [tA_app (by omega)]; exact smT_at nx l he
    · have e : p = k := by omega
      subst e
      have := @tA_last (smT nx l p) (smR nx (smT nx l p) (ruA l p) nx.length)
      rwa [hl] at this
/-- tables whose rows all lead to states -/
def nxP (nx : Tb) : Prop := ∀ s, s < nx.length → roP ((nx.length : Int) - 1) (tA nx s)
theorem smT_row (nx : Tb) (l : List Ru) {k p : Nat} (h : p < k) : (tA (smT nx l k) p).length = nx.length := by rw [smT_at nx l h, smR_len]
theorem smT_bd {nx : Tb} {l : List Ru} (hn : nxP nx) (hok : gOk l = true) : ∀ (k p s : Nat), p < k → k ≤ l.length → s < nx.length → 0 ≤ (tA (smT nx l k) p).getD s 0 ∧ (tA (smT nx l k) p).getD s 0 < nx.length
  | 0, p, s, h, _, _ => by omega
  | k + 1, p, s, h, hk, hs => by
    rw [smT_at nx l h, smR_at nx _ _ hs, smE]
    split
    · rename_i hz
      obtain ⟨q1, q2, q3, q4⟩ := (gOk_rule hok (show p < l.length by omega)).1 hz
      have hp : ∀ q, q < p → ∀ s', s' < nx.length → 0 ≤ (tA (smT nx l p) q).getD s' 0 ∧ (tA (smT nx l p) q).getD s' 0 < nx.length := fun q hq s' hs' => by
        have := smT_bd hn hok k q s' (by omega) (by omega) hs'
        rwa [smT_at nx l (show q < k by omega), ← smT_at nx l hq] at this
      have h1 := hp (ruA l p).2.1.toNat (by omega) s hs
      exact hp (ruA l p).2.2.toNat (by omega) _ (by omega)
    · rename_i hz
      obtain ⟨q1, q2, q3, q4⟩ := (gOk_rule hok (show p < l.length by omega)).2 hz
      have h4 := (lcI_ok q1 q2 (by omega)).1
      have := (hn s hs).2 _ h4
      omega
theorem own_len {w : World} {base e n m : Nat} {v : Value} {xs : List Value} (h : w.ownsRow base e 1 v n xs) (hm : m = n) : w.ownsRow base e 1 v m xs := by subst hm; exact h
theorem i_stateMaps (v vg : Value) (nx : Tb) (l : List Ru) (w : World) (hok : gOk l = true) (hst : nx.length ≤ 24) (hnx : nxP nx) (hin : InT w v nx) (hg : InRu w vg l) :
    Calls Try.prog 70 #[v, .agg #[vg]] w fun e w' => ∃ v', e = .returned v' ∧ OwnT w.heap.size w' v' (gSm nx l) ∧ Below w.heap.size w w' := by
  obtain ⟨a, cap, rfl⟩ := inRu_sl hg
  obtain ⟨an, cn, rfl⟩ := inT_sl hin
  have hbx := (Below.refl w.heap.size w).alloc (Nat.le_refl _) (.cells #[.slice a l.length cap] 26)
  have HIN := Lib.hid (inRu_below hg hbx)
  have HNX := Lib.hid (inT_below hin hbx)
  have HN := Lib.hid hnx
  have HR := Lib.hid (fun k hk => @gOk_rule l hok k hk)
  have HBD := Lib.hid (smT_bd (l := l) hnx hok)
  have hl400 := (gOk_some hok).1
  clear hin hg hok hnx hbx
  go_enter Try.func70, Try.ntmps70
  go_wp2
  go_loopw [5, 7, 8, 9, 14, 21] (fun o _ _ _ i _ wr => Below (w.heap.size + 1) (w.alloc (.cells #[.slice a l.length cap] 26)) wr ∧ ∃ k : Nat, k ≤ l.length ∧ i = .int .i64 k ∧ OwnT (w.heap.size + 1) wr o (smT nx l k)) (fun _ _ _ _ i _ _ => l.length - (intOf i).toNat)
  case atStart => exact ⟨(Below.refl _ _).alloc (by simp) _, 0, by omega, rfl, by have := ownT_nil (w := w.alloc (.cells #[.slice a l.length cap] 26)) (base := w.heap.size + 1) (by simp); simpa [smT] using this⟩
  case round =>
    obtain ⟨hb, k, hk, rfl, hown⟩ := hrel
    have HB := Lib.hid hb
    by_cases hlt : k < l.length
    · obtain ⟨b, off, rfl, hbl, hc0, hc1, hc2⟩ := inRu_at (inRu_from HIN.out (by simp) hb) hlt
      have hin : ((k : Nat) : Int) < l.length := by omega
      have HT := Lib.hid (show smT nx l (k + 1) = smT nx l k ++ [smR nx (smT nx l k) (ruA l k) nx.length] from rfl)
      have htl := smT_len nx l k
      have HTR := Lib.hid (fun p (h : p < k) => smT_row nx l h)
      have HBD2 := Lib.hid (fun p s h hs => HBD.out k p s h (by omega) hs)
      have HRU := Lib.hid (HR.out k hlt)
      have HE : Hid (∀ s, smR nx (smT nx l k) (ruA l k) (s + 1) = smR nx (smT nx l k) (ruA l k) s ++ [smE nx (smT nx l k) (ruA l k) s]) := fun s => rfl
      have HEp : Hid ((ruA l k).1.size = 0 → ∀ s, smE nx (smT nx l k) (ruA l k) s = (tA (smT nx l k) (ruA l k).2.2.toNat).getD ((tA (smT nx l k) (ruA l k).2.1.toNat).getD s 0).toNat 0) := fun h s => by rw [smE, if_pos h]
      have HEl : Hid ((ruA l k).1.size ≠ 0 → ∀ s, smE nx (smT nx l k) (ruA l k) s = (tA nx s).getD (lcI (ruA l k).1) 0) := fun h s => by rw [smE, if_neg h]
      have HL := Lib.hid (smR_len nx (smT nx l k) (ruA l k))
      have HL0 : Hid (smR nx (smT nx l k) (ruA l k) 0 = []) := rfl
      have hns : wr.heap.size ≥ w.heap.size + 1 := by have := hb.size; simpa using this
      have HOWN := Lib.hid hown
      have HNW := Lib.hid (inT_below HNX.out (hb.mono (by simp)))
      clear hb hown
      obtain ⟨wo, rfl⟩ : ∃ wo, wo = wr := ⟨_, rfl⟩
      obtain ⟨ao, co, rfl⟩ := inT_sl (ownT_in HOWN.out)
      rw [htl]
      generalize smE nx (smT nx l k) (ruA l k) = sE at *
      generalize smR nx (smT nx l k) (ruA l k) = sR at *
      generalize smT nx l k = T at *
      generalize (ruA l k).1 = x1 at *
      generalize (ruA l k).2.1 = x2 at *
      generalize (ruA l k).2.2 = x3 at *
      go_wp2
      go_loopw [8, 9, 21] (fun o _ i wr => Below (wo.heap.size + 1) (wo.alloc (.cells #[.string x1, .int .i64 x2, .int .i64 x3] 34)) wr ∧ ∃ s : Nat, s ≤ nx.length ∧ i = .int .i64 s ∧ wr.ownsRow (wo.heap.size + 1) 2 1 o s (iv (sR s))) (fun _ _ i _ => nx.length - (intOf i).toNat)
      case atStart => exact ⟨(Below.refl _ _).alloc (by simp) _, 0, by omega, rfl, by rw [HL0.out]; have := own_nil64 (w := wo.alloc (.cells #[.string x1, .int .i64 x2, .int .i64 x3] 34)) (base := wo.heap.size + 1) (by simp); simpa using this⟩
      case round =>
        obtain ⟨hb2, s, hs, rfl, hro⟩ := hrel
        by_cases hls : s < nx.length
        · have hlsI : ((s : Nat) : Int) < nx.length := by omega
          have hbq := below_box (w := wo) (o := .cells #[.string x1, .int .i64 x2, .int .i64 x3] 34) (w1 := wr) (by simpa using hb2)
          have r0 : wr.cell? ⟨wo.heap.size, 0, none⟩ = some (.string x1) := by rw [hb2.cell (by simp)]; simp [go_sem]
          have r1 : wr.cell? ⟨wo.heap.size, 1, none⟩ = some (.int .i64 x2) := by rw [hb2.cell (by simp)]; simp [go_sem]
          have r2 : wr.cell? ⟨wo.heap.size, 2, none⟩ = some (.int .i64 x3) := by rw [hb2.cell (by simp)]; simp [go_sem]
          have HRO := Lib.hid hro
          have HBQ := Lib.hid hbq
          have HB2 := Lib.hid hb2
          have hqs : wo.heap.size + 1 ≤ wr.heap.size := by have := hb2.size; simpa using this
          clear hro hbq hb2 hc0 hc1 hc2
          by_cases hz : x1.size = 0
          · have HIS := Lib.hid (fun w => i_isPair x1 x2 x3 w)
            have hd : decide (x1.size = 0) = true := by simpa using hz
            rw [hd] at HIS
            obtain ⟨q1, q2, q3, q4⟩ := HRU.out.1 hz
            obtain ⟨p, rfl⟩ := Int.eq_ofNat_of_zero_le q1
            obtain ⟨q, rfl⟩ := Int.eq_ofNat_of_zero_le q3
            have hpk : p < k := by omega
            have hqk : q < k := by omega
            have HV := Lib.hid (HEp.out hz s)
            simp only [Int.toNat_natCast] at HV
            clear hd hz q1 q2 q3 q4
            go_wp2_with fail
            refine (HIS.out _).mono ?_
            rintro e w2 ⟨rfl, hb3⟩
            have s1 := cell_later hb3 r1
            have s2 := cell_later hb3 r2
            have hb4 := HBQ.out.trans (hb3.mono HBQ.out.size)
            have hti := ownT_in HOWN.out
            obtain ⟨bt, ot, rfl, hlt0, hall⟩ := inT_all hti (by omega)
            obtain ⟨rp, cp, hcp, hip⟩ := hall p (by omega)
            obtain ⟨rq, cq, hcq, hiq⟩ := hall q (by omega)
            obtain ⟨gp, fp, rfl, hlt1, hvp⟩ := inI_at hip (show s < (tA T p).length by rw [HTR.out p hpk]; exact hls)
            have hbm := HBD2.out p s hpk hls
            obtain ⟨m, hm⟩ := Int.eq_ofNat_of_zero_le hbm.1
            have hml : m < nx.length := by omega
            obtain ⟨gq, fq, rfl, hlt2, hvq⟩ := inI_at hiq (show m < (tA T q).length by rw [HTR.out q hqk]; exact hml)
            rw [hm] at hvp
            have HEV := Lib.hid (HE.out s)
            rw [HV.out, hm] at HEV
            simp only [Int.toNat_natCast] at HEV
            rw [HTR.out p hpk] at hcp
            rw [HTR.out q hqk] at hcq
            have hcp := cell_later hb4 hcp
            have hcq := cell_later hb4 hcq
            have hvp := cell_later hb4 hvp
            have hvq := cell_later hb4 hvq
            have hpI : ((p : Nat) : Int) < k := by omega
            have hqI : ((q : Nat) : Int) < k := by omega
            have hmI : ((m : Nat) : Int) < nx.length := by omega
            have hro2 := owns_after HRO.out hb3
            have HB5 := Lib.hid (HB2.out.trans (hb3.mono (by simpa using hqs)))
            have hs3 := hb3.size
            clear hti hall hip hiq hbm hm HV hb3 hb4 HIS r0 r1 r2
            generalize (tA T q).getD m 0 = z at *
            go_wp2
            go_region_held3 (fun w' => w'.cell? ⟨wo.heap.size, 1, none⟩ = some (.int .i64 p) ∧ w'.cell? ⟨wo.heap.size, 2, none⟩ = some (.int .i64 q) ∧ w'.cell? ⟨bt, ot + p, none⟩ = some (.slice (some ⟨gp, fp, none⟩) nx.length cp) ∧ w'.cell? ⟨bt, ot + q, none⟩ = some (.slice (some ⟨gq, fq, none⟩) nx.length cq) ∧ w'.cell? ⟨gp, fp + s, none⟩ = some (.int .i64 m) ∧ w'.cell? ⟨gq, fq + m, none⟩ = some (.int .i64 z))
              (first | go_keep | (go_split_ands; refine ⟨?_, ?_, ?_, ?_, ?_, ?_⟩ <;> (rw [hb7.cell (by first | (simp; done) | (simp; omega))]; assumption)))
              ((refine step_app_i64 (by rfl) _ _ (by rfl) (wo.heap.size + 1) _ u8 s (iv (sR s)) z (by rfl) (by first | exact ownsRow_drew (hro2.alloc _) | exact (ownsRow_drew hro2).alloc _ | exact ownsRow_drew ((ownsRow_drew hro2).alloc _)) w2.heap.size (by rfl) (by simp [go_sem]) (by omega) (by simp; omega) ?_; intro v' w4 ho4 hb7 hsz4 hgr4))
            have hb8 : Below (wo.heap.size + 1) w2 w4 := by
              refine Below.trans ?_ hb7
              first | exact ((Below.refl _ _).alloc (by omega) _).drew | exact ((Below.refl _ _).drew.alloc (by simp; omega) _) | exact ((Below.refl _ _).drew.alloc (by simp; omega) _).drew
            have HB6 := Lib.hid (HB5.out.trans hb8)
            clear HB5 hcp hcq hvp hvq s1 s2 hb7 hb8
            go_wp2
            go_roundw
            case rel => exact ⟨HB6.out, s + 1, by omega, by go_num, by rw [HEV.out]; simpa [iv] using ho4⟩
            case measure => first | (simp [intOf]; done) | (simp [intOf]; omega)
          · have HIS := Lib.hid (fun w => i_isPair x1 x2 x3 w)
            have hd : decide (x1.size = 0) = false := by simpa using hz
            rw [hd] at HIS
            obtain ⟨h1, hv, h2, h3⟩ := HRU.out.2 hz
            have h0 : 0 < x1.size := by omega
            obtain ⟨hc4, hcv⟩ := lcI_ok h1 hv h0
            obtain ⟨c, hc⟩ : ∃ c, lcI x1 = c := ⟨_, rfl⟩
            have HEV := Lib.hid (HE.out s)
            rw [HEl.out hz s, hc] at HEV
            rw [hc] at hc4 hcv
            have hci : (c : Int) < 4 := by omega
            have hx0 : (x1[0].toNat : Int) = 97 + (c : Int) := by omega
            have hw8 : IntKind.u8.wrap (97 + (c : Int) - 97) = (c : Int) := by rw [show 97 + (c : Int) - 97 = (c : Int) by omega]; exact wrap_u8 (by omega) (by omega)
            have hw9 : IntKind.u8.wrap (c : Int) = (c : Int) := wrap_u8 (by omega) (by omega)
            clear hd hz h2 h3 hv hc hcv
            go_wp2_with fail
            refine (HIS.out _).mono ?_
            rintro e w2 ⟨rfl, hb3⟩
            have s1 := cell_later hb3 r0
            have hb4 := HBQ.out.trans (hb3.mono HBQ.out.size)
            obtain ⟨bt, ot, rfl, hlt0, hall⟩ := inT_all HNW.out (by omega)
            obtain ⟨rp, cp, hcp, hip⟩ := hall s (by omega)
            have hr4 := (HN.out s hls).1
            obtain ⟨gp, fp, rfl, hlt1, hvp⟩ := inI_at hip (show c < (tA nx s).length by omega)
            rw [hr4] at hcp
            have hcp := cell_later hb4 hcp
            have hvp := cell_later hb4 hvp
            have hro2 := owns_after HRO.out hb3
            have HB5 := Lib.hid (HB2.out.trans (hb3.mono (by simpa using hqs)))
            have hs3 := hb3.size
            clear hall hip hb3 hb4 HIS r0 r1 r2
            generalize (tA nx s).getD c 0 = z at *
            go_wp2
            go_region_held3 (fun w' => w'.cell? ⟨wo.heap.size, 0, none⟩ = some (.string x1) ∧ w'.cell? ⟨bt, ot + s, none⟩ = some (.slice (some ⟨gp, fp, none⟩) 4 cp) ∧ w'.cell? ⟨gp, fp + c, none⟩ = some (.int .i64 z))
              (first | go_keep | (go_split_ands; refine ⟨?_, ?_, ?_⟩ <;> (rw [hb7.cell (by first | (simp; done) | (simp; omega))]; assumption)))
              ((refine step_app_i64 (by rfl) _ _ (by rfl) (wo.heap.size + 1) _ u8 s (iv (sR s)) z (by rfl) (by first | exact ownsRow_drew (hro2.alloc _) | exact (ownsRow_drew hro2).alloc _ | exact ownsRow_drew ((ownsRow_drew hro2).alloc _)) w2.heap.size (by rfl) (by simp [go_sem]) (by omega) (by simp; omega) ?_; intro v' w4 ho4 hb7 hsz4 hgr4))
            have hb8 : Below (wo.heap.size + 1) w2 w4 := by
              refine Below.trans ?_ hb7
              first | exact ((Below.refl _ _).alloc (by omega) _).drew | exact ((Below.refl _ _).drew.alloc (by simp; omega) _) | exact ((Below.refl _ _).drew.alloc (by simp; omega) _).drew
            have HB6 := Lib.hid (HB5.out.trans hb8)
            clear HB5 hcp hvp s1 hb7 hb8
            go_wp2
            go_roundw
            case rel => exact ⟨HB6.out, s + 1, by omega, by go_num, by rw [HEV.out]; simpa [iv] using ho4⟩
            case measure => first | (simp [intOf]; done) | (simp [intOf]; omega)
        · have es : s = nx.length := by omega
          subst es
          have hls' : ¬ (nx.length : Int) < nx.length := by omega
          have hbq := below_box (w := wo) (o := .cells #[.string x1, .int .i64 x2, .int .i64 x3] 34) (w1 := wr) (by simpa using hb2)
          have HF := Lib.hid (hro)
          have HOW := Lib.hid (ownT_after HOWN.out (Below.refl _ _))
          obtain ⟨ar, cr, rfl, -, -⟩ := owns_sl3 hro
          have hown1 : OwnT (w.heap.size + 1) wo (.slice ao k co) T := by have := HOWN.out; rwa [htl] at this
          have hro1 := own_len (m := (sR nx.length).length) (owns_weak (base' := wo.heap.size) hro (by omega)) (HL.out _)
          have hbq1 := Lib.hid hbq
          have hwb := hbq.size
          clear hls hb2 hbq HF HOW hc0 hc1 hc2
          go_wp2_with (at_builtin; refine appT rfl (.tmp 58) (.tmp 60) rfl (w.heap.size + 1) wo wr _ _ _ T _ (by rfl) hown1 hbq1.out hro1 (by rfl) (by simp) (by omega) (by omega) ?_; intro v' w4 ho4 hb4 hsz4)
          go_roundw
          case rel => exact ⟨(HB.out.trans (hbq1.out.mono hns)).trans hb4, k + 1, by omega, by go_num, by rw [HT.out]; exact ho4⟩
          case measure => first | (simp [intOf]; done) | (simp [intOf]; omega)
    · have ek : k = l.length := by omega
      subst ek
      have hk' : ¬ (l.length : Int) < l.length := by omega
      go_wp2
      go_ret
      exact ⟨_, rfl, ownT_weak hown (by omega), below_box (by simpa using HB.out)⟩
end Go.Proofs.Ytimfbnjgodbgoaa

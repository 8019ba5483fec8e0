/- VisitCounts and CountAccepted, both functions. -/
import Derived.Test.YtefcdkgfabaffaaVK
import Derived.Test.YtefcdkgfabaffaaVJ
import Derived.Test.YtefcdkgfabaffaaKN
namespace Go.Proofs.Ytefcdkgfabaffaa
open Go.ChangeShapes Go.WideShapes Go.RowKit
set_option linter.unusedVariables false
set_option linter.unusedSimpArgs false
set_option maxHeartbeats 1000000
set_option maxRecDepth 100000
/-- the box in which a ride is laid -/
theorem ride_box (w : World) (v0 v1 v2 v3 v4 v5 v6 : Value) : rd7 w.heap.size v0 v1 v2 v3 v4 v5 v6 (w.alloc (.cells #[v0, v1, v2, v3, v4, v5, v6] 117)) ∧ Below w.heap.size w (w.alloc (.cells #[v0, v1, v2, v3, v4, v5, v6] 117)) :=
  ⟨⟨by simp [go_sem], by simp [go_sem], by simp [go_sem], by simp [go_sem], by simp [go_sem], by simp [go_sem], by simp [go_sem]⟩, (Below.refl _ _).alloc (Nat.le_refl _) _⟩
def vcV (a : Au) (l : List Ru) : List Int := if (gOk l && auOk a) = true then viV a l (lastI (gLn l)) else []
theorem vcV_len (a : Au) (l : List Ru) : (vcV a l).length ≤ 1048576 := by
  unfold vcV
  split
  · rename_i h
    rw [Bool.and_eq_true] at h
    obtain ⟨f1, f2, f3, f4, f5⟩ := auOk_facts h.2
    rw [viV_len]; omega
  · simp
theorem i_VisitCounts (u1 u2 vg : Value) (a : Au) (l : List Ru) (w : World) (hs : auSm a) (hn : l.length ≤ 1048576) (hsz : ∀ r ∈ l, r.1.size ≤ 1048576) (h1 : InI w u1 a.fi) (h2 : InT w u2 a.nx) (hg : InRu w vg l) :
    Calls Try.prog 59 #[.agg #[.int .i64 a.st, .int .i64 a.sa, u1, u2], .agg #[vg]] w fun e w' => ∃ v', e = .returned (.tuple #[v', .int .i64 (smC a l)]) ∧ w'.ownsRow w.heap.size 2 1 v' (vcV a l).length ((vcV a l).map (Value.int .i64)) ∧ Below w.heap.size w w' := by
  obtain ⟨a1, k1, rfl⟩ := inI_sl h1
  obtain ⟨a2, k2, rfl⟩ := inT_sl h2
  obtain ⟨ag, kg, rfl⟩ := inRu_sl hg
  have hbx := ((Below.refl w.heap.size w).alloc (Nat.le_refl _) (.cells #[.int .i64 a.st, .int .i64 a.sa, .slice a1 a.fi.length k1, .slice a2 a.nx.length k2] 28)).alloc (by simp) (.cells #[.slice ag l.length kg] 59)
  have HBX : Hid (∀ w', Below (((w.alloc (.cells #[.int .i64 a.st, .int .i64 a.sa, .slice a1 a.fi.length k1, .slice a2 a.nx.length k2] 28)).alloc (.cells #[.slice ag l.length kg] 59))).heap.size (((w.alloc (.cells #[.int .i64 a.st, .int .i64 a.sa, .slice a1 a.fi.length k1, .slice a2 a.nx.length k2] 28)).alloc (.cells #[.slice ag l.length kg] 59))) w' → Below w.heap.size w w') := fun w' h => below_box (below_box h)
  have HI1 := Lib.hid (inI_below h1 hbx)
  have HI2 := Lib.hid (inT_below h2 hbx)
  have HIG := Lib.hid (inRu_below hg hbx)
  cases h : (gOk l && auOk a)
  · have e1 : smC a l = 1 := by rw [smC, h]; simp
    have e2 : vcV a l = [] := by rw [vcV, h]; simp
    have HN := Lib.hid (i_newRide_f _ _ _ a l _ hs hn hsz HI1.out HI2.out HIG.out h)
    rw [e1, e2]
    clear e1 e2 h1 h2 hg hs hsz hbx h
    go_enter Try.func59, Try.ntmps59
    go_wp2_with fail
    refine (HN.out).mono ?_
    rintro e w2 ⟨rfl, hb2⟩
    have BF := HBX.out _ hb2
    clear hb2 HN
    go_wp2
    go_ret2
    exact ⟨_, rfl, World.ownsRow_nil _ _ _ _, by first | exact BF.alloc BF.size _ | exact BF | exact ((BF.alloc BF.size _).setCell (by simp; exact BF.size) _)⟩
  · have e1 : smC a l = 0 := by rw [smC, h]; simp
    have e2 : vcV a l = viV a l (lastI (gLn l)) := by rw [vcV, h]; simp
    have HN := Lib.hid (i_newRide _ _ _ a l _ hs hn hsz HI1.out HI2.out HIG.out h)
    rw [Bool.and_eq_true] at h
    have HOK := Lib.hid h.1
    have HAO := Lib.hid h.2
    rw [e1, e2]
    clear e1 e2 h1 h2 hg hs hsz hbx h
    go_enter Try.func59, Try.ntmps59
    go_wp2_with fail
    refine (HN.out).mono ?_
    rintro e w2 ⟨vl, vm, rfl, hol, hom, hb2⟩
    obtain ⟨al, kl, rfl, -, -⟩ := owns_sl3 hol
    obtain ⟨am, km, rfl⟩ := inT_sl (ownT_in hom)
    have hrd2 : InRd w2 (.slice a1 a.fi.length k1) (.slice a2 a.nx.length k2) (.slice ag l.length kg) (.slice al (gLn l).length kl) (.slice am (gSm a.nx l).length km) a l :=
      ⟨inI_below HI1.out hb2, inT_below HI2.out hb2, inRu_below HIG.out hb2, ⟨_, own_len hol (by rw [gLn_len2 HOK.out])⟩, ownT_in hom⟩
    have HRD2 := Lib.hid hrd2
    have HB2 := Lib.hid (HBX.out _ hb2)
    have HB2' := Lib.hid hb2
    clear hb2 HN hol hom hrd2
    go_wp2
    have hbox := ride_box w2 (.int .i64 a.st) (.int .i64 a.sa) (.slice a1 a.fi.length k1) (.slice a2 a.nx.length k2) (.slice ag l.length kg) (.slice al (gLn l).length kl) (.slice am (gSm a.nx l).length km)
    refine gen_world2 (fun w3 => rd7 w2.heap.size (.int .i64 a.st) (.int .i64 a.sa) (.slice a1 a.fi.length k1) (.slice a2 a.nx.length k2) (.slice ag l.length kg) (.slice al (gLn l).length kl) (.slice am (gSm a.nx l).length km) w3 ∧ Below w2.heap.size w2 w3) hbox ?_
    clear hbox
    rintro w3 ⟨⟨c0, c1, c2, c3, c4, c5, c6⟩, hb3⟩
    have HRD3 := Lib.hid (inRd_below HRD2.out hb3)
    have HB3 := Lib.hid (HB2.out.trans (hb3.mono HB2.out.size))
    have HB3' := Lib.hid (HB2'.out.trans (hb3.mono HB2'.out.size))
    have HSS : Hid (∀ w', Below w3.heap.size w3 w' → (w'.cell? ⟨w2.heap.size, 0, none⟩ = some (.int .i64 a.st) ∧ w'.cell? ⟨w2.heap.size, 1, none⟩ = some (.int .i64 a.sa) ∧ w'.cell? ⟨w2.heap.size, 2, none⟩ = some (.slice a1 a.fi.length k1) ∧ w'.cell? ⟨w2.heap.size, 3, none⟩ = some (.slice a2 a.nx.length k2) ∧ w'.cell? ⟨w2.heap.size, 4, none⟩ = some (.slice ag l.length kg) ∧ w'.cell? ⟨w2.heap.size, 5, none⟩ = some (.slice al (gLn l).length kl) ∧ w'.cell? ⟨w2.heap.size, 6, none⟩ = some (.slice am (gSm a.nx l).length km))) := fun w' h => ⟨cell_later h c0, cell_later h c1, cell_later h c2, cell_later h c3, cell_later h c4, cell_later h c5, cell_later h c6⟩
    have hb3k := hb3
    clear hb3
    clear hb3k
    go_region_held3 (fun w' => w'.cell? ⟨w2.heap.size, 0, none⟩ = some (.int .i64 a.st) ∧ w'.cell? ⟨w2.heap.size, 1, none⟩ = some (.int .i64 a.sa) ∧ w'.cell? ⟨w2.heap.size, 2, none⟩ = some (.slice a1 a.fi.length k1) ∧ w'.cell? ⟨w2.heap.size, 3, none⟩ = some (.slice a2 a.nx.length k2) ∧ w'.cell? ⟨w2.heap.size, 4, none⟩ = some (.slice ag l.length kg) ∧ w'.cell? ⟨w2.heap.size, 5, none⟩ = some (.slice al (gLn l).length kl) ∧ w'.cell? ⟨w2.heap.size, 6, none⟩ = some (.slice am (gSm a.nx l).length km)) (exact HSS.out _ (by (repeat (first | exact Below.refl _ _ | apply Below.drew | (refine bl_tr ?_ hT2) | (refine bl_tr ?_ hT1))); done)) (first | (go_at_call 106; with_reducible refine (rd_length (inRd_below HRD3.out (by (repeat (first | exact Below.refl _ _ | apply Below.drew)); done)) HOK.out).mono ?_; rintro e wA ⟨rfl, hT1⟩) | (go_at_call 119; with_reducible refine (rd_visits (inRd_below HRD3.out (by (repeat (first | exact Below.refl _ _ | apply Below.drew | (refine bl_tr ?_ hT1))); done)) HOK.out HAO.out _).mono ?_; rintro e wB ⟨v', rfl, ho, hT2⟩))
    have hlo : w3.heap.size ≤ wA.heap.size := bl_size (by (repeat (first | exact Below.refl _ _ | apply Below.drew | (refine bl_tr ?_ hT1))); done)
    have hbf : Below w3.heap.size w3 wB := by (repeat (first | exact Below.refl _ _ | apply Below.drew | (refine bl_tr ?_ hT2) | (refine bl_tr ?_ hT1))); done
    have HO := Lib.hid (own_len (owns_weak ho (Nat.le_trans HB3.out.size hlo)) (viV_len a l (lastI (gLn l))))
    have HBF := Lib.hid (HB3.out.trans (hbf.mono HB3.out.size))
    clear ho hT1 hT2 hlo hbf c0 c1 c2 c3 c4 c5 c6
    go_wp2
    go_ret2
    exact ⟨_, rfl, HO.out, HBF.out⟩
theorem s_VisitCounts (u1 u2 vg : Value) (a : Au) (l : List Ru) (w : World) (hs : auSm a) (hn : l.length ≤ 1048576) (hsz : ∀ r ∈ l, r.1.size ≤ 1048576) (h1 : InI w u1 a.fi) (h2 : InT w u2 a.nx) (hg : InRu w vg l) :
    Calls Try.prog 58 #[.agg #[.int .i64 a.st, .int .i64 a.sa, u1, u2], .agg #[vg]] w fun e w' => ∃ v', e = .returned (.tuple #[v', .int .i64 (smC a l)]) ∧ w'.ownsRow w.heap.size 2 1 v' (vcV a l).length ((vcV a l).map (Value.int .i64)) ∧ Below w.heap.size w w' := by
  obtain ⟨a1, k1, rfl⟩ := inI_sl h1
  obtain ⟨a2, k2, rfl⟩ := inT_sl h2
  obtain ⟨ag, kg, rfl⟩ := inRu_sl hg
  have hbx := ((Below.refl w.heap.size w).alloc (Nat.le_refl _) (.cells #[.int .i64 a.st, .int .i64 a.sa, .slice a1 a.fi.length k1, .slice a2 a.nx.length k2] 28)).alloc (by simp) (.cells #[.slice ag l.length kg] 59)
  have HBX : Hid (∀ w', Below (((w.alloc (.cells #[.int .i64 a.st, .int .i64 a.sa, .slice a1 a.fi.length k1, .slice a2 a.nx.length k2] 28)).alloc (.cells #[.slice ag l.length kg] 59))).heap.size (((w.alloc (.cells #[.int .i64 a.st, .int .i64 a.sa, .slice a1 a.fi.length k1, .slice a2 a.nx.length k2] 28)).alloc (.cells #[.slice ag l.length kg] 59))) w' → Below w.heap.size w w') := fun w' h => below_box (below_box h)
  have HI1 := Lib.hid (inI_below h1 hbx)
  have HI2 := Lib.hid (inT_below h2 hbx)
  have HIG := Lib.hid (inRu_below hg hbx)
  have HV := Lib.hid (s_l04Ok w.heap.size 0 _ _ a _ hs (by simp [go_sem]) (by simp [go_sem]) (by simp [go_sem]) (by simp [go_sem]) HI1.out HI2.out)
  have HG := Lib.hid (fun w1 c i => s_l02Ok (w.heap.size + 1) 0 kg ag l w1 hn hsz c i)
  have hqb := fun q => below_drewN (Below.refl (((w.alloc (.cells #[.int .i64 a.st, .int .i64 a.sa, .slice a1 a.fi.length k1, .slice a2 a.nx.length k2] 28)).alloc (.cells #[.slice ag l.length kg] 59))).heap.size (((w.alloc (.cells #[.int .i64 a.st, .int .i64 a.sa, .slice a1 a.fi.length k1, .slice a2 a.nx.length k2] 28)).alloc (.cells #[.slice ag l.length kg] 59)))) q
  have HQB := Lib.hid hqb
  clear h1 h2 hg hs hsz hbx hqb
  cases hao : auOk a
  · have e1 : smC a l = 1 := by rw [smC, hao]; simp
    have e2 : vcV a l = [] := by rw [vcV, hao]; simp
    rw [hao] at HV
    rw [e1, e2]
    clear e1 e2 hao HI1 HI2 HIG HG
    go_enter Try.func58, Try.ntmps58
    go_wp2_with fail
    refine (HV.out).mono ?_
    rintro e w2 ⟨rfl, q2, rfl⟩
    have BF := HBX.out _ (HQB.out q2)
    have hw := owns_after (own_nil64 (w := ((w.alloc (.cells #[.int .i64 a.st, .int .i64 a.sa, .slice a1 a.fi.length k1, .slice a2 a.nx.length k2] 28)).alloc (.cells #[.slice ag l.length kg] 59))) (base := w.heap.size) (by simp; omega)) (below_drewN (Below.refl _ _) q2)
    simp at hw
    have HW := Lib.hid hw
    clear hw
    go_wp2
    go_ret2
    exact ⟨_, rfl, HW.out, by first | exact BF.alloc BF.size _ | exact below_drewN (below_box (below_box ((Below.refl _ _).alloc (Nat.le_refl _) _))) q2⟩
  · rw [hao] at HV
    cases hok : gOk l
    · have e1 : smC a l = 1 := by rw [smC, hok]; simp
      have e2 : vcV a l = [] := by rw [vcV, hok]; simp
      rw [hok] at HG
      rw [e1, e2]
      clear e1 e2 hao hok HI1 HI2
      go_enter Try.func58, Try.ntmps58
      go_wp2_with fail
      refine (HV.out).mono ?_
      rintro e w2 ⟨rfl, q2, rfl⟩
      go_wp2_with fail
      refine (HG.out _ (by simp [go_sem]) (inRu_below HIG.out (HQB.out q2))).mono ?_
      rintro e w3 ⟨rfl, hb3⟩
      have BF := HBX.out _ ((HQB.out q2).trans (hb3.mono (HQB.out q2).size))
      clear hb3
      go_wp2
      go_ret2
      exact ⟨_, rfl, owns_weak (own_nil64 (Nat.le_refl _)) BF.size, BF.alloc BF.size _⟩
    · have e1 : smC a l = 0 := by rw [smC, hao, hok]; simp
      have e2 : vcV a l = viV a l (lastI (gLn l)) := by rw [vcV, hao, hok]; simp
      have HVI := Lib.hid (fun w1 i c g => s_l04Visits (.slice a2 a.nx.length k2) (w.heap.size + 1) 0 kg ag a l w1 hok hao i c g)
      rw [hok] at HG
      rw [e1, e2]
      clear e1 e2 hao hok
      go_enter Try.func58, Try.ntmps58
      go_wp2_with fail
      refine (HV.out).mono ?_
      rintro e w2 ⟨rfl, q2, rfl⟩
      go_wp2_with fail
      refine (HG.out _ (by simp [go_sem]) (inRu_below HIG.out (HQB.out q2))).mono ?_
      rintro e w3 ⟨rfl, hb3⟩
      have B3 := (HQB.out q2).trans (hb3.mono (HQB.out q2).size)
      have c0 : w3.cell? ⟨w.heap.size, 0, none⟩ = some (.int .i64 a.st) := by rw [B3.cell (by first | (simp; done) | (simp; omega))]; simp [go_sem]
      have c1 : w3.cell? ⟨w.heap.size, 1, none⟩ = some (.int .i64 a.sa) := by rw [B3.cell (by first | (simp; done) | (simp; omega))]; simp [go_sem]
      have c2 : w3.cell? ⟨w.heap.size, 2, none⟩ = some (.slice a1 a.fi.length k1) := by rw [B3.cell (by first | (simp; done) | (simp; omega))]; simp [go_sem]
      have c3 : w3.cell? ⟨w.heap.size, 3, none⟩ = some (.slice a2 a.nx.length k2) := by rw [B3.cell (by first | (simp; done) | (simp; omega))]; simp [go_sem]
      have d0 : w3.cell? ⟨w.heap.size + 1, 0, none⟩ = some (.slice ag l.length kg) := by rw [B3.cell (by first | (simp; done) | (simp; omega))]; simp [go_sem]
      have I1 := Lib.hid (inI_below HI1.out B3)
      have I2 := Lib.hid (inT_below HI2.out B3)
      have IG := Lib.hid (inRu_below HIG.out B3)
      have BB := Lib.hid (HBX.out _ B3)
      have BB' := Lib.hid B3
      clear hb3 B3 HI1 HI2 HIG
      go_wp2_with fail
      refine (HVI.out _ I2.out d0 IG.out).mono ?_
      rintro e w4 ⟨v', rfl, ho, hb4⟩
      have HBF := Lib.hid (BB.out.trans (hb4.mono BB.out.size))
      have HO := Lib.hid (own_len (owns_weak ho BB.out.size) (viV_len a l (lastI (gLn l))))
      clear hb4 ho c0 c1 c2 c3 d0
      go_wp2
      go_ret2
      exact ⟨_, rfl, HO.out, HBF.out⟩
end Go.Proofs.Ytefcdkgfabaffaa

/- CountPattern, both functions. -/
import Derived.Test.YtefcdkgfabaffaaVS
namespace Go.Proofs.Ytefcdkgfabaffaa
open Go.ChangeShapes Go.WideShapes Go.RowKit
set_option linter.unusedVariables false
set_option linter.unusedSimpArgs false
set_option maxHeartbeats 1000000
set_option maxRecDepth 100000
theorem skC_p20 {p : ByteArray} {l : List Ru} (h : skC p l = 0) : p.size ≤ 20 := (paC_ok (skC_ok h).2).2.2
/-- how often a pattern ends within the first letters, as the program counts -/
def enF (p : ByteArray) (l : List Ru) (j : Int) : Int := tmS (viV (paA p) l j) (paA p).fi (paA p).fi.length
theorem enF_eq {p : ByteArray} {l : List Ru} (hp : p.size ≤ 20) (hok : gOk l = true) (j : Int) : enF p l j = (viV (paA p) l j).getD p.size 0 := by
  have h : enF p l j = tmS (viV (paA p) l j) [(p.size : Int)] 1 := rfl
  rw [h, tm_one (viV_bd (paA_ok hp) hok j (by rw [paA_nx]; omega))]
def cpV (p : ByteArray) (l : List Ru) : Int := if skC p l = 0 then (viV (paA p) l (lastI (gLn l))).getD p.size 0 else 0
theorem i_CountPattern (vg : Value) (l : List Ru) (p : ByteArray) (w : World) (hn : l.length ≤ 1048576) (hsz : ∀ r ∈ l, r.1.size ≤ 1048576) (hg : InRu w vg l) (hz : p.size ≤ 1048576) :
    Calls Try.prog 49 #[.agg #[vg], .string p] w fun e w' => e = .returned (.tuple #[.int .i64 (cpV p l), .int .i64 (skC p l)]) ∧ Below w.heap.size w w' := by
  obtain ⟨ag, kg, rfl⟩ := inRu_sl hg
  have hbx := (Below.refl w.heap.size w).alloc (Nat.le_refl _) (.cells #[.slice ag l.length kg] 59)
  have HBX : Hid (∀ w', Below (w.alloc (.cells #[.slice ag l.length kg] 59)).heap.size (w.alloc (.cells #[.slice ag l.length kg] 59)) w' → Below w.heap.size w w') := fun w' h => below_box h
  by_cases h0 : skC p l = 0
  · have e1 : cpV p l = enF p l (lastI (gLn l)) := by rw [cpV, if_pos h0, enF_eq (skC_p20 h0) (skC_ok h0).1]
    have HN := Lib.hid (i_seek (.slice ag l.length kg) p l _ hz hn hsz (inRu_below hg hbx) h0)
    have HOK := Lib.hid (skC_ok h0).1
    have HAO := Lib.hid (paA_ok (skC_p20 h0))
    have HEN : Hid (∀ j, tmS (viV (paA p) l j) (paA p).fi (paA p).fi.length = enF p l j) := fun j => rfl
    rw [e1, h0]
    clear hg hsz hbx h0 e1
    generalize paA p = a at *
    go_enter Try.func49, Try.ntmps49
    go_wp2_with fail
    refine (HN.out).mono ?_
    rintro e w2 ⟨u1, u2, vl, vm, rfl, hrd2, hb2⟩
    obtain ⟨a1, k1, rfl⟩ := inI_sl hrd2.fi
    obtain ⟨a2, k2, rfl⟩ := inT_sl hrd2.nx
    obtain ⟨B0, hlw⟩ := hrd2.ln
    obtain ⟨al, kl, rfl, -, -⟩ := owns_sl3 hlw
    obtain ⟨am, km, rfl⟩ := inT_sl hrd2.mp
    have HRD2 := Lib.hid hrd2
    have HB2 := Lib.hid (HBX.out _ hb2)
    have HB2' := Lib.hid hb2
    clear hb2 HN hrd2 hlw
    go_wp2
    have hbox := ride_box w2 (.int .i64 a.st) (.int .i64 a.sa) (.slice a1 a.fi.length k1) (.slice a2 a.nx.length k2) (.slice ag l.length kg) (.slice al l.length kl) (.slice am (gSm a.nx l).length km)
    refine gen_world2 (fun w3 => rd7 w2.heap.size (.int .i64 a.st) (.int .i64 a.sa) (.slice a1 a.fi.length k1) (.slice a2 a.nx.length k2) (.slice ag l.length kg) (.slice al l.length kl) (.slice am (gSm a.nx l).length km) w3 ∧ Below w2.heap.size w2 w3) hbox ?_
    clear hbox
    rintro w3 ⟨⟨c0, c1, c2, c3, c4, c5, c6⟩, hb3⟩
    have HRD3 := Lib.hid (inRd_below HRD2.out hb3)
    have HB3 := Lib.hid (HB2.out.trans (hb3.mono HB2.out.size))
    have HB3' := Lib.hid (HB2'.out.trans (hb3.mono HB2'.out.size))
    have HSS : Hid (∀ w', Below w3.heap.size w3 w' → (w'.cell? ⟨w2.heap.size, 0, none⟩ = some (.int .i64 a.st) ∧ w'.cell? ⟨w2.heap.size, 1, none⟩ = some (.int .i64 a.sa) ∧ w'.cell? ⟨w2.heap.size, 2, none⟩ = some (.slice a1 a.fi.length k1) ∧ w'.cell? ⟨w2.heap.size, 3, none⟩ = some (.slice a2 a.nx.length k2) ∧ w'.cell? ⟨w2.heap.size, 4, none⟩ = some (.slice ag l.length kg) ∧ w'.cell? ⟨w2.heap.size, 5, none⟩ = some (.slice al l.length kl) ∧ w'.cell? ⟨w2.heap.size, 6, none⟩ = some (.slice am (gSm a.nx l).length km))) := fun w' h => ⟨cell_later h c0, cell_later h c1, cell_later h c2, cell_later h c3, cell_later h c4, cell_later h c5, cell_later h c6⟩
    have hb3k := hb3
    clear hb3
    clear hb3k
    go_region_held3 (fun w' => w'.cell? ⟨w2.heap.size, 0, none⟩ = some (.int .i64 a.st) ∧ w'.cell? ⟨w2.heap.size, 1, none⟩ = some (.int .i64 a.sa) ∧ w'.cell? ⟨w2.heap.size, 2, none⟩ = some (.slice a1 a.fi.length k1) ∧ w'.cell? ⟨w2.heap.size, 3, none⟩ = some (.slice a2 a.nx.length k2) ∧ w'.cell? ⟨w2.heap.size, 4, none⟩ = some (.slice ag l.length kg) ∧ w'.cell? ⟨w2.heap.size, 5, none⟩ = some (.slice al l.length kl) ∧ w'.cell? ⟨w2.heap.size, 6, none⟩ = some (.slice am (gSm a.nx l).length km)) (exact HSS.out _ (by (repeat (first | exact Below.refl _ _ | apply Below.drew | (refine bl_tr ?_ hT2) | (refine bl_tr ?_ hT1))); done)) (first | (go_at_call 106; with_reducible refine (rd_length (inRd_below HRD3.out (by (repeat (first | exact Below.refl _ _ | apply Below.drew)); done)) HOK.out).mono ?_; rintro e wA ⟨rfl, hT1⟩) | (go_at_call 105; with_reducible refine (rd_ends (inRd_below HRD3.out (by (repeat (first | exact Below.refl _ _ | apply Below.drew | (refine bl_tr ?_ hT1))); done)) HOK.out HAO.out _).mono ?_; rintro e wB ⟨rfl, hT2⟩))
    have hbf : Below w3.heap.size w3 wB := by (repeat (first | exact Below.refl _ _ | apply Below.drew | (refine bl_tr ?_ hT2) | (refine bl_tr ?_ hT1))); done
    have HBF := Lib.hid (HB3.out.trans (hbf.mono HB3.out.size))
    rw [HEN.out]
    clear hT1 hT2 hbf c0 c1 c2 c3 c4 c5 c6
    go_wp2
    go_ret2
    exact ⟨rfl, HBF.out⟩
  · have e1 : cpV p l = 0 := by rw [cpV, if_neg h0]
    have HN := Lib.hid (i_seek_f (.slice ag l.length kg) p l _ hz hn hsz (inRu_below hg hbx) h0)
    have hcb : (skC p l == 0) = false := by rw [beq_eq_false_iff_ne]; exact h0
    have HCB := Lib.hid hcb
    rw [e1]
    clear e1 hg hsz hbx h0 hcb
    generalize skC p l = c at *
    go_enter Try.func49, Try.ntmps49
    go_wp2_with fail
    refine (HN.out).mono ?_
    rintro e w2 ⟨rfl, hb2⟩
    have BF := HBX.out _ hb2
    have hcb := HCB.out
    clear hb2 HN
    go_wp2
    go_ret2
    exact ⟨rfl, by first | exact BF.alloc BF.size _ | exact BF | exact ((BF.alloc BF.size _).setCell (by simp; exact BF.size) _)⟩
theorem s_CountPattern (vg : Value) (l : List Ru) (p : ByteArray) (w : World) (hn : l.length ≤ 1048576) (hsz : ∀ r ∈ l, r.1.size ≤ 1048576) (hg : InRu w vg l) (hz : p.size ≤ 1048576) :
    Calls Try.prog 48 #[.agg #[vg], .string p] w fun e w' => e = .returned (.tuple #[.int .i64 (cpV p l), .int .i64 (skC p l)]) ∧ Below w.heap.size w w' := by
  obtain ⟨ag, kg, rfl⟩ := inRu_sl hg
  have hbx := (Below.refl w.heap.size w).alloc (Nat.le_refl _) (.cells #[.slice ag l.length kg] 59)
  have HBX : Hid (∀ w', Below (w.alloc (.cells #[.slice ag l.length kg] 59)).heap.size (w.alloc (.cells #[.slice ag l.length kg] 59)) w' → Below w.heap.size w w') := fun w' h => below_box h
  have HA := Lib.hid (s_l04Asked2 w.heap.size 0 kg ag p l _ hz hn hsz (by simp [go_sem]) (inRu_below hg hbx))
  have HIG := Lib.hid (inRu_below hg hbx)
  by_cases h0 : skC p l = 0
  · have hp20 := skC_p20 h0
    have e1 : cpV p l = (viV (paA p) l (lastI (gLn l))).getD p.size 0 := by rw [cpV, if_pos h0]
    have HP := Lib.hid (fun w => s_l04Pattern p w hp20)
    have HOK := Lib.hid (skC_ok h0).1
    have HAO := Lib.hid (paA_ok hp20)
    have HNX := Lib.hid (paA_nx p)
    have HSA : Hid ((paA p).sa = 0) := rfl
    have HVL := Lib.hid (viV_len (paA p) l (lastI (gLn l)))
    rw [h0] at HA
    rw [e1, h0]
    clear e1 h0 hg hsz hbx
    go_enter Try.func48, Try.ntmps48
    go_wp2_with fail
    refine HA.out.mono ?_
    rintro e w2 ⟨rfl, hb2⟩
    have c0 : w2.cell? ⟨w.heap.size, 0, none⟩ = some (.slice ag l.length kg) := by rw [hb2.cell (by first | (simp; done) | (simp; omega))]; simp [go_sem]
    have HB2 := Lib.hid (HBX.out _ hb2)
    have HG2 := Lib.hid (inRu_below HIG.out hb2)
    clear hb2 HA
    go_wp2_with fail
    refine (HP.out _).mono ?_
    rintro e w3 ⟨x1, x2, vs, rfl, hA, hb3⟩
    obtain ⟨a1, k1, rfl⟩ := inI_sl (auR_inI hA)
    obtain ⟨a2, k2, rfl⟩ := inT_sl (auR_inT hA)
    have c1 := cell_later hb3 c0
    have hq := (Below.refl _ _).alloc (Nat.le_refl w3.heap.size) (.cells #[.int .i64 (paA p).st, .int .i64 (paA p).sa, .slice a1 (paA p).fi.length k1, .slice a2 (paA p).nx.length k2] 28)
    have c2 : ∀ o, (w3.alloc o).cell? ⟨w.heap.size, 0, none⟩ = _ := fun o => cell_later ((Below.refl _ _).alloc (Nat.le_refl _) o) c1
    have HB3 := Lib.hid ((HB2.out.trans (hb3.mono HB2.out.size)).trans (hq.mono (HB2.out.trans (hb3.mono HB2.out.size)).size))
    have HVI := Lib.hid (s_l04Visits (.slice a2 (paA p).nx.length k2) w.heap.size 0 kg ag (paA p) l _ HOK.out HAO.out (inT_below (auR_inT hA) hq) (c2 _) (inRu_below (inRu_below HG2.out hb3) hq))
    rw [HSA.out] at HVI
    clear hA hb3 hq c1 c0
    go_wp2_with fail
    refine HVI.out.mono ?_
    rintro e w4 ⟨v', rfl, ho, hb4⟩
    have HBF := Lib.hid (HB3.out.trans (hb4.mono HB3.out.size))
    have hcv := own_get2 ho HVL.out (show p.size < (paA p).nx.length by rw [HNX.out]; omega)
    obtain ⟨g, kv, rfl, hcc⟩ := hcv
    have hpl : (p.size : Int) < (paA p).nx.length := by have := HNX.out; omega
    clear ho hb4 HVI c2
    generalize hr : (viV (paA p) l (lastI (gLn l))).getD p.size 0 = r at *
    have HR := Lib.hid hr
    clear hr
    go_wp2
    go_ret2
    exact ⟨by rw [HR.out]; rfl, HBF.out⟩
  · have e1 : cpV p l = 0 := by rw [cpV, if_neg h0]
    have hcb : (skC p l == 0) = false := by rw [beq_eq_false_iff_ne]; exact h0
    have HCB := Lib.hid hcb
    rw [e1]
    clear e1 hg hsz hbx h0 hcb
    generalize skC p l = c at *
    go_enter Try.func48, Try.ntmps48
    go_wp2_with fail
    refine HA.out.mono ?_
    rintro e w2 ⟨rfl, hb2⟩
    have BF := HBX.out _ hb2
    have hcb := HCB.out
    clear hb2 HA
    go_wp2
    go_ret2
    exact ⟨rfl, BF⟩
end Go.Proofs.Ytefcdkgfabaffaa

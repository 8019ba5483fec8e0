/- How often states are met: the reference's walk. -/
import Derived.Test.YtefcdkgfabaffaaY5
import Derived.Test.YtefcdkgfabaffaaY6
import Derived.Test.YtefcdkgfabaffaaKB
import Derived.Deep.OwnRows
namespace Go.Proofs.Ytefcdkgfabaffaa
open Go.ChangeShapes Go.WideShapes Go.RowKit
set_option linter.unusedVariables false
set_option linter.unusedSimpArgs false
set_option maxHeartbeats 2000000
set_option maxRecDepth 100000
/-- the tables of the reference -/
structure ssF (w1 : World) (g cap gZ R m : Nat) (rs : List Nat) (T : Tb) (o : List Int) (w : World) : Prop where
  bel : Below w1.heap.size w1 w
  vt : VT w1.heap.size w g cap rs R m T
  z : w.ownsRow w1.heap.size 2 1 (.slice (some ⟨gZ, 0, none⟩) m m) m (o.map (Value.int .i64))
  op : o.length = m ∧ ∀ x ∈ o, okI x
  ne : gZ < g ∧ ∀ k, k < R → gZ < rs.getD k 0
theorem ssF.low {w1 : World} {g cap gZ R m : Nat} {rs : List Nat} {T : Tb} {o : List Int} {w : World} (h : ssF w1 g cap gZ R m rs T o w) : w1.heap.size ≤ gZ := (h.z.lt _ rfl).1
theorem ssF.gp {w1 : World} {g cap gZ R m : Nat} {rs : List Nat} {T T' : Tb} {o o' : List Int} {w w' : World} (h : ssF w1 g cap gZ R m rs T o w) {P : Nat → Prop} (gp : Gp P w w') (hP : ∀ b, P b → vsQ gZ R rs b)
    (h1 : VT w1.heap.size w' g cap rs R m T') (h2 : w'.ownsRow w1.heap.size 2 1 (.slice (some ⟨gZ, 0, none⟩) m m) m (o'.map (Value.int .i64))) (h3 : o'.length = m ∧ ∀ x ∈ o', okI x) : ssF w1 g cap gZ R m rs T' o' w' := by
  refine ⟨below_gp h.bel gp h.bel.size (fun b hb => ?_), h1, h2, h3, h.ne⟩
  have h0 := h.low
  rcases hP b hb with rfl | ⟨k, hk, rfl⟩
  · exact h0
  · have := h.ne.2 k hk; omega
theorem ssF.row {w1 : World} {g cap gZ R m : Nat} {rs : List Nat} {T : Tb} {o : List Int} {w : World} (h : ssF w1 g cap gZ R m rs T o w) {k s : Nat} (hk : k < R) (hs : s < m) (n : Int) :
    ssF w1 g cap gZ R m rs (addT T k s n) o (w.setCell ⟨rs.getD k 0, s, none⟩ (.int .i64 (IntKind.i64.wrap ((tA T k).getD s 0 + n)))) :=
  h.gp (P := fun b => b = rs.getD k 0) Gp.ofSet (fun b hb => .inr ⟨k, hk, hb.symm⟩) (h.vt.add hk hs n) (own_far h.z (fun e => by have := h.ne.2 k hk; omega) _ _) h.op
theorem ssF.out {w1 : World} {g cap gZ R m : Nat} {rs : List Nat} {T : Tb} {o : List Int} {w : World} (h : ssF w1 g cap gZ R m rs T o w) (s : Nat) (n : Int) :
    ssF w1 g cap gZ R m rs T (addL o s n) (w.setCell ⟨gZ, s, none⟩ (.int .i64 (IntKind.i64.wrap (o.getD s 0 + n)))) :=
  h.gp (P := fun b => b = gZ) Gp.ofSet (fun b hb => .inl hb) (h.vt.set (fun e => by have := h.ne.1; omega) (fun k hk e => by have := h.ne.2 k hk; omega) _ _) (own_set h.z s _) ⟨by rw [addL_len]; exact h.op.1, addL_ok h.op.2⟩
theorem ssF.after {w1 : World} {g cap gZ R m : Nat} {rs : List Nat} {T : Tb} {o : List Int} {w w' : World} (h : ssF w1 g cap gZ R m rs T o w) (hb : Below w.heap.size w w') : ssF w1 g cap gZ R m rs T o w' :=
  h.gp (P := fun _ => False) (Gp.ofBelow hb) (fun _ e => e.elim) (h.vt.after hb) (owns_after h.z hb) h.op
theorem ssF.vs {w1 : World} {g cap gZ R m : Nat} {rs : List Nat} {T : Tb} {o : List Int} {w : World} (h : ssF w1 g cap gZ R m rs T o w) : vsP R m (T, o) := ⟨h.vt.shp, h.op⟩
theorem vsV_snoc (m b : Nat) (rs : List Nat) : vsV m rs ++ [.slice (some ⟨b, 0, none⟩) m m] = vsV m (rs ++ [b]) := by simp [vsV]
theorem zT_snoc (k m : Nat) : zT k m ++ [zR m] = zT (k + 1) m := by simp [zT, List.replicate_succ']
theorem viG_start {nx : Tb} {l : List Ru} (hok : gOk l = true) (sa : Nat) : viG l (gSm nx l) nx.length l.length (if 0 < l.length then addT (zT l.length nx.length) (l.length - 1) sa 1 else zT l.length nx.length, zR nx.length) = viG l (gSm nx l) nx.length l.length ((viB (gSm nx l) l.length nx.length sa (pcv l 0 (lastI (gLn l)))).1, zR nx.length) := by
  rw [pcv_all hok]
  by_cases h : 0 < l.length
  · rw [if_pos h, if_pos h]; rfl
  · rw [if_neg h, if_neg h]; rfl
theorem rowsT_nil {w : World} {base : Nat} (h : base ≤ w.heap.size) : RowsT base (w.alloc (.cells #[] 22)) (.slice (some ⟨w.heap.size, 0, none⟩) 0 0) [] [] := by
  obtain ⟨vs, hv⟩ := ownT_nil (w := w) h
  have e : vs = [] := List.eq_nil_of_length_eq_zero hv.1
  subst e
  exact hv
theorem s_l04Visits (v : Value) (bq oq cap : Nat) (ag : Option Addr) (a : Au) (l : List Ru) (w : World) (hok : gOk l = true) (ha : auOk a = true) (hin : InT w v a.nx) (hcell : w.cell? ⟨bq, oq, none⟩ = some (.slice ag l.length cap)) (hg : InRu w (.slice ag l.length cap) l) :
    Calls Try.prog 103 #[v, .pointer (some ⟨bq, oq, none⟩), .int .i64 a.sa] w fun e w' => ∃ v', e = .returned v' ∧ w'.ownsRow w.heap.size 2 1 v' a.nx.length ((viV a l (lastI (gLn l))).map (Value.int .i64)) ∧ Below w.heap.size w w' := by
  obtain ⟨an, cn, rfl⟩ := inT_sl hin
  obtain ⟨f1, f2, f3, f4, f5⟩ := auOk_facts ha
  have hl400 := (gOk_some hok).1
  have hml : a.nx.length ≤ 24 := by omega
  have hn : nxP a.nx := by intro s hs; rw [f4]; exact f5 s hs
  obtain ⟨sa, hsa⟩ := Int.eq_ofNat_of_zero_le f2.1
  have hsm : sa < a.nx.length := by omega
  have hsmI : (sa : Int) < a.nx.length := by omega
  have hmk := fun w => run_make_row' (P := Try.prog) 22 2 (.int .i64 0) 8 Try.underlying22 info_i64 rfl .i64 .i64 a.nx.length (by omega) (by omega) w
  have HMp := Lib.hid (s_l04Maps (.slice an a.nx.length cn) bq oq cap ag a.nx l w hok hml hn hin hcell hg)
  have HRES : Hid ((viG l (gSm a.nx l) a.nx.length l.length (if 0 < l.length then addT (zT l.length a.nx.length) (l.length - 1) sa 1 else zT l.length a.nx.length, zR a.nx.length)).2 = viV a l (lastI (gLn l))) := by
    show _ = _
    unfold viV
    rw [viG_start hok, hsa]
    rfl
  have HG := Lib.hid hg
  have HIN := Lib.hid hin
  have HRUL := Lib.hid (fun k hk => @gOk_rule l hok k hk)
  have HMB : Hid (∀ p s, p < l.length → s < a.nx.length → 0 ≤ (tA (gSm a.nx l) p).getD s 0 ∧ (tA (gSm a.nx l) p).getD s 0 < a.nx.length) := fun p s hp hs => smT_bd hn hok l.length p s hp (Nat.le_refl _) hs
  have HMR : Hid (∀ p, p < l.length → (tA (gSm a.nx l) p).length = a.nx.length) := fun p hp => smT_row a.nx l hp
  have HML : Hid ((gSm a.nx l).length = l.length) := smT_len a.nx l l.length
  have HOK := Lib.hid hok
  rw [hsa]
  clear hg hin hok ha f1 f2 f3 f4 f5 hn hsa
  go_enter Try.func103, Try.ntmps103
  go_wp2_with fail
  refine HMp.out.mono ?_
  rintro e w1 ⟨vm, rfl, hoM, hbA⟩
  have him := ownT_in hoM
  obtain ⟨am, km, rfl⟩ := inT_sl him
  have HM := Lib.hid him
  have HBA := Lib.hid hbA
  have g0 := cell_later hbA hcell
  have HG1 := Lib.hid (inRu_below HG.out hbA)
  have HCELL := Lib.hid g0
  clear him hoM HMp hcell hbA g0
  go_wp2
  go_loopw [9, 10] (fun v i wr => ∃ (rs : List Nat) (g cp : Nat), rs.length ≤ l.length ∧ i = .int .i64 (rs.length : Int) ∧ v = .slice (some ⟨g, 0, none⟩) rs.length cp ∧ Below w1.heap.size w1 wr ∧ w1.heap.size < wr.heap.size ∧ wr.ownsRow w1.heap.size 2 1 (.slice (some ⟨w1.heap.size, 0, none⟩) a.nx.length a.nx.length) a.nx.length ((zR a.nx.length).map (Value.int .i64)) ∧ RowsT (w1.heap.size + 1) wr v (vsV a.nx.length rs) (zT rs.length a.nx.length)) (fun _ i _ => l.length - (intOf i).toNat)
  case atStart =>
    refine ⟨[], w1.heap.size + 1, 0, by simp, rfl, by simp, ((Below.refl _ _).alloc (Nat.le_refl _) _).alloc (by simp) _, by simp; omega, (own_made (Nat.le_refl _) (by omega)).alloc _, ?_⟩
    have := rowsT_nil (w := w1.alloc (.cells (madeCells #[.int .i64 0] a.nx.length) 2)) (base := w1.heap.size + 1) (by simp)
    simpa [vsV, zT] using this
  case round =>
    obtain ⟨rs, g, cp, hk, rfl, rfl, hb, hbl, hz, hR⟩ := hrel
    have hcell := cell_later hb HCELL.out
    by_cases hlt : rs.length < l.length
    · have hin : ((rs.length : Nat) : Int) < l.length := by omega
      have HR := Lib.hid hR
      have HB := Lib.hid hb
      have HZ := Lib.hid hz
      have hba := (Below.refl wr.heap.size wr).alloc (Nat.le_refl _) (.cells (madeCells #[.int .i64 0] a.nx.length) 2)
      have hro : (wr.alloc (.cells (madeCells #[.int .i64 0] a.nx.length) 2)).ownsRow wr.heap.size 2 1 (.slice (some ⟨wr.heap.size, 0, none⟩) a.nx.length a.nx.length) (zR a.nx.length).length (iv (zR a.nx.length)) := own_len (own_made (Nat.le_refl _) (by omega)) (by simp [zR])
      have hn1 : (zT rs.length a.nx.length).length + 1 ≤ 1099511627776 := by simp [zT]; omega
      have hbs : w1.heap.size + 1 ≤ wr.heap.size := by omega
      have HBA2 := Lib.hid hba
      have HRO := Lib.hid hro
      have HN1 := Lib.hid hn1
      clear hR hb hz hba hro hn1
      go_wp2_with (at_builtin; refine appR rfl (.tmp 31) (.tmp 35) rfl (w1.heap.size + 1) wr (wr.alloc (.cells (madeCells #[.int .i64 0] a.nx.length) 2)) _ _ (.slice (some ⟨wr.heap.size, 0, none⟩) a.nx.length a.nx.length) (vsV a.nx.length rs) (zT rs.length a.nx.length) (zR a.nx.length) (by rfl) HR.out HBA2.out HRO.out (by rfl) (by simp) HN1.out hbs ?_; intro v' w4 h4 hg4 hk4)
      go_roundw
      case rel =>
        rw [vsV_snoc, zT_snoc] at h4
        obtain ⟨av, cv, e, hsome, -⟩ := owns_sl3 h4.2.1
        obtain ⟨g', hg'⟩ := hsome (by simp [zT])
        have hbr : Below w1.heap.size w1 w4 := (HB.out.alloc HB.out.size _).trans (below_of_grown hg4 (by simp; omega) (fun k hk => by have := (HR.out.2.1.lt k hk).1; omega))
        refine ⟨rs ++ [wr.heap.size], g', cv, by simp; omega, by simp, by rw [e, hg']; simp [zT], hbr, by have := hg4.size; simp at this; omega, ?_, by simpa using h4⟩
        exact World.ownsRow.kept (HZ.out.alloc _) hg4 (.inr (fun e => by have := (HR.out.2.1.lt _ e.symm).1; simp at this; omega))
      case measure => first | (simp [intOf]; done) | (simp [intOf]; omega)
    · have hrl : rs.length = l.length := by omega
      have hnl : ¬ ((rs.length : Int) < l.length) := by omega
      have hs0 : ssF w1 g cp w1.heap.size l.length a.nx.length rs (zT l.length a.nx.length) (zR a.nx.length) wr := by
        rw [hrl] at hR
        refine ⟨hb, VT.weak ⟨hR, zT_P _ _⟩ (Nat.le_succ _), hz, ⟨by simp [zR], zR_ok _⟩, (hR.2.1.lt _ rfl).1, fun k hk => ?_⟩
        have := (VT.lt ⟨hR, zT_P _ _⟩ hk).1
        omega
      have HS0 := Lib.hid hs0
      clear hR hb hz hs0 hbl
      obtain ⟨wq, rfl⟩ : ∃ wq, wq = wr := ⟨_, rfl⟩
      go_wp2
      go_loopw [11, 12, 13, 14] (fun ix _ _ _ wr => ∃ (k : Nat) (x : Int) (T : Tb) (o : List Int), k ≤ l.length ∧ ix = .int .i64 x ∧ x = (k : Int) - 1 ∧ ssF w1 g cp w1.heap.size l.length a.nx.length rs T o wr ∧ (viG l (gSm a.nx l) a.nx.length k (if k = l.length then (if 0 < l.length then addT T (l.length - 1) sa 1 else T) else T, o)).2 = viV a l (lastI (gLn l))) (fun ix _ _ _ _ => (intOf ix + 1).toNat)
      case atStart => exact ⟨l.length, _, _, _, Nat.le_refl _, rfl, by go_num, HS0.out, by rw [if_pos rfl]; exact HRES.out⟩
      case round =>
        clear hcell
        obtain ⟨k, x, T, o, hk, rfl, hx, hV, hG⟩ := hrel
        have hcell := cell_later hV.bel HCELL.out
        by_cases hlt : 0 < k
        · obtain ⟨i, rfl⟩ : ∃ i, k = i + 1 := ⟨k - 1, by omega⟩
          obtain rfl : x = (i : Int) := by omega
          have hil : i < l.length := by omega
          have hin : (i : Int) < l.length := by omega
          have hge : (0 : Int) ≤ (i : Int) := by omega
          obtain ⟨b, off, hag, hbl, hc0, hc1, hc2⟩ := inRu_at (inRu_from HG1.out (Nat.le_refl _) hV.bel) hil
          subst hag
          have hbl2 : b < w1.heap.size := by
            obtain ⟨b', off', e, h', -⟩ := inRu_at HG1.out hil
            injection e with e; injection e with e; omega
          have HRU := Lib.hid (HRUL.out i hil)
          have HBL : Hid (w1.heap.size < wr.heap.size) := (hV.z.lt _ rfl).2
          have HRW : Hid (∀ k, k < l.length → rs.getD k 0 < wr.heap.size) := fun k hk => (hV.vt.lt hk).2
          obtain ⟨ri, hri⟩ : ∃ r, r = rs.getD i 0 := ⟨_, rfl⟩
          have HRI := Lib.hid hri
          have hcl : True := trivial
          generalize hx1 : (ruA l i).1 = x1 at *
          generalize hx2 : (ruA l i).2.1 = x2 at *
          generalize hx3 : (ruA l i).2.2 = x3 at *
          have HX : Hid ((ruA l i).1 = x1 ∧ (ruA l i).2.1 = x2 ∧ (ruA l i).2.2 = x3) := ⟨hx1, hx2, hx3⟩
          clear hx1 hx2 hx3 hri
          by_cases hlast : i + 1 = l.length
          · have hbe : ((i : Int) == (l.length : Int) - 1) = true := by rw [beq_iff_eq]; omega
            rw [if_pos hlast, if_pos (by omega), show l.length - 1 = i by omega] at hG
            obtain ⟨T2, hT2⟩ : ∃ T2, T2 = addT T i sa 1 := ⟨_, rfl⟩
            rw [← hT2] at hG
            have HGV : Hid ((viG l (gSm a.nx l) a.nx.length i (viR l (gSm a.nx l) i a.nx.length (T2, o))).2 = viV a l (lastI (gLn l))) := hG
            have HS := Lib.hid (hV.row hil hsm 1)
            have e1 := hV.vt.out hil
            obtain ⟨e2, e3⟩ := hV.vt.get hil hsm
            have hrw := HRW.out i hil
            have hrlo := (hV.vt.lt hil).1
            rw [← HRI.out] at HS e1 e2 e3 hrw hrlo
            rw [← hT2, IntWalk.i64_left] at HS
            have hbq : bq < w1.heap.size := World.block_lt_of_cell? _ _ HCELL.out
            have d3 : ∀ u, (wr.setCell ⟨ri, sa, none⟩ u).cell? ⟨bq, oq, none⟩ = _ := fun u => (cell_st_ne (a := ⟨ri, sa, none⟩) (b := ⟨bq, oq, none⟩) u (by show ri ≠ bq; omega)).trans hcell
            have d0 : ∀ u, (wr.setCell ⟨ri, sa, none⟩ u).cell? ⟨b, off + i * 3, none⟩ = _ := fun u => (cell_st_ne (a := ⟨ri, sa, none⟩) (b := ⟨b, off + i * 3, none⟩) u (by show ri ≠ b; omega)).trans hc0
            have d1 : ∀ u, (wr.setCell ⟨ri, sa, none⟩ u).cell? ⟨b, off + i * 3 + 1, none⟩ = _ := fun u => (cell_st_ne (a := ⟨ri, sa, none⟩) (b := ⟨b, off + i * 3 + 1, none⟩) u (by show ri ≠ b; omega)).trans hc1
            have d2 : ∀ u, (wr.setCell ⟨ri, sa, none⟩ u).cell? ⟨b, off + i * 3 + 2, none⟩ = _ := fun u => (cell_st_ne (a := ⟨ri, sa, none⟩) (b := ⟨b, off + i * 3 + 2, none⟩) u (by show ri ≠ b; omega)).trans hc2
            generalize (tA T i).getD sa 0 = n0 at *
            clear hV hG hx hlt hk hT2 hrw hrlo hbq
            obtain ⟨wo, rfl⟩ : ∃ wo, wo = wr := ⟨_, rfl⟩
            go_wp2
            go_loopw [13, 14] (fun c _ wr => ∃ s : Nat, s ≤ a.nx.length ∧ c = .int .i64 s ∧ (wr.cell? ⟨wo.heap.size, 0, none⟩ = some (.string x1) ∧ wr.cell? ⟨wo.heap.size, 1, none⟩ = some (.int .i64 x2) ∧ wr.cell? ⟨wo.heap.size, 2, none⟩ = some (.int .i64 x3)) ∧ wo.heap.size < wr.heap.size ∧ ssF w1 g cp w1.heap.size l.length a.nx.length rs (viR l (gSm a.nx l) i s (T2, o)).1 (viR l (gSm a.nx l) i s (T2, o)).2 wr) (fun c _ _ => a.nx.length - (intOf c).toNat)
            case atStart => exact ⟨0, by omega, rfl, ⟨by simp [go_sem], by simp [go_sem], by simp [go_sem]⟩, by simp, HS.out.after ((Below.refl _ _).alloc (Nat.le_refl _) _)⟩
            case round =>
              clear hcell hc0 hc1 hc2 hcl
              try clear d0 d1 d2
              obtain ⟨s, hs, rfl, ⟨r0, r1, r2⟩, hgs, hV⟩ := hrel
              by_cases hls : s < a.nx.length
              · have hlsI : (s : Int) < a.nx.length := by omega
                have hrz : w1.heap.size ≠ wo.heap.size := by have := HBL.out; omega
                have HRN : Hid (∀ k, k < l.length → rs.getD k 0 < wo.heap.size) := HRW.out
                have f1 := hV.vt.out hil
                obtain ⟨f2, f3⟩ := hV.vt.get hil hls
                rw [← HRI.out] at f1 f2 f3
                have HV := Lib.hid hV
                have HVS := Lib.hid hV.vs
                have HS1 : Hid (viR l (gSm a.nx l) i (s + 1) (T2, o) = viS l (gSm a.nx l) i s ((tA (viR l (gSm a.nx l) i s (T2, o)).1 i).getD s 0) (viR l (gSm a.nx l) i s (T2, o))) := rfl
                generalize (tA (viR l (gSm a.nx l) i s (T2, o)).1 i).getD s 0 = n at *
                generalize (viR l (gSm a.nx l) i s (T2, o)) = P1 at *
                obtain ⟨T1, o1⟩ := P1
                simp only at HV
                clear hV
                by_cases hn0 : n = 0
                · have hnb : (n == 0) = true := by rw [beq_iff_eq]; exact hn0
                  have HSP : Hid (viS l (gSm a.nx l) i s n (T1, o1) = (T1, o1)) := by show _ = _; rw [hn0]; exact viS_zero HVS.out HOK.out rfl _ hil s
                  subst hn0
                  go_wp2
                  go_roundw
                  case rel =>
                    refine ⟨s + 1, by omega, by go_num, ⟨r0, r1, r2⟩, hgs, ?_⟩
                    rw [HS1.out, HSP.out]
                    exact HV.out
                  case measure => first | (simp [intOf]; done) | (simp [intOf]; omega)
                · have hnb : (n == 0) = false := by rw [beq_eq_false_iff_ne]; exact hn0
                  by_cases hz : x1.size = 0
                  · obtain ⟨q1, q2, q3, q4⟩ := HRU.out.1 hz
                    obtain ⟨p, hp⟩ := Int.eq_ofNat_of_zero_le q1
                    obtain ⟨q, hq⟩ := Int.eq_ofNat_of_zero_le q3
                    rw [hp] at r1
                    rw [hq] at r2
                    have hpl : p < l.length := by omega
                    have hql : q < l.length := by omega
                    have hpI : (p : Int) < l.length := by omega
                    have hqI : (q : Int) < l.length := by omega
                    have hpM : (p : Int) < (gSm a.nx l).length := by have := HML.out; omega
                    obtain ⟨t, ht⟩ := Int.eq_ofNat_of_zero_le (HMB.out p s hpl hls).1
                    have htm : t < a.nx.length := by have := (HMB.out p s hpl hls).2; omega
                    have htI : (t : Int) < a.nx.length := by omega
                    have HSP : Hid (viS l (gSm a.nx l) i s n (T1, o1) = (addT (addT T1 p s n) q t n, o1)) := viS_pair (by rw [HX.out.1]; exact hz) (by rw [HX.out.2.1]; exact hp) (by rw [HX.out.2.2]; exact hq) ht
                    obtain ⟨bm, om, hbm, hbml, hall⟩ := inT_all HM.out (by have := HML.out; omega)
                    obtain ⟨rp0, cp0, hcp, hip⟩ := hall p (by have := HML.out; omega)
                    obtain ⟨gp, fp, rfl, hgpl, hvp⟩ := inI_at hip (show s < (tA (gSm a.nx l) p).length by rw [HMR.out p hpl]; exact hls)
                    rw [HMR.out p hpl] at hcp
                    rw [ht] at hvp
                    subst hbm
                    have HCP := Lib.hid hcp
                    have HVP := Lib.hid hvp
                    have g1 := HV.out.vt.out hpl
                    obtain ⟨g2, g3⟩ := HV.out.vt.get hpl hls
                    have HST := Lib.hid (HV.out.row hpl hls n)
                    have hpn := HRN.out p hpl
                    rw [IntWalk.i64_left] at HST
                    obtain rfl := size_zero hz
                    have HP := Lib.hid hp
                    have HQ := Lib.hid hq
                    clear q1 q2 q3 q4 ht hall hip hcp hvp hz HV HVS hp hq
                    obtain ⟨rp, hrp⟩ : ∃ r, r = rs.getD p 0 := ⟨_, rfl⟩
                    rw [← hrp] at g1 g2 g3 HST hpn
                    have HR1 : Hid (∀ u, (wr.setCell ⟨rp, s, none⟩ u).cell? ⟨wo.heap.size, 1, none⟩ = some (.int .i64 p)) := fun u => by rw [cell_st_ne _ (by show rp ≠ wo.heap.size; omega)]; exact r1
                    have HR2 : Hid (∀ u, (wr.setCell ⟨rp, s, none⟩ u).cell? ⟨wo.heap.size, 2, none⟩ = some (.int .i64 q)) := fun u => by rw [cell_st_ne _ (by show rp ≠ wo.heap.size; omega)]; exact r2
                    have HR0 : Hid (∀ u, (wr.setCell ⟨rp, s, none⟩ u).cell? ⟨wo.heap.size, 0, none⟩ = some (.string ⟨#[]⟩)) := fun u => by rw [cell_st_ne _ (by show rp ≠ wo.heap.size; omega)]; exact r0
                    have HSZ : Hid (∀ u, wo.heap.size < (wr.setCell ⟨rp, s, none⟩ u).heap.size) := fun u => by simpa using hgs
                    generalize (tA T1 p).getD s 0 = np at *
                    generalize addT T1 p s n = T3 at *
                    clear hrp hpn
                    go_wp2
                    refine gen_world2 (fun w3 => ssF w1 g cp w1.heap.size l.length a.nx.length rs T3 o1 w3 ∧ (w3.cell? ⟨wo.heap.size, 0, none⟩ = some (.string ⟨#[]⟩) ∧ w3.cell? ⟨wo.heap.size, 1, none⟩ = some (.int .i64 p) ∧ w3.cell? ⟨wo.heap.size, 2, none⟩ = some (.int .i64 q)) ∧ wo.heap.size < w3.heap.size) ⟨HST.out, ⟨HR0.out _, HR1.out _, HR2.out _⟩, HSZ.out _⟩ ?_
                    clear f1 f2 f3 g1 g2 g3 HST HR0 HR1 HR2 HSZ r0 r1 r2 hgs
                    rintro w3 ⟨hV3, ⟨r0, r1, r2⟩, hgs⟩
                    have f1 := hV3.vt.out hql
                    obtain ⟨f2, f3⟩ := hV3.vt.get hql htm
                    have f5 := cell_later hV3.bel HCP.out
                    have f6 := cell_later hV3.bel HVP.out
                    have HST := Lib.hid (hV3.row hql htm n)
                    have hqn := HRN.out q hql
                    rw [IntWalk.i64_left] at HST
                    obtain ⟨rq, hrq⟩ : ∃ r, r = rs.getD q 0 := ⟨_, rfl⟩
                    rw [← hrq] at f1 f2 f3 HST hqn
                    have HRX : Hid (∀ u j, (w3.setCell ⟨rq, t, none⟩ u).drew.cell? ⟨wo.heap.size, j, none⟩ = w3.cell? ⟨wo.heap.size, j, none⟩) := fun u j => by simp only [World.cell?_drew]; rw [cell_st_ne _ (by show rq ≠ wo.heap.size; omega)]
                    generalize (tA T3 q).getD t 0 = nq at *
                    clear hrq hV3 hqn
                    go_region
                    go_wp2
                    go_roundw
                    case rel =>
                      refine ⟨s + 1, by omega, by go_num, ⟨?_, ?_, ?_⟩, by simpa using hgs, ?_⟩
                      · rw [HRX.out]; exact r0
                      · rw [HRX.out, HP.out]; exact r1
                      · rw [HRX.out, HQ.out]; exact r2
                      · rw [HS1.out, HSP.out]
                        exact HST.out.after (Below.refl _ _).drew
                    case measure => first | (simp [intOf]; done) | (simp [intOf]; omega)
                  · obtain ⟨t, ht⟩ := Int.eq_ofNat_of_zero_le (HMB.out i s hil hls).1
                    have htm : t < a.nx.length := by have := (HMB.out i s hil hls).2; omega
                    have htI : (t : Int) < a.nx.length := by omega
                    have hiM : (i : Int) < (gSm a.nx l).length := by have := HML.out; omega
                    have HSP : Hid (viS l (gSm a.nx l) i s n (T1, o1) = (T1, addL o1 t n)) := viS_lett (by rw [HX.out.1]; exact hz) ht
                    obtain ⟨bm, om, hbm, hbml, hall⟩ := inT_all HM.out (by have := HML.out; omega)
                    obtain ⟨rp0, cp0, hcp, hip⟩ := hall i (by have := HML.out; omega)
                    obtain ⟨gp, fp, rfl, hgpl, hvp⟩ := inI_at hip (show s < (tA (gSm a.nx l) i).length by rw [HMR.out i hil]; exact hls)
                    rw [HMR.out i hil] at hcp
                    rw [ht] at hvp
                    subst hbm
                    have f5 := cell_later HV.out.bel hcp
                    have f6 := cell_later HV.out.bel hvp
                    have f7 := own_get HV.out.z HV.out.op.1 htm
                    have f8 : wr.frozen? ⟨w1.heap.size, t, none⟩ = false := HV.out.z.frozenAt t
                    have HST := Lib.hid (HV.out.out t n)
                    rw [IntWalk.i64_left] at HST
                    have HRX : Hid (∀ u j, (wr.setCell ⟨w1.heap.size, t, none⟩ u).cell? ⟨wo.heap.size, j, none⟩ = wr.cell? ⟨wo.heap.size, j, none⟩) := fun u j => by rw [cell_st_ne _ (by show w1.heap.size ≠ wo.heap.size; exact hrz)]
                    have HR0 := Lib.hid r0
                    have hne := neq_empty hz
                    have hne2 := not_empty hz
                    clear ht hall hip hcp hvp HV HVS
                    generalize o1.getD t 0 = nt at *
                    go_wp2
                    go_roundw
                    case rel =>
                      refine ⟨s + 1, by omega, by go_num, ⟨?_, ?_, ?_⟩, by simpa using hgs, ?_⟩
                      · rw [HRX.out]; exact HR0.out
                      · rw [HRX.out]; exact r1
                      · rw [HRX.out]; exact r2
                      · rw [HS1.out, HSP.out]
                        exact HST.out
                    case measure => first | (simp [intOf]; done) | (simp [intOf]; omega)
              · have hsx : s = a.nx.length := by omega
                have HV3 := Lib.hid hV
                have hsI : ¬ ((s : Int) < a.nx.length) := by omega
                subst hsx
                clear hV hs hls r0 r1 r2 hgs
                go_wp2
                go_roundw
                case rel =>
                  refine ⟨i, _, _, _, by omega, by go_num, rfl, HV3.out, ?_⟩
                  rw [if_neg (by omega)]
                  exact HGV.out
                case measure => first | (simp [intOf]; done) | (simp [intOf]; omega)
          · have hbe : ((i : Int) == (l.length : Int) - 1) = false := by rw [beq_eq_false_iff_ne]; omega
            rw [if_neg hlast] at hG
            obtain ⟨T2, hT2⟩ : ∃ T2, T2 = T := ⟨_, rfl⟩
            rw [← hT2] at hG hV
            have HGV : Hid ((viG l (gSm a.nx l) a.nx.length i (viR l (gSm a.nx l) i a.nx.length (T2, o))).2 = viV a l (lastI (gLn l))) := hG
            have HS := Lib.hid hV
            clear hV hG hx hlt hk hT2
            obtain ⟨wo, rfl⟩ : ∃ wo, wo = wr := ⟨_, rfl⟩
            go_wp2
            go_loopw [13, 14] (fun c _ wr => ∃ s : Nat, s ≤ a.nx.length ∧ c = .int .i64 s ∧ (wr.cell? ⟨wo.heap.size, 0, none⟩ = some (.string x1) ∧ wr.cell? ⟨wo.heap.size, 1, none⟩ = some (.int .i64 x2) ∧ wr.cell? ⟨wo.heap.size, 2, none⟩ = some (.int .i64 x3)) ∧ wo.heap.size < wr.heap.size ∧ ssF w1 g cp w1.heap.size l.length a.nx.length rs (viR l (gSm a.nx l) i s (T2, o)).1 (viR l (gSm a.nx l) i s (T2, o)).2 wr) (fun c _ _ => a.nx.length - (intOf c).toNat)
            case atStart => exact ⟨0, by omega, rfl, ⟨by simp [go_sem], by simp [go_sem], by simp [go_sem]⟩, by simp, HS.out.after ((Below.refl _ _).alloc (Nat.le_refl _) _)⟩
            case round =>
              clear hcell hc0 hc1 hc2 hcl
              try clear d0 d1 d2
              obtain ⟨s, hs, rfl, ⟨r0, r1, r2⟩, hgs, hV⟩ := hrel
              by_cases hls : s < a.nx.length
              · have hlsI : (s : Int) < a.nx.length := by omega
                have hrz : w1.heap.size ≠ wo.heap.size := by have := HBL.out; omega
                have HRN : Hid (∀ k, k < l.length → rs.getD k 0 < wo.heap.size) := HRW.out
                have f1 := hV.vt.out hil
                obtain ⟨f2, f3⟩ := hV.vt.get hil hls
                rw [← HRI.out] at f1 f2 f3
                have HV := Lib.hid hV
                have HVS := Lib.hid hV.vs
                have HS1 : Hid (viR l (gSm a.nx l) i (s + 1) (T2, o) = viS l (gSm a.nx l) i s ((tA (viR l (gSm a.nx l) i s (T2, o)).1 i).getD s 0) (viR l (gSm a.nx l) i s (T2, o))) := rfl
                generalize (tA (viR l (gSm a.nx l) i s (T2, o)).1 i).getD s 0 = n at *
                generalize (viR l (gSm a.nx l) i s (T2, o)) = P1 at *
                obtain ⟨T1, o1⟩ := P1
                simp only at HV
                clear hV
                by_cases hn0 : n = 0
                · have hnb : (n == 0) = true := by rw [beq_iff_eq]; exact hn0
                  have HSP : Hid (viS l (gSm a.nx l) i s n (T1, o1) = (T1, o1)) := by show _ = _; rw [hn0]; exact viS_zero HVS.out HOK.out rfl _ hil s
                  subst hn0
                  go_wp2
                  go_roundw
                  case rel =>
                    refine ⟨s + 1, by omega, by go_num, ⟨r0, r1, r2⟩, hgs, ?_⟩
                    rw [HS1.out, HSP.out]
                    exact HV.out
                  case measure => first | (simp [intOf]; done) | (simp [intOf]; omega)
                · have hnb : (n == 0) = false := by rw [beq_eq_false_iff_ne]; exact hn0
                  by_cases hz : x1.size = 0
                  · obtain ⟨q1, q2, q3, q4⟩ := HRU.out.1 hz
                    obtain ⟨p, hp⟩ := Int.eq_ofNat_of_zero_le q1
                    obtain ⟨q, hq⟩ := Int.eq_ofNat_of_zero_le q3
                    rw [hp] at r1
                    rw [hq] at r2
                    have hpl : p < l.length := by omega
                    have hql : q < l.length := by omega
                    have hpI : (p : Int) < l.length := by omega
                    have hqI : (q : Int) < l.length := by omega
                    have hpM : (p : Int) < (gSm a.nx l).length := by have := HML.out; omega
                    obtain ⟨t, ht⟩ := Int.eq_ofNat_of_zero_le (HMB.out p s hpl hls).1
                    have htm : t < a.nx.length := by have := (HMB.out p s hpl hls).2; omega
                    have htI : (t : Int) < a.nx.length := by omega
                    have HSP : Hid (viS l (gSm a.nx l) i s n (T1, o1) = (addT (addT T1 p s n) q t n, o1)) := viS_pair (by rw [HX.out.1]; exact hz) (by rw [HX.out.2.1]; exact hp) (by rw [HX.out.2.2]; exact hq) ht
                    obtain ⟨bm, om, hbm, hbml, hall⟩ := inT_all HM.out (by have := HML.out; omega)
                    obtain ⟨rp0, cp0, hcp, hip⟩ := hall p (by have := HML.out; omega)
                    obtain ⟨gp, fp, rfl, hgpl, hvp⟩ := inI_at hip (show s < (tA (gSm a.nx l) p).length by rw [HMR.out p hpl]; exact hls)
                    rw [HMR.out p hpl] at hcp
                    rw [ht] at hvp
                    subst hbm
                    have HCP := Lib.hid hcp
                    have HVP := Lib.hid hvp
                    have g1 := HV.out.vt.out hpl
                    obtain ⟨g2, g3⟩ := HV.out.vt.get hpl hls
                    have HST := Lib.hid (HV.out.row hpl hls n)
                    have hpn := HRN.out p hpl
                    rw [IntWalk.i64_left] at HST
                    obtain rfl := size_zero hz
                    have HP := Lib.hid hp
                    have HQ := Lib.hid hq
                    clear q1 q2 q3 q4 ht hall hip hcp hvp hz HV HVS hp hq
                    obtain ⟨rp, hrp⟩ : ∃ r, r = rs.getD p 0 := ⟨_, rfl⟩
                    rw [← hrp] at g1 g2 g3 HST hpn
                    have HR1 : Hid (∀ u, (wr.setCell ⟨rp, s, none⟩ u).cell? ⟨wo.heap.size, 1, none⟩ = some (.int .i64 p)) := fun u => by rw [cell_st_ne _ (by show rp ≠ wo.heap.size; omega)]; exact r1
                    have HR2 : Hid (∀ u, (wr.setCell ⟨rp, s, none⟩ u).cell? ⟨wo.heap.size, 2, none⟩ = some (.int .i64 q)) := fun u => by rw [cell_st_ne _ (by show rp ≠ wo.heap.size; omega)]; exact r2
                    have HR0 : Hid (∀ u, (wr.setCell ⟨rp, s, none⟩ u).cell? ⟨wo.heap.size, 0, none⟩ = some (.string ⟨#[]⟩)) := fun u => by rw [cell_st_ne _ (by show rp ≠ wo.heap.size; omega)]; exact r0
                    have HSZ : Hid (∀ u, wo.heap.size < (wr.setCell ⟨rp, s, none⟩ u).heap.size) := fun u => by simpa using hgs
                    generalize (tA T1 p).getD s 0 = np at *
                    generalize addT T1 p s n = T3 at *
                    clear hrp hpn
                    go_wp2
                    refine gen_world2 (fun w3 => ssF w1 g cp w1.heap.size l.length a.nx.length rs T3 o1 w3 ∧ (w3.cell? ⟨wo.heap.size, 0, none⟩ = some (.string ⟨#[]⟩) ∧ w3.cell? ⟨wo.heap.size, 1, none⟩ = some (.int .i64 p) ∧ w3.cell? ⟨wo.heap.size, 2, none⟩ = some (.int .i64 q)) ∧ wo.heap.size < w3.heap.size) ⟨HST.out, ⟨HR0.out _, HR1.out _, HR2.out _⟩, HSZ.out _⟩ ?_
                    clear f1 f2 f3 g1 g2 g3 HST HR0 HR1 HR2 HSZ r0 r1 r2 hgs
                    rintro w3 ⟨hV3, ⟨r0, r1, r2⟩, hgs⟩
                    have f1 := hV3.vt.out hql
                    obtain ⟨f2, f3⟩ := hV3.vt.get hql htm
                    have f5 := cell_later hV3.bel HCP.out
                    have f6 := cell_later hV3.bel HVP.out
                    have HST := Lib.hid (hV3.row hql htm n)
                    have hqn := HRN.out q hql
                    rw [IntWalk.i64_left] at HST
                    obtain ⟨rq, hrq⟩ : ∃ r, r = rs.getD q 0 := ⟨_, rfl⟩
                    rw [← hrq] at f1 f2 f3 HST hqn
                    have HRX : Hid (∀ u j, (w3.setCell ⟨rq, t, none⟩ u).drew.cell? ⟨wo.heap.size, j, none⟩ = w3.cell? ⟨wo.heap.size, j, none⟩) := fun u j => by simp only [World.cell?_drew]; rw [cell_st_ne _ (by show rq ≠ wo.heap.size; omega)]
                    generalize (tA T3 q).getD t 0 = nq at *
                    clear hrq hV3 hqn
                    go_region
                    go_wp2
                    go_roundw
                    case rel =>
                      refine ⟨s + 1, by omega, by go_num, ⟨?_, ?_, ?_⟩, by simpa using hgs, ?_⟩
                      · rw [HRX.out]; exact r0
                      · rw [HRX.out, HP.out]; exact r1
                      · rw [HRX.out, HQ.out]; exact r2
                      · rw [HS1.out, HSP.out]
                        exact HST.out.after (Below.refl _ _).drew
                    case measure => first | (simp [intOf]; done) | (simp [intOf]; omega)
                  · obtain ⟨t, ht⟩ := Int.eq_ofNat_of_zero_le (HMB.out i s hil hls).1
                    have htm : t < a.nx.length := by have := (HMB.out i s hil hls).2; omega
                    have htI : (t : Int) < a.nx.length := by omega
                    have hiM : (i : Int) < (gSm a.nx l).length := by have := HML.out; omega
                    have HSP : Hid (viS l (gSm a.nx l) i s n (T1, o1) = (T1, addL o1 t n)) := viS_lett (by rw [HX.out.1]; exact hz) ht
                    obtain ⟨bm, om, hbm, hbml, hall⟩ := inT_all HM.out (by have := HML.out; omega)
                    obtain ⟨rp0, cp0, hcp, hip⟩ := hall i (by have := HML.out; omega)
                    obtain ⟨gp, fp, rfl, hgpl, hvp⟩ := inI_at hip (show s < (tA (gSm a.nx l) i).length by rw [HMR.out i hil]; exact hls)
                    rw [HMR.out i hil] at hcp
                    rw [ht] at hvp
                    subst hbm
                    have f5 := cell_later HV.out.bel hcp
                    have f6 := cell_later HV.out.bel hvp
                    have f7 := own_get HV.out.z HV.out.op.1 htm
                    have f8 : wr.frozen? ⟨w1.heap.size, t, none⟩ = false := HV.out.z.frozenAt t
                    have HST := Lib.hid (HV.out.out t n)
                    rw [IntWalk.i64_left] at HST
                    have HRX : Hid (∀ u j, (wr.setCell ⟨w1.heap.size, t, none⟩ u).cell? ⟨wo.heap.size, j, none⟩ = wr.cell? ⟨wo.heap.size, j, none⟩) := fun u j => by rw [cell_st_ne _ (by show w1.heap.size ≠ wo.heap.size; exact hrz)]
                    have HR0 := Lib.hid r0
                    have hne := neq_empty hz
                    have hne2 := not_empty hz
                    clear ht hall hip hcp hvp HV HVS
                    generalize o1.getD t 0 = nt at *
                    go_wp2
                    go_roundw
                    case rel =>
                      refine ⟨s + 1, by omega, by go_num, ⟨?_, ?_, ?_⟩, by simpa using hgs, ?_⟩
                      · rw [HRX.out]; exact HR0.out
                      · rw [HRX.out]; exact r1
                      · rw [HRX.out]; exact r2
                      · rw [HS1.out, HSP.out]
                        exact HST.out
                    case measure => first | (simp [intOf]; done) | (simp [intOf]; omega)
              · have hsx : s = a.nx.length := by omega
                have HV3 := Lib.hid hV
                have hsI : ¬ ((s : Int) < a.nx.length) := by omega
                subst hsx
                clear hV hs hls r0 r1 r2 hgs
                go_wp2
                go_roundw
                case rel =>
                  refine ⟨i, _, _, _, by omega, by go_num, rfl, HV3.out, ?_⟩
                  rw [if_neg (by omega)]
                  exact HGV.out
                case measure => first | (simp [intOf]; done) | (simp [intOf]; omega)
        · have k0 : k = 0 := by omega
          subst k0
          obtain rfl : x = -1 := by omega
          have hz := hV.z
          have hbel := HBA.out.trans (hV.bel.mono HBA.out.size)
          have hR' : o = viV a l (lastI (gLn l)) := hG
          rw [hR'] at hz
          have hlo := HBA.out.size
          clear hV hG hR' hlt hk hx
          go_wp2
          go_ret
          exact ⟨.slice (some ⟨w1.heap.size, 0, none⟩) a.nx.length a.nx.length, rfl, owns_weak hz hlo, hbel⟩
end Go.Proofs.Ytefcdkgfabaffaa

/- ReadGrammar of the program. -/
import Derived.Test.YtimfbnjgodbgoaaDoorTC
import Derived.Test.YtimfbnjgodbgoaaDoorNG
import Derived.Deep.DeepCutAuto
namespace Go.Proofs.YtimfbnjgodbgoaaDoor
open Go.ChangeShapes Go.WideShapes Go.RowKit
set_option linter.unusedVariables false
set_option linter.unusedSimpArgs false
set_option maxHeartbeats 2000000
set_option maxRecDepth 100000
theorem spl_size {c : UInt8} : ∀ {s a : List UInt8}, a ∈ spl c s → a.length ≤ s.length
  | [], a, h => by simp [spl] at h; simp [h]
  | x :: xs, a, h => by
    rw [spl] at h
    split at h
    · rcases List.mem_cons.1 h with h | h
      · simp [h]
      · have := spl_size h
        rw [List.length_cons]; omega
    · have hne := spl_ne c xs
      generalize hq : spl c xs = q at *
      cases q with
      | nil => exact absurd rfl hne
      | cons p q =>
        simp only [List.headD_cons, List.tail_cons] at h
        rcases List.mem_cons.1 h with h | h
        · have := spl_size (s := xs) (a := p) (by rw [hq]; exact List.mem_cons_self ..)
          rw [h, List.length_cons, List.length_cons]; omega
        · have := spl_size (s := xs) (a := a) (by rw [hq]; exact List.mem_cons_of_mem _ h)
          rw [List.length_cons]; omega
def lnS (t : ByteArray) (k : Nat) : ByteArray := ⟨((spl 10 t.data.toList).getD k []).toArray⟩
theorem lnS_size (t : ByteArray) (k : Nat) : (lnS t k).size ≤ t.size := by
  have e : (lnS t k).size = ((spl 10 t.data.toList).getD k []).length := by show Array.size _ = _; rw [List.size_toArray]
  have hz : t.data.toList.length = t.size := by rw [Array.length_toList]; rfl
  rw [e, ← hz]
  rcases Nat.lt_or_ge k (spl 10 t.data.toList).length with h | h
  · rw [List.getD, List.getElem?_eq_getElem h]
    exact spl_size (List.getElem_mem h)
  · rw [List.getD, List.getElem?_eq_none h]; simp
theorem lin_cell (w : World) (t : ByteArray) (ty : TypeId) {k : Nat} (hk : k < (spl 10 t.data.toList).length) : (w.alloc (.cells ((linS 10 t).map Value.string).toArray ty)).cell? ⟨w.heap.size, k, none⟩ = some (.string (lnS t k)) := by
  have h : ((linS 10 t).map Value.string)[k]? = some (.string (lnS t k)) := by
    rw [linS, List.map_map, List.getElem?_map, List.getElem?_eq_getElem hk, lnS, List.getD, List.getElem?_eq_getElem hk]; rfl
  simp [go_sem, h]
theorem inRu_ownX {w : World} {base : Nat} {v : Value} {l : List Ru} (h : OwnRu w base v l) : InRu w v l := by
  by_cases h0 : l = []
  · subst h0
    rcases owns_cases3 h with ⟨rfl, -, -⟩ | ⟨g, cap, rfl, -⟩
    · exact .inl ⟨rfl, rfl, _, _, rfl⟩
    · exact .inl ⟨rfl, rfl, _, _, rfl⟩
  · exact inRu_of_own h h0
/-- what stands while the program reads: the result's box, the lines, the grammar's box -/
def RgR (w : World) (n : Nat) (t : ByteArray) (v : Value) (L : List Ru) (X : World) : Prop :=
  X.cell? ⟨w.heap.size, 0, none⟩ = some (.slice none 0 0) ∧ X.frozen? ⟨w.heap.size, 0, none⟩ = false ∧ X.cell? ⟨w.heap.size + 2, 0, none⟩ = some v ∧ X.frozen? ⟨w.heap.size + 2, 0, none⟩ = false ∧
  (∀ k, k < n → X.cell? ⟨w.heap.size + 1, k, none⟩ = some (.string (lnS t k))) ∧ OwnRu X (w.heap.size + 3) v L ∧ Below w.heap.size w X ∧ w.heap.size + 3 ≤ X.heap.size
theorem RgR.bel {w X Y : World} {n : Nat} {t : ByteArray} {v : Value} {L : List Ru} (h : RgR w n t v L X) (hb : Below X.heap.size X Y) : RgR w n t v L Y := by
  obtain ⟨h1, h2, h3, h4, h5, h6, h7, h8⟩ := h
  have hz := hb.size
  refine ⟨cell_later hb h1, ?_, cell_later hb h3, ?_, fun k hk => cell_later hb (h5 k hk), owns_after h6 hb, h7.trans (hb.mono h7.size), by omega⟩
  · rw [hb.frozen (by simp; omega)]; exact h2
  · rw [hb.frozen (by simp; omega)]; exact h4
theorem grownBy_set0 (w : World) (a : Addr) (u : Value) : w.grownBy (w.setCell a u) (some a.block) :=
  ⟨rfl, rfl, rfl, ((Below.refl 0 w).setCell (Nat.zero_le _) _).size, fun k _ hk => Below.heap_setCell _ _ _ k (fun e => hk (by rw [e]))⟩
theorem RgR.app {w X Y Z : World} {n : Nat} {t : ByteArray} {v v2 : Value} {L L2 : List Ru} {o : Obj} (h : RgR w n t v L X) (hb : Below X.heap.size X Y) (hg : (Y.alloc o).grownBy Z v.ownBlock) (ho : OwnRu Z (w.heap.size + 3) v2 L2) : RgR w n t v2 L2 (Z.setCell ⟨w.heap.size + 2, 0, none⟩ v2) := by
  have hA := h.bel (hb.alloc hb.size o)
  obtain ⟨h1, h2, h3, h4, h5, h6, h7, h8⟩ := hA
  have hz := hg.size
  have hv : ∀ q, v.ownBlock = some q → w.heap.size + 3 ≤ q := fun q e => (h6.lt q e).1
  have hne : ∀ b, b < w.heap.size + 3 → some b ≠ v.ownBlock := fun b hb e => by have := hv b e.symm; omega
  have hv2 : v2.ownBlock ≠ some (w.heap.size + 2) := fun e => by have := (ho.lt _ e).1; omega
  refine ⟨?_, ?_, ?_, ?_, fun k hk => ?_, ?_, ?_, ?_⟩
  · rw [cell_st_ne _ (by simp), hg.cell_far _ (by simp at h8 ⊢; omega) (hne _ (by simp))]; exact h1
  · rw [World.frozen?_setCell, hg.frozen_far _ (by simp at h8 ⊢; omega) (hne _ (by simp))]; exact h2
  · exact cell_st_same _ (by rw [hg.cell_far _ (by simp at h8 ⊢; omega) (hne _ (by simp))]; exact h3)
  · rw [World.frozen?_setCell, hg.frozen_far _ (by simp at h8 ⊢; omega) (hne _ (by simp))]; exact h4
  · rw [cell_st_ne _ (by simp), hg.cell_far _ (by simp at h8 ⊢; omega) (hne _ (by simp))]; exact h5 k hk
  · exact OwnRu.kept ho (grownBy_set0 Z ⟨w.heap.size + 2, 0, none⟩ v2) (.inr hv2)
  · exact (Below.grown h7 hg (by simp at h8 ⊢; omega) (fun q hq => by have := hv q hq; omega)).setCell (by simp) _
  · simp at h8 hz ⊢; omega
theorem blank_uniq {x y x2 y2 : List UInt8} (h : x ++ 32 :: y = x2 ++ 32 :: y2) (h1 : (32 : UInt8) ∉ x) (h2 : (32 : UInt8) ∉ x2) : x = x2 ∧ y = y2 := by
  have e := cut_some (x := x) (y := y) h1
  rw [h, cut_some h2] at e
  injection e with e1 e2
  injection e2 with e2 e3
  exact ⟨e1.symm, e2.symm⟩
theorem cu_line {a : ByteArray} (h : (32 : UInt8) ∉ a.data.toList) : cuR a.data.toList (a, 0, 0) :=
  ⟨fun _ => rfl, fun x y e _ => absurd (by rw [e]; simp) h⟩
theorem cu_pair {a x y : ByteArray} {p q : Int} (h : a.data.toList = x.data.toList ++ 32 :: y.data.toList) (hx : (32 : UInt8) ∉ x.data.toList) (hp : ∀ m, nuF x.data.toList = some m → p = (m : Int)) (hq : ∀ m, nuF y.data.toList = some m → q = (m : Int)) : cuR a.data.toList (⟨#[]⟩, p, q) := by
  refine ⟨fun hn => absurd (by rw [h]; simp) hn, fun x2 y2 e hx2 => ?_⟩
  rw [h] at e
  obtain ⟨rfl, rfl⟩ := blank_uniq e hx hx2
  exact ⟨rfl, hp, hq⟩
theorem lnS_at (t : ByteArray) (k : Nat) : (lnS t k).data.toList = (spl 10 t.data.toList).getD k [] := rfl
def smL (L : List Ru) : Prop := ∀ r ∈ L, r.1.size ≤ 1048576
theorem smL_snoc {L : List Ru} {r : Ru} (h : smL L) (h2 : r.1.size ≤ 1048576) : smL (L ++ [r]) := by
  intro x hx
  rcases List.mem_append.1 hx with q | q
  · exact h x q
  · rw [List.mem_singleton] at q; rw [q]; exact h2
theorem i_ReadGrammar (t : ByteArray) (w : World) (ht : t.size ≤ 1048576) (h : RgW w) :
    Calls Tryd.prog 11 #[.string t] w fun e w' => ∃ v, e = .returned (.tuple #[.agg #[v], .int .i64 (rdC t)]) ∧ OwnRu w' w.heap.size v (rdL t) ∧ Below w.heap.size w w' := by
  by_cases hbig : 20000 < t.size
  · have hc : rdC t = 2 := by rw [rdC, if_pos hbig]
    have hl : rdL t = [] := by rw [rdL, rdR, if_pos hbig]; rfl
    have hg : decide ((t.size : Int) > 20000) = true := decide_eq_true (by omega)
    have hg2 : (t.size : Int) > 20000 := by omega
    rw [hc, hl]
    have c0 := box_cell w (.slice none 0 0) 29
    have hb := (Below.refl w.heap.size w).alloc (Nat.le_refl _) (.cells #[.slice none 0 0] 29)
    go_enter Tryd.func11, Tryd.ntmps11
    go_wp2
    exact bodyPost_ret (v := .tuple #[.agg #[.slice none 0 0], .int .i64 2]) (by simp [results, Tryd.results11, go_sem, cell_st_same _ c0]) rfl ⟨_, rfl, ⟨rfl, .inl ⟨rfl, rfl⟩⟩, hb⟩
  · have hg2 : ¬ (t.size : Int) > 20000 := by omega
    have hz : t.size ≤ 20000 := by omega
    have HW1 := Lib.hid (h.later ((Below.refl w.heap.size w).alloc (Nat.le_refl _) (.cells #[.slice none 0 0] 29)))
    have HB1 := Lib.hid ((Below.refl w.heap.size w).alloc (Nat.le_refl _) (.cells #[.slice none 0 0] 29))
    go_enter Tryd.func11, Tryd.ntmps11
    go_wp2_with fail
    refine (i_split t _ HW1.out hz).mono ?_
    rintro e w2 ⟨rfl, rfl⟩
    obtain ⟨n, hn⟩ : ∃ n, (spl 10 t.data.toList).length = n + 1 := ⟨(spl 10 t.data.toList).length - 1, by
      have := spl_ne 10 t.data.toList
      have : (spl 10 t.data.toList).length ≠ 0 := fun e => this (List.eq_nil_of_length_eq_zero e)
      omega⟩
    have hnl : n ≤ 20000 := by
      have := spl_len_le 10 t.data.toList
      have hz2 : t.data.toList.length = t.size := by rw [Array.length_toList]; rfl
      omega
    rw [hn]
    have hnw : wrap64 (n : Int) = (n : Int) := by unfold wrap64; omega
    have hst : RgR w n t (.slice none 0 0) [] (((w.alloc (.cells #[.slice none 0 0] 29)).alloc (.cells ((linS 10 t).map Value.string).toArray 9)).alloc (.cells #[.slice none 0 0] 29)) := by
      refine ⟨by simp [go_sem], by simp [go_sem], by simp [go_sem], by simp [go_sem], fun k hk => ?_, ⟨rfl, .inl ⟨rfl, rfl⟩⟩, ?_, by simp⟩
      · refine cell_later ((Below.refl _ _).alloc (Nat.le_refl _) _) ?_
        have := lin_cell (w.alloc (.cells #[.slice none 0 0] 29)) t 9 (show k < (spl 10 t.data.toList).length by omega)
        simpa using this
      · exact (((Below.refl w.heap.size w).alloc (Nat.le_refl _) _).alloc (by simp) _).alloc (by simp; omega) _
    have HST := Lib.hid hst
    have HRG := Lib.hid h
    have HN := Lib.hid hn
    clear hst HW1 HB1 hn
    go_upto_region 4 with fail
    generalize ((w.alloc (.cells #[.slice none 0 0] 29)).alloc (.cells ((linS 10 t).map Value.string).toArray 9)).alloc (.cells #[.slice none 0 0] 29) = w3 at *
    go_wp2
    go_loopw [25] (fun i wr => ∃ (k : Nat) (v : Value) (L : List Ru), i = .int .i64 k ∧ k ≤ n ∧ cuL (spl 10 t.data.toList) k L ∧ smL L ∧ RgR w n t v L wr) (fun i _ => n - (intOf i).toNat)
    case atStart => exact ⟨0, .slice none 0 0, [], rfl, by omega, ⟨rfl, fun k hk => by omega⟩, (fun r hr => by cases hr), HST.out⟩
    case round =>
      clear HST
      obtain ⟨k, v, L, rfl, hk, hcu, hsm, hst⟩ := hrel
      have HST := Lib.hid hst
      have HCU := Lib.hid hcu
      have HSM := Lib.hid hsm
      have HRW := Lib.hid (HRG.out.later hst.2.2.2.2.2.2.1)
      have cl5 := hst.2.2.2.2.1
      clear hst hcu hsm
      by_cases hlt : k < n
      · have hki : (k : Int) < n := by omega
        have cl := cl5 k hlt
        have hls : (lnS t k).size ≤ 20000 := Nat.le_trans (lnS_size t k) hz
        have HLA : Hid ((spl 10 t.data.toList).getD k [] = (lnS t k).data.toList) := rfl
        clear cl5
        generalize lnS t k = a at *
        go_wp2_with fail
        refine (i_cut a _ HRW.out hls).mono ?_
        rintro e wA ⟨x, y, b, rfl, hx, hy, hb0, hb1, hbA⟩
        have HSA := Lib.hid (HST.out.bel hbA)
        have HRA := Lib.hid (HRW.out.later hbA)
        have HB0 := Lib.hid hb0
        have HB1 := Lib.hid hb1
        clear HST HRW hbA cl hb0 hb1
        go_upto_if 37 with fail
        go_cut [] (fun wx => ∃ r : Ru, cuR a.data.toList r ∧ r.1.size ≤ 1048576 ∧ wx.cell? ⟨wA.heap.size, 0, none⟩ = some (.string r.1) ∧ wx.cell? ⟨wA.heap.size, 1, none⟩ = some (.int .i64 r.2.1) ∧ wx.cell? ⟨wA.heap.size, 2, none⟩ = some (.int .i64 r.2.2) ∧ Below wA.heap.size wA wx)
        case first =>
          cases b
          · go_wp2
            go_meet
            exact ⟨(a, 0, 0), cu_line (HB0.out trivial), by simp; omega, by simp [go_sem], by simp [go_sem], by simp [go_sem], (Below.refl _ _).alloc (Nat.le_refl _) _⟩
          · go_upto_region 11 with fail
            refine gen_world2 (fun X1 => X1.cell? ⟨wA.heap.size, 0, none⟩ = some (.string ⟨#[]⟩) ∧ X1.cell? ⟨wA.heap.size, 1, none⟩ = some (.int .i64 0) ∧ X1.cell? ⟨wA.heap.size, 2, none⟩ = some (.int .i64 0) ∧ X1.frozen? ⟨wA.heap.size, 1, none⟩ = false ∧ X1.frozen? ⟨wA.heap.size, 2, none⟩ = false ∧ Below wA.heap.size wA X1 ∧ wA.heap.size < X1.heap.size) ⟨by simp [go_sem], by simp [go_sem], by simp [go_sem], by simp [go_sem], by simp [go_sem], (by first | exact (Below.refl _ _).alloc (Nat.le_refl _) _ | exact ((Below.refl wA.heap.size wA).alloc (Nat.le_refl _) _).setCell (p := ⟨wA.heap.size, 0, none⟩) (Nat.le_refl _) _), by simp⟩ ?_
            rintro X1 ⟨x0, x1, x2, f1, f2, hbX, hzX⟩
            have HX := Lib.hid (And.intro x0 (And.intro x1 (And.intro x2 (And.intro f1 (And.intro f2 (And.intro hbX hzX))))))
            have HP1 := Lib.hid (i_parse x X1 (HRA.out.later hbX) hx)
            have HRX := Lib.hid (HRA.out.later hbX)
            clear x0 x1 x2 f1 f2 hbX hzX
            go_wp2_with fail
            refine HP1.out.mono ?_
            rintro e wB ⟨n1, er1, rfl, hn1, hbB⟩
            obtain ⟨x0, x1, x2, f1, f2, hbX, hzX⟩ := HX.out
            have y0 := cell_later hbB x0
            have y1 := cell_later hbB x1
            have y2 := cell_later hbB x2
            have g1 : wB.frozen? ⟨wA.heap.size, 1, none⟩ = false := by rw [hbB.frozen (by simpa using hzX)]; exact f1
            have g2 : wB.frozen? ⟨wA.heap.size, 2, none⟩ = false := by rw [hbB.frozen (by simpa using hzX)]; exact f2
            have hbY := hbX.trans (hbB.mono hbX.size)
            have hzY : wA.heap.size < wB.heap.size := Nat.lt_of_lt_of_le hzX hbB.size
            have HN1 := Lib.hid hn1
            clear HX HP1 HRX x0 x1 x2 f1 f2 hbX hzX hbB hn1
            go_upto_region 12 with fail
            refine gen_world2 (fun Y1 => Y1.cell? ⟨wA.heap.size, 0, none⟩ = some (.string ⟨#[]⟩) ∧ Y1.cell? ⟨wA.heap.size, 1, none⟩ = some (.int .i64 n1) ∧ Y1.cell? ⟨wA.heap.size, 2, none⟩ = some (.int .i64 0) ∧ Y1.frozen? ⟨wA.heap.size, 2, none⟩ = false ∧ Below wA.heap.size wA Y1 ∧ wA.heap.size < Y1.heap.size) ⟨by (rw [World.cell?_setCell_other (h := by intro h; injection h with _ h _; cases h)]; exact y0), cell_st_same _ y1, by (rw [World.cell?_setCell_other (h := by intro h; injection h with _ h _; cases h)]; exact y2), by simpa using g2, hbY.setCell (p := ⟨wA.heap.size, 1, none⟩) (Nat.le_refl _) _, by simpa using hzY⟩ ?_
            rintro Y1 ⟨x0, x1, x2, f2, hbX, hzX⟩
            clear y0 y1 y2 g1 g2 hbY hzY
            have HX := Lib.hid (And.intro x0 (And.intro x1 (And.intro x2 (And.intro f2 (And.intro hbX hzX)))))
            have HP2 := Lib.hid (i_parse y Y1 (HRA.out.later hbX) hy)
            clear x0 x1 x2 f2 hbX hzX
            go_wp2_with fail
            refine HP2.out.mono ?_
            rintro e wC ⟨n2, er2, rfl, hn2, hbC⟩
            obtain ⟨x0, x1, x2, f2, hbX, hzX⟩ := HX.out
            have y0 := cell_later hbC x0
            have y1 := cell_later hbC x1
            have y2 := cell_later hbC x2
            have g2 : wC.frozen? ⟨wA.heap.size, 2, none⟩ = false := by rw [hbC.frozen (by simpa using hzX)]; exact f2
            have HBZ := Lib.hid (hbX.trans (hbC.mono hbX.size))
            have HY0 := Lib.hid (And.intro y0 (And.intro y1 y2))
            have HN2 := Lib.hid hn2
            clear x0 x1 x2 f2 hbX hzX hbC hn2 HX HP2 y0 y1
            go_wp2
            go_meet
            refine ⟨((⟨#[]⟩ : ByteArray), n1, n2), cu_pair (HB1.out trivial).1 (HB1.out trivial).2 HN1.out HN2.out, by show (0 : Nat) ≤ _; omega, ?_, ?_, cell_st_same _ y2, HBZ.out.setCell (p := ⟨wA.heap.size, 2, none⟩) (Nat.le_refl _) _⟩
            · rw [World.cell?_setCell_other (h := by intro h; injection h with _ h _; cases h)]; exact HY0.out.1
            · rw [World.cell?_setCell_other (h := by intro h; injection h with _ h _; cases h)]; exact HY0.out.2.1
        case rest =>
          obtain ⟨⟨p, a1, a2⟩, hcr, hrs, r0, r1, r2, hbC⟩ := hcut
          simp only at r0 r1 r2 hrs
          have hsc := HSA.out.bel hbC
          have ct : World.cell? _ ⟨w.heap.size + 1 + 1, 0, none⟩ = some v := hsc.2.2.1
          have ft : World.frozen? _ ⟨w.heap.size + 1 + 1, 0, none⟩ = false := hsc.2.2.2.1
          have HSC := Lib.hid hsc
          have HO := Lib.hid hsc.2.2.2.2.2.1
          have hz3 := hsc.2.2.2.2.2.2.2
          have HCR := Lib.hid hcr
          have HL : Hid (L.length = k) := HCU.out.1
          have hLn : L.length ≤ 1048576 := by rw [HL.out]; omega
          have hnb : some (w.heap.size + 1 + 1) ≠ v.ownBlock := fun e => by have h3 : w.heap.size + 3 ≤ w.heap.size + 1 + 1 := (HO.out.lt _ e.symm).1; omega
          have hzc : w.heap.size + 1 + 1 < wc.heap.size := by omega
          clear hsc hbC hcr HSA HRA HB0 HB1
          go_wp2_with (at_builtin; refine list_app_ru rfl _ _ rfl (w.heap.size + 3) _ v L (p, a1, a2) rfl (OwnRu.alloc HO.out _) wc.heap.size rfl (by simp [go_sem]) (by simp [go_sem]) (by simp [go_sem]) hLn (by simp; omega) ?_; intro g c w5 ho5 hg5 hge5 hlt5 hor5; have HST5 := Lib.hid (RgR.app HSC.out (Below.refl _ _) hg5 ho5); have c5 : w5.cell? ⟨w.heap.size + 1 + 1, 0, none⟩ = some v := (by rw [hg5.cell_far _ (by simp; omega) hnb]; exact cell_later ((Below.refl _ _).alloc (Nat.le_refl _) _) ct); have f5 : w5.frozen? ⟨w.heap.size + 1 + 1, 0, none⟩ = false := (by rw [hg5.frozen_far _ (by simp; omega) hnb, ((Below.refl wc.heap.size wc).alloc (Nat.le_refl _) _).frozen (p := ⟨w.heap.size + 1 + 1, 0, none⟩) hzc]; exact ft))
          go_roundw
          case rel => exact ⟨k + 1, _, L ++ [(p, a1, a2)], by go_num, by omega, cuL_snoc HCU.out (by rw [HLA.out]; exact HCR.out), smL_snoc HSM.out hrs, HST5.out⟩
          case measure => first | (simp [intOf]; done) | (simp [intOf]; omega)
      · obtain rfl : k = n := by omega
        obtain ⟨a4, n4, c4, rfl⟩ : ∃ a4 n4 c4, v = .slice a4 n4 c4 := by
          rcases owns_cases3 HST.out.2.2.2.2.2.1 with ⟨rfl, -, -⟩ | ⟨g, cap, rfl, -⟩
          · exact ⟨_, _, _, rfl⟩
          · exact ⟨_, _, _, rfl⟩
        have ct : wr.cell? ⟨w.heap.size + 1 + 1, 0, none⟩ = some (.slice a4 n4 c4) := HST.out.2.2.1
        have hcul : cuL (spl 10 t.data.toList) ((spl 10 t.data.toList).length - 1) L := by rw [HN.out]; exact HCU.out
        have HLAW := Lib.hid (rd_law hz hcul)
        have hLn : L.length ≤ 1048576 := by rw [HCU.out.1]; omega
        have HV := Lib.hid (i_ValidGrammar (.slice a4 n4 c4) L wr hLn HSM.out (inRu_ownX HST.out.2.2.2.2.2.1))
        clear hcul cl5 hlt
        go_wp2_with fail
        refine HV.out.mono ?_
        rintro e wV ⟨rfl, hbV⟩
        have HSV := Lib.hid (HST.out.bel hbV)
        have HRV := Lib.hid (HRW.out.later hbV)
        have HT := Lib.hid (i_GrammarText (.slice a4 n4 c4) L wV hLn HSM.out (inRu_ownX HSV.out.2.2.2.2.2.1) HRV.out.2.2.2)
        have ct : wV.cell? ⟨w.heap.size + 1 + 1, 0, none⟩ = some (.slice a4 n4 c4) := HSV.out.2.2.1
        have cr : wV.cell? ⟨w.heap.size, 0, none⟩ = some (.slice none 0 0) := HSV.out.1
        have fr : wV.frozen? ⟨w.heap.size, 0, none⟩ = false := HSV.out.2.1
        clear HV HST HRW hbV
        cases hok : gOk L
        · have hr : rdR t = none := HLAW.out.2 (by rw [hok]; simp)
          have HC : Hid (rdC t = 5 ∧ rdL t = []) := by refine ⟨?_, ?_⟩ <;> simp [rdC, rdL, hr, show ¬ 20000 < t.size by omega]
          clear hr hok
          go_wp2
          rw [HC.out.1, HC.out.2]
          exact bodyPost_ret (v := .tuple #[.agg #[.slice none 0 0], .int .i64 5]) (by simp [results, Tryd.results11, go_sem, cell_st_same _ cr]) rfl ⟨_, rfl, ⟨rfl, .inl ⟨rfl, rfl⟩⟩, HSV.out.2.2.2.2.2.2.1.setCell (p := ⟨w.heap.size, 0, none⟩) (Nat.le_refl _) _⟩
        · go_wp2_with fail
          refine HT.out.mono ?_
          rintro e wT ⟨rfl, hbT⟩
          have HSV := Lib.hid (HSV.out.bel hbT)
          have ct : wT.cell? ⟨w.heap.size + 1 + 1, 0, none⟩ = some (.slice a4 n4 c4) := HSV.out.2.2.1
          have cr : wT.cell? ⟨w.heap.size, 0, none⟩ = some (.slice none 0 0) := HSV.out.1
          have fr : wT.frozen? ⟨w.heap.size, 0, none⟩ = false := HSV.out.2.1
          clear HT HRV hbT
          by_cases hte : gTx L = t
          · have hr : rdR t = some L := HLAW.out.1 ⟨hok, hte⟩
            have HC : Hid (rdC t = 0 ∧ rdL t = L) := by refine ⟨?_, ?_⟩ <;> simp [rdC, rdL, hr, show ¬ 20000 < t.size by omega]
            rw [hte]
            clear hr hok hte HLAW
            go_wp2
            rw [HC.out.1, HC.out.2]
            have ho := HSV.out.2.2.2.2.2.1
            have hq : (Value.slice a4 n4 c4).ownBlock ≠ some w.heap.size := fun e => by have h3 : w.heap.size + 3 ≤ w.heap.size := (ho.lt _ e).1; omega
            exact bodyPost_ret (v := .tuple #[.agg #[.slice a4 n4 c4], .int .i64 0]) (by simp [results, Tryd.results11, go_sem, cell_st_same _ cr]) rfl ⟨_, rfl, OwnRu.weak (OwnRu.kept ho (grownBy_set0 wT ⟨w.heap.size, 0, none⟩ _) (.inr hq)) (by omega), HSV.out.2.2.2.2.2.2.1.setCell (p := ⟨w.heap.size, 0, none⟩) (Nat.le_refl _) _⟩
          · have hr : rdR t = none := HLAW.out.2 (fun h => hte h.2)
            have HC : Hid (rdC t = 5 ∧ rdL t = []) := by refine ⟨?_, ?_⟩ <;> simp [rdC, rdL, hr, show ¬ 20000 < t.size by omega]
            have hne : ((gTx L).toList == t.toList) = false := by
              rw [beq_eq_false_iff_ne]; intro e
              rw [ByteArray.toList_eq, ByteArray.toList_eq] at e
              exact hte (ByteArray.ext (Array.toList_inj.1 e))
            clear hr hok hte HLAW
            generalize gTx L = q at *
            go_wp2
            rw [HC.out.1, HC.out.2]
            exact bodyPost_ret (v := .tuple #[.agg #[.slice none 0 0], .int .i64 5]) (by simp [results, Tryd.results11, go_sem, cell_st_same _ cr]) rfl ⟨_, rfl, ⟨rfl, .inl ⟨rfl, rfl⟩⟩, HSV.out.2.2.2.2.2.2.1.setCell (p := ⟨w.heap.size, 0, none⟩) (Nat.le_refl _) _⟩
end Go.Proofs.YtimfbnjgodbgoaaDoor

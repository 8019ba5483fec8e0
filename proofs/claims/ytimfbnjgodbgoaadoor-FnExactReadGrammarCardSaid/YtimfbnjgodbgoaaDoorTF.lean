/- ReadGrammar of the reference. -/
import Derived.Test.YtimfbnjgodbgoaaDoorTE
import Derived.Test.YtimfbnjgodbgoaaDoorUT
namespace Go.Proofs.YtimfbnjgodbgoaaDoor
open Go.ChangeShapes Go.WideShapes Go.RowKit
set_option linter.unusedVariables false
set_option linter.unusedSimpArgs false
set_option maxHeartbeats 2000000
set_option maxRecDepth 100000
theorem ln_let {a : ByteArray} (h1 : a.size = 1) (h2 : validB a = true) : lnR a.data.toList = some (a, 0, 0) := by
  unfold lnR
  rw [if_pos]
  exact ⟨by rw [Array.length_toList]; exact h1, h2⟩
theorem ln_not {a : ByteArray} (h : ¬ (a.size = 1 ∧ validB a = true)) : lnR a.data.toList = match spl 32 a.data.toList with
  | [x, y] => match nuF x, nuF y with
    | some m, some n => some (⟨#[]⟩, (m : Int), (n : Int))
    | _, _ => none
  | _ => none := by
  unfold lnR
  rw [if_neg]
  · rfl
  · rintro ⟨h1, h2⟩
    exact h ⟨by rw [Array.length_toList] at h1; exact h1, h2⟩
theorem ln_two {a : ByteArray} (h : ¬ (a.size = 1 ∧ validB a = true)) (h2 : (linS 32 a).length ≠ 2) : lnR a.data.toList = none := by
  rw [ln_not h]
  rw [lin_len] at h2
  split
  · rename_i x y e
    rw [e] at h2
    exact absurd rfl h2
  · rfl
theorem ln_one {a x y : ByteArray} (h : ¬ (a.size = 1 ∧ validB a = true)) (h2 : linS 32 a = [x, y]) : lnR a.data.toList = if nuB x = true ∧ nuB y = true then some (⟨#[]⟩, nuN x, nuN y) else none := by
  have e : spl 32 a.data.toList = [x.data.toList, y.data.toList] := by
    have h3 : (linS 32 a).map (fun z => z.data.toList) = [x.data.toList, y.data.toList] := by rw [h2]; rfl
    rw [linS, List.map_map] at h3
    rw [← h3]
    conv => lhs; rw [← List.map_id (spl 32 a.data.toList)]
    apply List.map_congr_left
    intro z _
    rfl
  rw [ln_not h, e]
  simp only [nuB, nuN]
  rcases Option.eq_none_or_eq_some (nuF x.data.toList) with hx | ⟨m, hx⟩ <;> rcases Option.eq_none_or_eq_some (nuF y.data.toList) with hy | ⟨k, hy⟩ <;> simp [hx, hy]
theorem rd_none {t : ByteArray} (hz : t.size ≤ 20000) (h : rdR t = none) : rdC t = 5 ∧ rdL t = [] := by
  refine ⟨?_, ?_⟩ <;> simp [rdC, rdL, h, show ¬ 20000 < t.size by omega]
theorem rd_some {t : ByteArray} {L : List Ru} (hz : t.size ≤ 20000) (h : rdR t = some L) : rdC t = 0 ∧ rdL t = L := by
  refine ⟨?_, ?_⟩ <;> simp [rdC, rdL, h, show ¬ 20000 < t.size by omega]
theorem rd_bad {t : ByteArray} {n k : Nat} (hn : (spl 10 t.data.toList).length = n + 1) (hk : k < n) (h : lnR (lnS t k).data.toList = none) : rdR t = none := by
  have h2 := rdT_bad (A := spl 10 t.data.toList) (k := k) h (n - (k + 1))
  rw [show k + 1 + (n - (k + 1)) = n by omega] at h2
  unfold rdR
  rw [hn, Nat.add_sub_cancel, h2]
  split <;> rfl
theorem rd_end {t : ByteArray} {n : Nat} {L : List Ru} (hz : t.size ≤ 20000) (hn : (spl 10 t.data.toList).length = n + 1) (h : rdT (spl 10 t.data.toList) n = some L) : rdR t = if (lnS t n).size = 0 ∧ gOk L = true then some L else none := by
  have e : (lnS t n).size = 0 ↔ (spl 10 t.data.toList).getD n [] = [] := by
    have : (lnS t n).size = ((spl 10 t.data.toList).getD n []).length := by show Array.size _ = _; rw [List.size_toArray]
    rw [this]; exact List.length_eq_zero_iff
  unfold rdR
  rw [if_neg (by omega), hn, Nat.add_sub_cancel, h]
  simp only
  by_cases hc : (spl 10 t.data.toList).getD n [] = [] ∧ gOk L = true
  · rw [if_pos hc, if_pos ⟨e.2 hc.1, hc.2⟩]
  · rw [if_neg hc, if_neg (fun q => hc ⟨e.1 q.1, q.2⟩)]
/-- what stands while the reference reads -/
def SgR (w : World) (bg gl n : Nat) (t : ByteArray) (v : Value) (L : List Ru) (X : World) : Prop :=
  X.cell? ⟨w.heap.size, 0, none⟩ = some (.slice none 0 0) ∧ X.frozen? ⟨w.heap.size, 0, none⟩ = false ∧ X.cell? ⟨bg, 0, none⟩ = some v ∧ X.frozen? ⟨bg, 0, none⟩ = false ∧
  (∀ k, k ≤ n → X.cell? ⟨gl, k, none⟩ = some (.string (lnS t k))) ∧ OwnRu X (bg + 1) v L ∧ Below w.heap.size w X ∧ bg + 1 ≤ X.heap.size ∧ gl < bg ∧ w.heap.size < bg
theorem SgR.bel {w X Y : World} {bg gl n : Nat} {t : ByteArray} {v : Value} {L : List Ru} (h : SgR w bg gl n t v L X) (hb : Below X.heap.size X Y) : SgR w bg gl n t v L Y := by
  obtain ⟨h1, h2, h3, h4, h5, h6, h7, h8, h9, h10⟩ := h
  have hz := hb.size
  refine ⟨cell_later hb h1, ?_, cell_later hb h3, ?_, fun k hk => cell_later hb (h5 k hk), owns_after h6 hb, h7.trans (hb.mono h7.size), by omega, h9, h10⟩
  · rw [hb.frozen (by simp; omega)]; exact h2
  · rw [hb.frozen (by simp; omega)]; exact h4
theorem SgR.app {w X Y Z : World} {bg gl n : Nat} {t : ByteArray} {v v2 : Value} {L L2 : List Ru} {o : Obj} (h : SgR w bg gl n t v L X) (hb : Below X.heap.size X Y) (hg : (Y.alloc o).grownBy Z v.ownBlock) (ho : OwnRu Z (bg + 1) v2 L2) : SgR w bg gl n t v2 L2 (Z.setCell ⟨bg, 0, none⟩ v2) := by
  have hA := h.bel (hb.alloc hb.size o)
  obtain ⟨h1, h2, h3, h4, h5, h6, h7, h8, h9, h10⟩ := hA
  have hz := hg.size
  have hv : ∀ q, v.ownBlock = some q → bg + 1 ≤ q := fun q e => (h6.lt q e).1
  have hne : ∀ b, b < bg + 1 → some b ≠ v.ownBlock := fun b hb e => by have := hv b e.symm; omega
  have hv2 : v2.ownBlock ≠ some bg := fun e => by have := (ho.lt _ e).1; omega
  refine ⟨?_, ?_, ?_, ?_, fun k hk => ?_, ?_, ?_, ?_, h9, h10⟩
  · rw [cell_st_ne _ (by simp; omega), hg.cell_far _ (by simp at h8 ⊢; omega) (hne _ (by simp; omega))]; exact h1
  · rw [World.frozen?_setCell, hg.frozen_far _ (by simp at h8 ⊢; omega) (hne _ (by simp; omega))]; exact h2
  · exact cell_st_same _ (by rw [hg.cell_far _ (by simp at h8 ⊢; omega) (hne _ (by simp))]; exact h3)
  · rw [World.frozen?_setCell, hg.frozen_far _ (by simp at h8 ⊢; omega) (hne _ (by simp))]; exact h4
  · rw [cell_st_ne _ (by simp; omega), hg.cell_far _ (by simp at h8 ⊢; omega) (hne _ (by simp; omega))]; exact h5 k hk
  · exact OwnRu.kept ho (grownBy_set0 Z ⟨bg, 0, none⟩ v2) (.inr hv2)
  · exact (Below.grown h7 hg (by simp at h8 ⊢; omega) (fun q hq => by have := hv q hq; omega)).setCell (by simp; omega) _
  · simp at h8 hz ⊢; omega
theorem OwnRu.sl {w : World} {base : Nat} {v : Value} {l : List Ru} (h : OwnRu w base v l) : ∃ a c, v = .slice a l.length c := by
  rcases owns_cases3 h with ⟨rfl, h0, -⟩ | ⟨g, cap, rfl, -⟩
  · exact ⟨none, 0, by rw [h0]⟩
  · exact ⟨_, _, rfl⟩
theorem own_getT {w : World} {base e n : Nat} {v : Value} {xs : List ByteArray} (h : w.ownsRow base e 1 v n (xs.map Value.string)) (h0 : n ≠ 0) : ∃ g cap, v = .slice (some ⟨g, 0, none⟩) n cap ∧ base ≤ g ∧ g < w.heap.size ∧ ∀ k, k < n → w.cell? ⟨g, k, none⟩ = some (.string (xs.getD k ⟨#[]⟩)) := by
  obtain ⟨a, cap, rfl, hs, -⟩ := owns_sl3 h
  obtain ⟨g, rfl⟩ := hs h0
  refine ⟨g, cap, rfl, (h.lt g rfl).1, (h.lt g rfl).2, fun k hk => ?_⟩
  have hl : xs.length = n := by have := h.1; simpa using this
  rw [h.cellAt k (by omega)]; simp [List.getD, show k < xs.length by omega]
theorem two_of {α : Type} : ∀ {l : List α}, l.length = 2 → ∃ x y, l = [x, y]
  | [x, y], _ => ⟨x, y, rfl⟩
theorem lin_size {c : UInt8} {s x : ByteArray} (h : x ∈ linS c s) : x.size ≤ s.size := by
  obtain ⟨a, ha, rfl⟩ := List.mem_map.1 h
  have := spl_size ha
  have e : (ByteArray.mk a.toArray).size = a.length := by show Array.size _ = _; rw [List.size_toArray]
  have hz : s.data.toList.length = s.size := by rw [Array.length_toList]; rfl
  omega
theorem s_ReadGrammar (t : ByteArray) (w : World) (ht : t.size ≤ 1048576) :
    Calls Tryd.prog 10 #[.string t] w fun e w' => ∃ v, e = .returned (.tuple #[.agg #[v], .int .i64 (rdC t)]) ∧ OwnRu w' w.heap.size v (rdL t) ∧ Below w.heap.size w w' := by
  by_cases hbig : 20000 < t.size
  · have hc : rdC t = 2 := by rw [rdC, if_pos hbig]
    have hl : rdL t = [] := by rw [rdL, rdR, if_pos hbig]; rfl
    have hg2 : (t.size : Int) > 20000 := by omega
    rw [hc, hl]
    have c0 := box_cell w (.slice none 0 0) 29
    have hb := (Below.refl w.heap.size w).alloc (Nat.le_refl _) (.cells #[.slice none 0 0] 29)
    go_enter Tryd.func10, Tryd.ntmps10
    go_wp2
    exact bodyPost_ret (v := .tuple #[.agg #[.slice none 0 0], .int .i64 2]) (by simp [results, Tryd.results10, go_sem, cell_st_same _ c0]) rfl ⟨_, rfl, ⟨rfl, .inl ⟨rfl, rfl⟩⟩, hb⟩
  · have hg2 : ¬ (t.size : Int) > 20000 := by omega
    have hz : t.size ≤ 20000 := by omega
    have HB1 := Lib.hid ((Below.refl w.heap.size w).alloc (Nat.le_refl _) (.cells #[.slice none 0 0] 29))
    obtain ⟨n, hn⟩ : ∃ n, (spl 10 t.data.toList).length = n + 1 := ⟨(spl 10 t.data.toList).length - 1, by
      have := spl_ne 10 t.data.toList
      have : (spl 10 t.data.toList).length ≠ 0 := fun e => this (List.eq_nil_of_length_eq_zero e)
      omega⟩
    have hnl : n ≤ 20000 := by
      have := spl_len_le 10 t.data.toList
      have hz2 : t.data.toList.length = t.size := by rw [Array.length_toList]; rfl
      omega
    go_enter Tryd.func10, Tryd.ntmps10
    go_wp2_with fail
    refine (s_l01Split t 10 10 rfl _ hz).mono ?_
    rintro e w2 ⟨vl, rfl, hvl, hb2⟩
    rw [lin_len, hn] at hvl
    obtain ⟨gl, cl, rfl, hgl1, hgl2, hgc⟩ := own_getT hvl (by omega)
    have hst : SgR w w2.heap.size gl n t (.slice none 0 0) [] (w2.alloc (.cells #[.slice none 0 0] 29)) := by
      have hz2 := hb2.size
      have c0 : w2.cell? ⟨w.heap.size, 0, none⟩ = some (.slice none 0 0) := cell_later hb2 (box_cell w _ _)
      have f0 : w2.frozen? ⟨w.heap.size, 0, none⟩ = false := by rw [hb2.frozen (by simp)]; simp [go_sem]
      have hal := (Below.refl w2.heap.size w2).alloc (Nat.le_refl _) (.cells #[.slice none 0 0] 29)
      simp at hz2
      refine ⟨cell_later hal c0, ?_, by simp [go_sem], by simp [go_sem], fun k hk => ?_, ⟨rfl, .inl ⟨rfl, rfl⟩⟩, (below_box hb2).trans (hal.mono (by omega)), by simp, hgl2, by omega⟩
      · rw [hal.frozen (p := ⟨w.heap.size, 0, none⟩) (by simp; omega)]; exact f0
      · refine cell_later hal ?_
        rw [hgc k (by omega)]
        rw [linS, List.getD, List.getElem?_map, List.getElem?_eq_getElem (by omega), lnS, List.getD, List.getElem?_eq_getElem (by omega)]; rfl
    have HST := Lib.hid hst
    have HN := Lib.hid hn
    clear hst hn hvl hb2 hgc HB1 hgl1
    go_upto_region 5 with fail
    generalize w2.alloc (.cells #[.slice none 0 0] 29) = w3 at *
    obtain ⟨bg, hbg⟩ : ∃ b, b = w2.heap.size := ⟨_, rfl⟩
    rw [← hbg] at HST hgl2 ⊢
    clear hbg
    go_wp2
    go_loopw [6] (fun i wr => ∃ (k : Nat) (v : Value) (L : List Ru), i = .int .i64 k ∧ k ≤ n ∧ rdT (spl 10 t.data.toList) k = some L ∧ smL L ∧ SgR w bg gl n t v L wr) (fun i _ => n - (intOf i).toNat)
    case atStart => exact ⟨0, .slice none 0 0, [], rfl, by omega, rfl, (fun r hr => by cases hr), HST.out⟩
    case round =>
      clear HST
      obtain ⟨k, v, L, rfl, hk, hcu, hsm, hst⟩ := hrel
      have HST := Lib.hid hst
      have HCU := Lib.hid hcu
      have HSM := Lib.hid hsm
      have cl5 := hst.2.2.2.2.1
      clear hst hcu hsm
      have hkw : IntKind.i64.wrap ((k : Int) + 1) = (k : Int) + 1 := IntWalk.i64_in _ (by omega)
      by_cases hlt : k < n
      · have hki : (k : Int) + 1 < (n : Int) + 1 := by omega
        have hki2 : (k : Int) < (n : Int) + 1 := by omega
        have cl := cl5 k (by omega)
        have hls : (lnS t k).size ≤ 20000 := Nat.le_trans (lnS_size t k) hz
        have HLA : Hid ((spl 10 t.data.toList).getD k [] = (lnS t k).data.toList) := rfl
        have HBAD := Lib.hid (fun h => rd_none hz (rd_bad HN.out hlt h))
        clear cl5
        generalize lnS t k = a at *
        go_upto_region 8 with fail
        go_cut [38] (fun s38 wx => s38 = .bool (decide (a.size = 1 ∧ validB a = true)) ∧ wx = wr)
        case first =>
          by_cases h1 : a.size = 1
          · have h1i : ((a.size : Int) == 1) = true := by rw [h1]; rfl
            go_wp2_with fail
            refine (s_l01Ok a _ (by unfold maxLen; omega)).mono ?_
            rintro e w4 ⟨rfl, rfl⟩
            go_wp2
            go_meet
            simp [h1]
          · have h1i : ((a.size : Int) == 1) = false := by rw [beq_eq_false_iff_ne]; omega
            go_wp2
            go_meet
            simp [h1]
        case rest =>
          obtain ⟨rfl, rfl⟩ := hcut
          by_cases hlet : a.size = 1 ∧ validB a = true
          · have hd : decide (a.size = 1 ∧ validB a = true) = true := decide_eq_true hlet
            rw [hd]
            have HLN := Lib.hid (rdT_step HCU.out (by rw [HLA.out]; exact ln_let hlet.1 hlet.2))
            have cg := HST.out.2.2.1
            have HO := Lib.hid HST.out.2.2.2.2.2.1
            have HLL := Lib.hid (rdT_some HCU.out).1
            have hLn : L.length ≤ 1048576 := by rw [HLL.out]; omega
            clear hd hlet HBAD
            go_upto_region 9 with fail
            refine wp_region_L (S := fun w' => Below wc.heap.size wc w' ∧ w'.cell? ⟨bg, 0, none⟩ = some v ∧ w'.cell? ⟨gl, k, none⟩ = some (.string a)) (T := [8]) (by kernel_rfl) ⟨Below.drew (Below.refl _ _), by simpa using cg, by simpa using cl⟩ (fun hHeld => ?_)
            refine wpAnyL_take (i := 0) (v := ?_) rfl (by kernel_rfl) (by kernel_rfl) (by kernel_rfl) (by kernel_rfl) (fun _ _ _ h => h) (Or.inl ⟨by rfl, ?_⟩) (by assumption) ?_
            rotate_left
            · intro w hSw
              try dsimp only at hSw
              go_simp
              all_goals with_reducible rfl
            try simp only [Act.put, List.setIfInBounds_toArray, List.set_cons_zero, List.set_cons_succ]
            refine wpAnyL_take (i := 1) (v := ?_) rfl (by kernel_rfl) (by kernel_rfl) (by kernel_rfl) (by kernel_rfl) (fun _ _ _ h => h) (Or.inl ⟨by rfl, ?_⟩) (by assumption) ?_
            rotate_left
            · intro w hSw
              try dsimp only at hSw
              go_simp
              all_goals with_reducible rfl
            try simp only [Act.put, List.setIfInBounds_toArray, List.set_cons_zero, List.set_cons_succ]
            refine wpAnyL_take (i := 2) (v := ?_) rfl (by kernel_rfl) (by kernel_rfl) (by kernel_rfl) (by kernel_rfl) (fun _ _ _ h => h) (Or.inl ⟨by rfl, ?_⟩) (by assumption) ?_
            rotate_left
            · intro w hSw
              try dsimp only at hSw
              go_simp
              all_goals with_reducible rfl
            try simp only [Act.put, List.setIfInBounds_toArray, List.set_cons_zero, List.set_cons_succ]
            refine wpAnyL_take (i := 3) (v := ?_) rfl (by kernel_rfl) (by kernel_rfl) (by kernel_rfl) (by kernel_rfl) (fun _ _ _ h => h) (Or.inl ⟨by rfl, ?_⟩) (by assumption) ?_
            rotate_left
            · intro w hSw
              try dsimp only at hSw
              go_simp
              all_goals with_reducible rfl
            try simp only [Act.put, List.setIfInBounds_toArray, List.set_cons_zero, List.set_cons_succ]
            refine wpAnyL_take (i := 4) (v := ?_) rfl (by kernel_rfl) (by kernel_rfl) (by kernel_rfl) (by kernel_rfl) (fun _ _ _ h => h) (Or.inl ⟨by rfl, ?_⟩) (by assumption) ?_
            rotate_left
            · intro w hSw
              try dsimp only at hSw
              go_simp
              all_goals with_reducible rfl
            try simp only [Act.put, List.setIfInBounds_toArray, List.set_cons_zero, List.set_cons_succ]
            refine wpAnyL_take (i := 5) (v := ?_) rfl (by kernel_rfl) (by kernel_rfl) (by kernel_rfl) (by kernel_rfl) (fun _ _ _ h => h) (Or.inl ⟨by rfl, ?_⟩) (by assumption) ?_
            rotate_left
            · intro w hSw
              try dsimp only at hSw
              go_simp
              all_goals with_reducible rfl
            try simp only [Act.put, List.setIfInBounds_toArray, List.set_cons_zero, List.set_cons_succ]
            refine wpAnyL_take (i := 6) (v := ?_) rfl (by kernel_rfl) (by kernel_rfl) (by kernel_rfl) (by kernel_rfl) (fun _ _ _ h => h) (Or.inl ⟨by rfl, ?_⟩) (by assumption) ?_
            rotate_left
            · intro w hSw
              try dsimp only at hSw
              go_simp
              all_goals with_reducible rfl
            try simp only [Act.put, List.setIfInBounds_toArray, List.set_cons_zero, List.set_cons_succ]
            obtain ⟨s0, s1, s2⟩ := hHeld
            refine wpAnyL_one (i := 7) (by kernel_rfl) (by rfl) rfl (fun K hK => ?_)
            go_simp
            go_wp2_with fail
            refine hK.out _ _ ⟨s0.alloc s0.size _, cell_later ((Below.refl _ _).alloc (Nat.le_refl _) _) s1, cell_later ((Below.refl _ _).alloc (Nat.le_refl _) _) s2⟩ ?_
            clear hK K
            try simp only [Act.put, List.setIfInBounds_toArray, List.set_cons_zero, List.set_cons_succ]
            refine wpAnyL_tail (i := 8) (by kernel_rfl) (by rfl) rfl (fun K hK => ?_)
            refine step_app_ru (by rfl) _ _ (by rfl) (bg + 1) _ v L (a, 0, 0) (by rfl) (World.ownsRow.alloc (owns_after HO.out s0) _) wc.drew.heap.size (by rfl) (by simp [go_sem]) (by simp [go_sem]) (by simp [go_sem]) hLn (by have := s0.size; have := HST.out.2.2.2.2.2.2.2.1; simp; omega) ?_
            intro g3 c3 w4 ho4 hg4 hge4 hlt4 hor4
            refine hK.out _ _ ?_
            clear hK K
            try simp only [Act.put, List.setIfInBounds_toArray, List.set_cons_zero, List.set_cons_succ]
            have HST5 := Lib.hid (SgR.app HST.out s0 hg4 ho4)
            have hnb : some bg ≠ v.ownBlock := fun e => by have h3 : bg + 1 ≤ bg := (HO.out.lt _ e.symm).1; omega
            have hbgl : bg < wc.heap.size := by have := HST.out.2.2.2.2.2.2.2.1; omega
            have c5 : w4.cell? ⟨bg, 0, none⟩ = some v := by
              rw [hg4.cell_far _ (by simp; omega) hnb]; exact cell_later ((Below.refl _ _).alloc (Nat.le_refl _) _) s1
            have f5 : w4.frozen? ⟨bg, 0, none⟩ = false := by
              rw [hg4.frozen_far _ (by simp; omega) hnb, World.frozen?_drew, ((Below.refl wc.heap.size wc).alloc (Nat.le_refl _) _).frozen (p := ⟨bg, 0, none⟩) hbgl]; exact HST.out.2.2.2.1
            clear ho4 hg4 hor4 s0 s1 s2 cg cl
            refine wpAny_one (i := 9) (by kernel_rfl) rfl (fun K hK => ?_)
            go_simp
            go_wp2_with fail
            refine hK.out _ _ ?_
            clear hK K
            try simp only [Act.put, List.setIfInBounds_toArray, List.set_cons_zero, List.set_cons_succ]
            refine wpAny_one (i := 10) (by kernel_rfl) rfl (fun K hK => ?_)
            go_simp
            go_wp2_with fail
            refine hK.out _ _ ?_
            clear hK K
            try simp only [Act.put, List.setIfInBounds_toArray, List.set_cons_zero, List.set_cons_succ]
            refine wpAny_done (by kernel_rfl) ?_ _
            go_wp2
            go_roundw
            case rel => exact ⟨k + 1, _, L ++ [(a, 0, 0)], by go_num, by omega, HLN.out, smL_snoc HSM.out (by show a.size ≤ _; omega), HST5.out⟩
            case measure => first | (simp [intOf]; done) | (simp [intOf]; omega)
          · have hd : decide (a.size = 1 ∧ validB a = true) = false := decide_eq_false hlet
            rw [hd]
            have HLT := Lib.hid (fun h => ln_two (a := a) hlet h)
            have HLO := Lib.hid (fun x y h => ln_one (a := a) (x := x) (y := y) hlet h)
            have hl0 : (linS 32 a).length ≠ 0 := by
              rw [lin_len]; exact fun e => spl_ne 32 a.data.toList (List.eq_nil_of_length_eq_zero e)
            clear hd hlet
            go_wp2_with fail
            refine (s_l01Split a 32 32 rfl _ hls).mono ?_
            rintro e w4 ⟨vw, rfl, hvw, hb4⟩
            obtain ⟨gw, cw, rfl, -, -, hgw⟩ := own_getT hvw hl0
            have HS4 := Lib.hid (HST.out.bel hb4)
            have cr := HS4.out.1
            have fr := HS4.out.2.1
            clear HST cl hb4 hvw
            by_cases h2 : (linS 32 a).length = 2
            · obtain ⟨x, y, hxy⟩ := two_of h2
              have cx := hgw 0 (by omega)
              have cy := hgw 1 (by omega)
              rw [hxy] at cx cy
              have hx : x.size ≤ 20000 := Nat.le_trans (lin_size (c := 32) (s := a) (by rw [hxy]; simp)) hls
              have hy : y.size ≤ 20000 := Nat.le_trans (lin_size (c := 32) (s := a) (by rw [hxy]; simp)) hls
              have HLX := Lib.hid (HLO.out x y hxy)
              rw [h2]
              simp only [List.getD_cons_zero, List.getD_cons_succ] at cx cy
              clear hgw hl0 hxy h2 HLT HLO
              go_wp2_with fail
              refine (s_l01Number x _ hx).mono ?_
              rintro e w5 ⟨rfl, rfl⟩
              go_wp2_with fail
              refine (s_l01Number y _ hy).mono ?_
              rintro e w5 ⟨rfl, rfl⟩
              by_cases hb : nuB x = true ∧ nuB y = true
              · have HLN := Lib.hid (rdT_step HCU.out (by rw [HLA.out, HLX.out, if_pos hb]))
                rw [hb.1, hb.2]
                have cg := HS4.out.2.2.1
                have fg := HS4.out.2.2.2.1
                have HO := Lib.hid HS4.out.2.2.2.2.2.1
                have HLL := Lib.hid (rdT_some HCU.out).1
                have hLn : L.length ≤ 1048576 := by rw [HLL.out]; omega
                have hnb : some bg ≠ v.ownBlock := fun e => by have h3 : bg + 1 ≤ bg := (HO.out.lt _ e.symm).1; omega
                have hbgl : bg < w4.heap.size := by have := HS4.out.2.2.2.2.2.2.2.1; omega
                generalize nuN x = n1 at *
                generalize nuN y = n2 at *
                clear hb HLX HBAD cr fr
                go_wp2_with (at_builtin; refine list_app_ru rfl _ _ rfl (bg + 1) _ v L (⟨#[]⟩, n1, n2) rfl (OwnRu.alloc HO.out _) w4.heap.size rfl (by simp [go_sem]) (by simp [go_sem]) (by simp [go_sem]) hLn (by simp; omega) ?_; intro g c w5 ho5 hg5 hge5 hlt5 hor5; have HST5 := Lib.hid (SgR.app HS4.out (Below.refl _ _) hg5 ho5); have c5 : w5.cell? ⟨bg, 0, none⟩ = some v := (by rw [hg5.cell_far _ (by simp; omega) hnb]; exact cell_later ((Below.refl _ _).alloc (Nat.le_refl _) _) cg); have f5 : w5.frozen? ⟨bg, 0, none⟩ = false := (by rw [hg5.frozen_far _ (by simp; omega) hnb, ((Below.refl w4.heap.size w4).alloc (Nat.le_refl _) _).frozen (p := ⟨bg, 0, none⟩) hbgl]; exact fg))
                go_roundw
                case rel => exact ⟨k + 1, _, L ++ [(⟨#[]⟩, n1, n2)], by go_num, by omega, HLN.out, smL_snoc HSM.out (by show (0 : Nat) ≤ _; omega), HST5.out⟩
                case measure => first | (simp [intOf]; done) | (simp [intOf]; omega)
              · have HC := Lib.hid (HBAD.out (by rw [HLX.out, if_neg hb]))
                have hB := HS4.out.2.2.2.2.2.2.1
                have hbb : (nuB x && nuB y) = false := by
                  cases hx : nuB x <;> cases hy : nuB y <;> simp_all
                clear HLX HBAD
                cases hx : nuB x
                · clear hbb hb
                  go_wp2
                  rw [HC.out.1, HC.out.2]
                  exact bodyPost_ret (v := .tuple #[.agg #[.slice none 0 0], .int .i64 5]) (by simp [results, Tryd.results10, go_sem, cell_st_same _ cr]) rfl ⟨_, rfl, ⟨rfl, .inl ⟨rfl, rfl⟩⟩, hB.setCell (p := ⟨w.heap.size, 0, none⟩) (Nat.le_refl _) _⟩
                · have hyb : nuB y = false := by rw [hx] at hbb; simpa using hbb
                  rw [hyb]
                  clear hbb hb
                  go_wp2
                  rw [HC.out.1, HC.out.2]
                  exact bodyPost_ret (v := .tuple #[.agg #[.slice none 0 0], .int .i64 5]) (by simp [results, Tryd.results10, go_sem, cell_st_same _ cr]) rfl ⟨_, rfl, ⟨rfl, .inl ⟨rfl, rfl⟩⟩, hB.setCell (p := ⟨w.heap.size, 0, none⟩) (Nat.le_refl _) _⟩
            · have HC := Lib.hid (HBAD.out (HLT.out h2))
              have hB := HS4.out.2.2.2.2.2.2.1
              have h2i : (((linS 32 a).length : Int) == 2) = false := by rw [beq_eq_false_iff_ne]; omega
              clear hgw hl0 h2 HLT HLO HBAD
              go_wp2
              rw [HC.out.1, HC.out.2]
              exact bodyPost_ret (v := .tuple #[.agg #[.slice none 0 0], .int .i64 5]) (by simp [results, Tryd.results10, go_sem, cell_st_same _ cr]) rfl ⟨_, rfl, ⟨rfl, .inl ⟨rfl, rfl⟩⟩, hB.setCell (p := ⟨w.heap.size, 0, none⟩) (Nat.le_refl _) _⟩
      · obtain rfl : k = n := by omega
        have hki : ¬ (k : Int) + 1 < (k : Int) + 1 := by omega
        have cl := cl5 k (Nat.le_refl _)
        have HEND := Lib.hid (rd_end hz HN.out HCU.out)
        have HLL := Lib.hid (rdT_some HCU.out).1
        have hLn : L.length ≤ 1048576 := by rw [HLL.out]; omega
        obtain ⟨a4, c4, rfl⟩ := OwnRu.sl HST.out.2.2.2.2.2.1
        have cg := HST.out.2.2.1
        have cr := HST.out.1
        have fr := HST.out.2.1
        have hB := HST.out.2.2.2.2.2.2.1
        have HV := Lib.hid (s_l02Ok bg 0 c4 a4 L wr hLn HSM.out cg (inRu_ownX HST.out.2.2.2.2.2.1))
        have hkk : IntKind.i64.wrap ((k : Int) + 1 - 1) = (k : Int) := by rw [show (k : Int) + 1 - 1 = (k : Int) by omega]; exact IntWalk.i64_in _ (by omega)
        clear cl5 hlt
        generalize lnS t k = a at *
        by_cases h0 : a.size = 0
        · obtain rfl := size_zero h0
          clear h0
          go_wp2_with fail
          refine HV.out.mono ?_
          rintro e wV ⟨rfl, hbV⟩
          have HSV := Lib.hid (HST.out.bel hbV)
          have cg := HSV.out.2.2.1
          have cr := HSV.out.1
          have fr := HSV.out.2.1
          have hB := HSV.out.2.2.2.2.2.2.1
          clear hbV HV
          cases hok : gOk L
          · have HC := Lib.hid (rd_none hz (by rw [HEND.out, if_neg (by rw [hok]; simp)]))
            clear hok HEND
            go_wp2
            rw [HC.out.1, HC.out.2]
            exact bodyPost_ret (v := .tuple #[.agg #[.slice none 0 0], .int .i64 5]) (by simp [results, Tryd.results10, go_sem, cell_st_same _ cr]) rfl ⟨_, rfl, ⟨rfl, .inl ⟨rfl, rfl⟩⟩, hB.setCell (p := ⟨w.heap.size, 0, none⟩) (Nat.le_refl _) _⟩
          · have HC := Lib.hid (rd_some hz (by rw [HEND.out, if_pos ⟨rfl, hok⟩]))
            clear hok HEND
            go_wp2
            rw [HC.out.1, HC.out.2]
            have ho := HSV.out.2.2.2.2.2.1
            have hwb := HSV.out.2.2.2.2.2.2.2.2.2
            have hq : (Value.slice a4 L.length c4).ownBlock ≠ some w.heap.size := fun e => by have h3 : bg + 1 ≤ w.heap.size := (ho.lt _ e).1; omega
            exact bodyPost_ret (v := .tuple #[.agg #[.slice a4 L.length c4], .int .i64 0]) (by simp [results, Tryd.results10, go_sem, cell_st_same _ cr]) rfl ⟨_, rfl, OwnRu.weak (OwnRu.kept ho (grownBy_set0 wV ⟨w.heap.size, 0, none⟩ _) (.inr hq)) (by omega), hB.setCell (p := ⟨w.heap.size, 0, none⟩) (Nat.le_refl _) _⟩
        · have hne : a.toList.isEmpty = false := by
            cases hq : a.toList.isEmpty
            · rfl
            · have h9 : a.toList.length = a.size := by rw [ByteArray.toList_eq, Array.length_toList]; rfl
              rw [List.isEmpty_iff.1 hq, List.length_nil] at h9
              omega
          have HC := Lib.hid (rd_none hz (by rw [HEND.out, if_neg (fun h => h0 h.1)]))
          clear h0 HEND HV
          go_wp2
          rw [HC.out.1, HC.out.2]
          exact bodyPost_ret (v := .tuple #[.agg #[.slice none 0 0], .int .i64 5]) (by simp [results, Tryd.results10, go_sem, cell_st_same _ cr]) rfl ⟨_, rfl, ⟨rfl, .inl ⟨rfl, rfl⟩⟩, hB.setCell (p := ⟨w.heap.size, 0, none⟩) (Nat.le_refl _) _⟩
end Go.Proofs.YtimfbnjgodbgoaaDoor

/- GrammarText of the program. -/
import Derived.Test.YtimfbnjgodbgoaaDoorNF
import Derived.Test.YtimfbnjgodbgoaaDoorUT
namespace Go.Proofs.YtimfbnjgodbgoaaDoor
open Go.ChangeShapes Go.WideShapes Go.RowKit
set_option linter.unusedVariables false
set_option linter.unusedSimpArgs false
set_option maxHeartbeats 2000000
set_option maxRecDepth 100000
theorem nisB_fr {B b : Nat} {bs : List Value} {w w' : World} (h : Lib.IsBuilder 49 5 B b bs w) (hb : Below w.heap.size w w') : Lib.IsBuilder 49 5 B b bs w' := by
  have key : ∀ p, Lib.BuilderAt 49 5 B b p bs w → Lib.BuilderAt 49 5 B b p bs w' := by
    intro p h
    have hlt := h.lt
    obtain ⟨hB, v, hv, hown, hne⟩ := h
    exact ⟨hB, v, (hb.block b hlt).trans hv, owns_after hown hb, hne⟩
  rcases h with h | h
  · exact .inl (key _ h)
  · exact .inr (key _ h)
theorem fr_bel {b : Nat} {w w' : World} (h : Fr (bMod b b) w w') (hb : b ≤ w.heap.size) : Below b w w' :=
  h.below hb (fun k hk hm => by
    rcases hm with rfl | ⟨hBk, _⟩
    · omega
    · omega)
theorem i_GrammarText (v : Value) (l : List Ru) (w : World) (hn : l.length ≤ 1048576) (hsz : ∀ r ∈ l, r.1.size ≤ 1048576) (hin : InRu w v l) (hpt : PowT w) :
    Calls Tryd.prog 8 #[.agg #[v]] w fun e w' => e = .returned (.string (gTx l)) ∧ Below w.heap.size w w' := by
  obtain ⟨a, cap, rfl⟩ := inRu_sl hin
  have b0 := box_cell w (.slice a l.length cap) 29
  have i0 := inRu_box (o := .cells #[.slice a l.length cap] 29) hin
  have HS := Lib.hid (i_ValidGrammar (.slice a l.length cap) l _ hn hsz i0)
  have HI := Lib.hid i0
  have HP := Lib.hid hpt
  clear hin hsz hpt
  cases hok : gOk l
  · have hT : gTx l = ⟨#[]⟩ := by simp [gTx, hok]
    rw [hok] at HS
    rw [hT]
    clear hT hok i0 b0
    go_enter Tryd.func8, Tryd.ntmps8
    go_wp2_with fail
    refine (HS.out).mono ?_
    rintro e w1 ⟨rfl, hb1⟩
    have hbb := below_box hb1
    clear hb1
    go_wp2
    go_ret
    exact ⟨rfl, hbb⟩
  · have hT : gTx l = ⟨(grT l l.length).toArray⟩ := by simp [gTx, hok]
    rw [hok] at HS
    rw [hT]
    have HOK := Lib.hid hok
    have hl4 := (gOk_some hok).1
    clear hT hok i0
    go_enter Tryd.func8, Tryd.ntmps8
    go_wp2_with fail
    refine (HS.out).mono ?_
    rintro e w1 ⟨rfl, hb1⟩
    have c1 := cell_later hb1 b0
    have HI1 := Lib.hid (inRu_below HI.out hb1)
    have HB1 := Lib.hid (below_box hb1)
    have HP1 := Lib.hid (HP.out.later HB1.out)
    have hw1 : w.heap.size < w1.heap.size := World.block_lt_of_cell? _ _ c1
    have HF := Lib.hid (Lib.fresh_isBuilder 49 5 w1)
    clear hb1 b0 HS HI HP
    go_wp2
    go_loopw [13] (fun i wr => ∃ k : Nat, k ≤ l.length ∧ i = .int .i64 k ∧ Lib.IsBuilder 49 5 w1.heap.size w1.heap.size (Lib.byteCells (grT l k)) wr ∧ Below w1.heap.size w1 wr ∧ w1.heap.size < wr.heap.size) (fun i _ => l.length - (intOf i).toNat)
    case atStart => exact ⟨0, by omega, rfl, HF.out, (Below.refl _ _).alloc (Nat.le_refl _) _, by simp⟩
    case round =>
      obtain ⟨k, hk, rfl, hib, hbr, hzr⟩ := hrel
      have HIB := Lib.hid hib
      have HBR := Lib.hid hbr
      clear hib
      by_cases hlt : k < l.length
      · have hkI : (k : Int) < l.length := by omega
        obtain ⟨b', off', rfl, hbl, hc0, hc1, hc2⟩ := inRu_at (inRu_below HI1.out hbr) hlt
        obtain ⟨r1, r2⟩ := gOk_rule HOK.out hlt
        have hlk := grT_len HOK.out k hk
        have hlr := ruT_len HOK.out hlt
        have hst : grT l (k + 1) = grT l k ++ ruT (ruA l k) := rfl
        have hbo := (Below.refl wr.heap.size wr).alloc (Nat.le_refl _) (.cells #[.string (ruA l k).1, .int .i64 (ruA l k).2.1, .int .i64 (ruA l k).2.2] 42)
        have HPR := Lib.hid (HP1.out.later hbr)
        by_cases hz : (ruA l k).1.size = 0
        · obtain ⟨q1, q2, q3, q4⟩ := r1 hz
          obtain ⟨p, hp⟩ := Int.eq_ofNat_of_zero_le q1
          obtain ⟨q, hq⟩ := Int.eq_ofNat_of_zero_le q3
          have hru : ruT (ruA l k) = (dcL p ++ (32 :: dcL q)) ++ [10] := by rw [ruT, if_pos hz, hp, hq]
          rw [hru] at hst hlr
          have hx0 := size_zero hz
          rw [hx0] at hc0
          rw [hp] at hc1
          rw [hq] at hc2
          rw [hx0, hp, hq] at hbo
          have HDp : Hid (∀ w, PowT w → Calls Tryd.prog 21 #[.int .i64 (p : Int)] w fun e w' => e = .returned (.string ⟨(dcL p).toArray⟩) ∧ Below w.heap.size w w') := fun w h => i_decimal p w (by omega) h
          have HDq : Hid (∀ w, PowT w → Calls Tryd.prog 21 #[.int .i64 (q : Int)] w fun e w' => e = .returned (.string ⟨(dcL q).toArray⟩) ∧ Below w.heap.size w w') := fun w h => i_decimal q w (by omega) h
          have HIS := Lib.hid (fun w => i_isPair ⟨#[]⟩ (p : Int) (q : Int) w)
          simp only [List.length_append, List.length_cons, List.length_nil] at hlr
          have hcat1 := cat_l (dcL p) [32] (dcL p ++ [32]) rfl (by simp; omega)
          have hcat2 := cat_l (dcL p ++ [32]) (dcL q) (dcL p ++ (32 :: dcL q)) (by simp) (by simp; omega)
          have hcat3 := cat_l (dcL p ++ (32 :: dcL q)) [10] ((dcL p ++ (32 :: dcL q)) ++ [10]) rfl (by simp; omega)
          have HDL : Hid ((grT l k).length + ((dcL p ++ (32 :: dcL q)) ++ [10]).length ≤ 140737488355328) := by show _ ≤ _; simp; omega
          have HST : Hid (Lib.byteCells (grT l k) ++ Lib.strCells ⟨((dcL p ++ (32 :: dcL q)) ++ [10]).toArray⟩ = Lib.byteCells (grT l (k + 1))) := by show _ = _; rw [hst, Lib.byteCells_append, Lib.strCells_toArray]
          clear hp hq hx0 hru hst hz r1 r2 q1 q2 q3 q4 hlk hlr hbr
          generalize (dcL p ++ (32 :: dcL q)) ++ [10] = D4 at *
          generalize dcL p ++ (32 :: dcL q) = D3 at *
          generalize dcL p ++ [32] = D2 at *
          generalize dcL p = D1 at *
          generalize dcL q = D5 at *
          go_wp2_with fail
          refine (HIS.out _).mono ?_
          rintro e w2 ⟨rfl, hb2⟩
          have m1 : w2.cell? ⟨wr.heap.size, 1, none⟩ = some (.int .i64 p) := by rw [hb2.cell (by first | (simp; done) | (simp; omega))]; simp [go_sem]
          have m2 : w2.cell? ⟨wr.heap.size, 2, none⟩ = some (.int .i64 q) := by rw [hb2.cell (by first | (simp; done) | (simp; omega))]; simp [go_sem]
          have HB2 := Lib.hid (hbo.trans (hb2.mono (by simp)))
          have HP2 := Lib.hid (HPR.out.later HB2.out)
          clear hb2 hbo hc0 hc1 hc2 HIS
          go_upto_region 8 with fail
          refine wp_region_L (S := fun w' => Below w2.heap.size w2 w' ∧ w'.cell? ⟨wr.heap.size, 1, none⟩ = some (.int .i64 p) ∧ w'.cell? ⟨wr.heap.size, 2, none⟩ = some (.int .i64 q)) (T := [9]) (by kernel_rfl) ⟨Below.drew (Below.refl _ _), by simpa using m1, by simpa using m2⟩ (fun hHeld => ?_)
          refine wpAnyL_take (i := 0) (v := ?_) rfl (by kernel_rfl) (by kernel_rfl) (by kernel_rfl) (by kernel_rfl) (fun _ _ _ h => h) (Or.inl ⟨by rfl, ?_⟩) (by assumption) ?_
          rotate_left
          · intro w hSw
            try dsimp only at hSw
            go_simp
            all_goals with_reducible rfl
          try simp only [Act.put, List.setIfInBounds_toArray, List.set_cons_zero, List.set_cons_succ]
          refine wpAnyL_take (i := 1) (v := ?_) rfl (by kernel_rfl) (by kernel_rfl) (by kernel_rfl) (by kernel_rfl) (fun _ _ _ h => h) (Or.inl ⟨by rfl, ?_⟩) (by assumption) ?_
          rotate_left
          · intro w hSw
            try dsimp only at hSw
            go_simp
            all_goals with_reducible rfl
          try simp only [Act.put, List.setIfInBounds_toArray, List.set_cons_zero, List.set_cons_succ]
          refine wpAnyL_take (i := 4) (v := ?_) rfl (by kernel_rfl) (by kernel_rfl) (by kernel_rfl) (by kernel_rfl) (fun _ _ _ h => h) (Or.inl ⟨by rfl, ?_⟩) (by assumption) ?_
          rotate_left
          · intro w hSw
            try dsimp only at hSw
            go_simp
            all_goals with_reducible rfl
          try simp only [Act.put, List.setIfInBounds_toArray, List.set_cons_zero, List.set_cons_succ]
          refine wpAnyL_take (i := 5) (v := ?_) rfl (by kernel_rfl) (by kernel_rfl) (by kernel_rfl) (by kernel_rfl) (fun _ _ _ h => h) (Or.inl ⟨by rfl, ?_⟩) (by assumption) ?_
          rotate_left
          · intro w hSw
            try dsimp only at hSw
            go_simp
            all_goals with_reducible rfl
          try simp only [Act.put, List.setIfInBounds_toArray, List.set_cons_zero, List.set_cons_succ]
          obtain ⟨s0, s1, s2⟩ := hHeld
          refine wpAnyL_one (i := 2) (by kernel_rfl) (by rfl) rfl (fun K hK => ?_)
          go_simp
          go_at_call 21
          refine (HDp.out _ (HP2.out.later s0)).mono ?_
          rintro e w3 ⟨rfl, hb3⟩
          have t0 := s0.trans (hb3.mono s0.size)
          have t1 := cell_later hb3 s1
          have t2 := cell_later hb3 s2
          clear s0 s1 s2 hb3
          go_wp2_with fail
          refine hK.out _ _ ⟨t0, t1, t2⟩ ?_
          clear hK K
          try simp only [Act.put, List.setIfInBounds_toArray, List.set_cons_zero, List.set_cons_succ]
          have hHeld : Below w2.heap.size w2 w3 ∧ w3.cell? ⟨wr.heap.size, 1, none⟩ = some (.int .i64 p) ∧ w3.cell? ⟨wr.heap.size, 2, none⟩ = some (.int .i64 q) := ⟨t0, t1, t2⟩
          refine wpAnyL_take (i := 3) (v := ?_) rfl (by kernel_rfl) (by kernel_rfl) (by kernel_rfl) (by kernel_rfl) (fun _ _ _ h => h) (Or.inl ⟨by rfl, ?_⟩) (by assumption) ?_
          rotate_left
          · intro w hSw
            try dsimp only at hSw
            go_simp
            all_goals with_reducible rfl
          try simp only [Act.put, List.setIfInBounds_toArray, List.set_cons_zero, List.set_cons_succ]
          clear hHeld
          refine wpAnyL_one (i := 6) (by kernel_rfl) (by rfl) rfl (fun K hK => ?_)
          go_simp
          go_at_call 21
          refine (HDq.out _ (HP2.out.later t0)).mono ?_
          rintro e w4 ⟨rfl, hb4⟩
          have v0 := t0.trans (hb4.mono t0.size)
          have v1 := cell_later hb4 t1
          have v2 := cell_later hb4 t2
          clear t0 t1 t2 hb4
          go_wp2_with fail
          refine hK.out _ _ ⟨v0, v1, v2⟩ ?_
          clear hK K
          try simp only [Act.put, List.setIfInBounds_toArray, List.set_cons_zero, List.set_cons_succ]
          have hHeld : Below w2.heap.size w2 w4 ∧ w4.cell? ⟨wr.heap.size, 1, none⟩ = some (.int .i64 p) ∧ w4.cell? ⟨wr.heap.size, 2, none⟩ = some (.int .i64 q) := ⟨v0, v1, v2⟩
          refine wpAnyL_take (i := 7) (v := ?_) rfl (by kernel_rfl) (by kernel_rfl) (by kernel_rfl) (by kernel_rfl) (fun _ _ _ h => h) (Or.inl ⟨by rfl, ?_⟩) (by assumption) ?_
          rotate_left
          · intro w hSw
            try dsimp only at hSw
            go_simp
            all_goals with_reducible rfl
          try simp only [Act.put, List.setIfInBounds_toArray, List.set_cons_zero, List.set_cons_succ]
          refine wpAnyL_take (i := 8) (v := ?_) rfl (by kernel_rfl) (by kernel_rfl) (by kernel_rfl) (by kernel_rfl) (fun _ _ _ h => h) (Or.inl ⟨by rfl, ?_⟩) (by assumption) ?_
          rotate_left
          · intro w hSw
            try dsimp only at hSw
            go_simp
            all_goals with_reducible rfl
          try simp only [Act.put, List.setIfInBounds_toArray, List.set_cons_zero, List.set_cons_succ]
          clear hHeld
          have HB4 := Lib.hid (HB2.out.trans (v0.mono HB2.out.size))
          have HI4 := Lib.hid (nisB_fr HIB.out HB4.out)
          have hz4 : w1.heap.size < w4.heap.size := by have := HB4.out.size; omega
          refine wpAnyL_tail (i := 9) (by kernel_rfl) (by rfl) rfl (fun K hK => ?_)
          go_simp
          go_at_call 20
          refine (i_WriteString _ _ _ _ _ HI4.out (by have := HDL.out; simpa [Lib.byteCells_length, ByteArray.size] using this) (by omega)).mono ?_
          rintro e w5 ⟨rfl, hi5, hf5⟩
          have HI5 : Hid (Lib.IsBuilder 49 5 w1.heap.size w1.heap.size (Lib.byteCells (grT l (k + 1))) w5) := by show Lib.IsBuilder _ _ _ _ _ _; rw [← HST.out]; exact .inr hi5
          have HB5 := Lib.hid ((HBR.out.trans ((HB4.out).mono (by omega))).trans (fr_bel hf5 (by omega)))
          have hz5 : w1.heap.size < w5.heap.size := by have := hf5.size; omega
          clear hi5 hf5 v0 v1 v2 m1 m2
          go_wp2_with fail
          refine hK.out _ _ ?_
          clear hK K
          refine wpAny_done (by kernel_rfl) ?_ _
          go_wp2
          go_roundw
          case rel => exact ⟨k + 1, by omega, by go_num, HI5.out, HB5.out, hz5⟩
          case measure => first | (simp [intOf]; done) | (simp [intOf]; omega)
        · have hru : ruT (ruA l k) = (ruA l k).1.data.toList ++ [10] := by rw [ruT, if_neg hz]
          rw [hru] at hst hlr
          obtain ⟨xs, hxs⟩ : ∃ xs : List UInt8, (ruA l k).1 = ⟨xs.toArray⟩ := ⟨(ruA l k).1.data.toList, by simp⟩
          have hd : decide ((ruA l k).1.size = 0) = false := by simpa using hz
          have HIS := Lib.hid (fun w => i_isPair (ruA l k).1 (ruA l k).2.1 (ruA l k).2.2 w)
          rw [hd] at HIS
          rw [hxs] at hst hlr hc0 hbo HIS
          simp only [List.length_append, List.length_cons, List.length_nil] at hlr
          simp only [List.toList_toArray] at hst hlr
          have hcat1 := cat_l xs [10] (xs ++ [10]) rfl (by simp; omega)
          have HDL : Hid ((grT l k).length + (xs ++ [10]).length ≤ 140737488355328) := by show _ ≤ _; simp; omega
          have HST : Hid (Lib.byteCells (grT l k) ++ Lib.strCells ⟨(xs ++ [10]).toArray⟩ = Lib.byteCells (grT l (k + 1))) := by show _ = _; rw [hst, Lib.byteCells_append, Lib.strCells_toArray]
          clear hru hst hz r1 r2 hlk hlr hbr hxs hd
          generalize xs ++ [10] = D1 at *
          generalize (⟨xs.toArray⟩ : ByteArray) = S1 at *
          generalize (ruA l k).2.1 = y1 at *
          generalize (ruA l k).2.2 = y2 at *
          go_wp2_with fail
          refine (HIS.out _).mono ?_
          rintro e w2 ⟨rfl, hb2⟩
          have m0 : w2.cell? ⟨wr.heap.size, 0, none⟩ = some (.string S1) := by rw [hb2.cell (by first | (simp; done) | (simp; omega))]; simp [go_sem]
          have HB2 := Lib.hid (hbo.trans (hb2.mono (by simp)))
          have HI2 := Lib.hid (nisB_fr HIB.out HB2.out)
          have hz2 : w1.heap.size < w2.heap.size := by have := HB2.out.size; omega
          clear hb2 hbo hc0 hc1 hc2 HIS
          go_wp2_with fail
          refine (i_WriteString _ _ _ _ _ HI2.out (by have := HDL.out; simpa [Lib.byteCells_length, ByteArray.size] using this) (by omega)).mono ?_
          rintro e w5 ⟨rfl, hi5, hf5⟩
          have HI5 : Hid (Lib.IsBuilder 49 5 w1.heap.size w1.heap.size (Lib.byteCells (grT l (k + 1))) w5) := by show Lib.IsBuilder _ _ _ _ _ _; rw [← HST.out]; exact .inr hi5
          have HB5 := Lib.hid ((HBR.out.trans ((HB2.out).mono (by omega))).trans (fr_bel hf5 (by omega)))
          have hz5 : w1.heap.size < w5.heap.size := by have := hf5.size; omega
          clear hi5 hf5 m0
          go_wp2
          go_roundw
          case rel => exact ⟨k + 1, by omega, by go_num, HI5.out, HB5.out, hz5⟩
          case measure => first | (simp [intOf]; done) | (simp [intOf]; omega)
      · obtain rfl : k = l.length := by omega
        have hkI : ¬ (l.length : Int) < l.length := by omega
        have HBX := Lib.hid (HB1.out.trans (hbr.mono HB1.out.size))
        have hzb := hbr.size
        clear hbr
        have HSTR : Hid (Calls Tryd.prog 22 #[.pointer (some ⟨w1.heap.size, 0, none⟩)] wr fun e w' => e = .returned (.string ⟨(grT l l.length).toArray⟩) ∧ Below w1.heap.size wr w') := by
          by_cases h0 : grT l l.length = []
          · have h9 := HIB.out
            rw [h0] at h9 ⊢
            exact Tryd.Builder_String_empty w1.heap.size w1.heap.size wr h9 (by omega)
          · exact Tryd.Builder_String w1.heap.size w1.heap.size _ wr HIB.out h0
        clear HIB
        generalize hS9 : (⟨(grT l l.length).toArray⟩ : ByteArray) = S9 at *
        have HS9 := Lib.hid hS9
        clear hS9
        go_wp2_with fail
        refine HSTR.out.mono ?_
        rintro e w6 ⟨rfl, hb6⟩
        have HB6 := Lib.hid (HBX.out.trans (hb6.mono HB1.out.size))
        clear hb6
        go_wp2
        go_ret
        exact ⟨by rw [HS9.out]; rfl, HB6.out⟩
end Go.Proofs.YtimfbnjgodbgoaaDoor

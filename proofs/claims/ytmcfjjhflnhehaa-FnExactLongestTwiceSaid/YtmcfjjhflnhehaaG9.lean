/- Marks of rules; the law of LengthsOf. -/
import Derived.Test.YtmcfjjhflnhehaaG7
namespace Go.Proofs.Ytmcfjjhflnhehaa
open Go.ChangeShapes Go.WideShapes Go.RowKit
set_option linter.unusedVariables false
set_option linter.unusedSimpArgs false
set_option maxHeartbeats 4000000
set_option maxRecDepth 100000
theorem grown_bel {w w1 w2 : World} {r : Option Nat} (h : w.grownBy w1 r) (hb : Below w1.heap.size w1 w2) : w.grownBy w2 r :=
  ⟨hb.os.trans h.os, hb.tape.trans h.tape, hb.output.trans h.output, Nat.le_trans h.size hb.size, fun k hk hne => by rw [hb.block k (Nat.lt_of_lt_of_le hk h.size)]; exact h.block k hk hne⟩
theorem l_markRuleS (g n cap k : Nat) (ys : List Value) (base : Nat) (w : World) (hk1 : 1 ≤ k) (hk : k + 3 * n ≤ 1099511627776) (hown : w.ownsRow base 52 3 (.slice (some ⟨g, 0, none⟩) n cap) n ys) :
    Calls Try.prog 57 #[.slice (some ⟨g, 0, none⟩) n cap, .int .i64 k] w fun e w' => e = .returned (.int .i64 ((k + 3 * n : Nat) : Int)) ∧ w.grownBy w' (some g) := by
  have hg := (hown.lt _ rfl).2
  have hm : n ≤ 1048576 * 1048576 := by omega
  go_enter Try.func57, Try.ntmps57
  go_wp2
  go_loopw [1, 5] (fun m i wr => w.grownBy wr (some g) ∧ ∃ j : Nat, j ≤ n ∧ i = .int .i64 j ∧ m = .int .i64 ((k + 3 * j : Nat) : Int) ∧ ∃ zs, wr.ownsRow base 52 3 (.slice (some ⟨g, 0, none⟩) n cap) n zs) (fun _ i _ => n - (intOf i).toNat)
  case atStart => exact ⟨World.grownBy.refl _ _, 0, by omega, rfl, rfl, ys, hown⟩
  case round =>
    obtain ⟨hgr, j, hj, rfl, rfl, zs, hzs⟩ := hrel
    clear hown
    have hzl : zs.length = n * 3 := hzs.1
    by_cases hlt : j < n
    · have HZ := Lib.hid hzl
      have HG := Lib.hid hgr
      have HO := Lib.hid hzs
      have hin : ((j : Nat) : Int) < n := by omega
      clear hzl hgr hzs
      go_wp2_with fail
      refine (l_markText (k + 3 * j) _ (by omega) (by omega)).mono ?_
      rintro e w1 ⟨rfl, hb1⟩
      have hzs := owns_after HO.out hb1
      obtain ⟨z, hz⟩ : ∃ z, zs[j * 3]? = some z := ⟨_, List.getElem?_eq_getElem (by have := HZ.out; omega)⟩
      obtain ⟨z2, hz2⟩ : ∃ z, zs[j * 3 + 1]? = some z := ⟨_, List.getElem?_eq_getElem (by have := HZ.out; omega)⟩
      obtain ⟨z3, hz3⟩ : ∃ z, zs[j * 3 + 2]? = some z := ⟨_, List.getElem?_eq_getElem (by have := HZ.out; omega)⟩
      have hcell : w1.cell? ⟨g, j * 3, none⟩ = some z := by rw [hzs.cellAt (j * 3) (by omega)]; exact hz
      have hcell2 : w1.cell? ⟨g, j * 3 + 1, none⟩ = some z2 := by rw [hzs.cellAt (j * 3 + 1) (by omega)]; exact hz2
      have hcell3 : w1.cell? ⟨g, j * 3 + 2, none⟩ = some z3 := by rw [hzs.cellAt (j * 3 + 2) (by omega)]; exact hz3
      have hfro : w1.frozen? ⟨g, j * 3, none⟩ = false := hzs.frozenAt (j * 3)
      have hfro2 : w1.frozen? ⟨g, j * 3 + 1, none⟩ = false := hzs.frozenAt (j * 3 + 1)
      have hfro3 : w1.frozen? ⟨g, j * 3 + 2, none⟩ = false := hzs.frozenAt (j * 3 + 2)
      generalize hy : mt (k + 3 * j) = y at *
      have hs1 := (hzs.stored (j * 3) (.string y)).1
      have hs2 := (hs1.stored (j * 3 + 1) (.int .i64 ((k + 3 * j + 1 : Nat) : Int))).1
      have HST := Lib.hid ((hs2.stored (j * 3 + 2) (.int .i64 ((k + 3 * j + 1 + 1 : Nat) : Int))).1)
      have HB1 := Lib.hid hb1
      have HY := Lib.hid hy
      clear hz hz2 hz3 hzs hb1 hs1 hs2 hy
      go_wp2
      go_roundw
      case rel => exact ⟨grown_set (grown_set (grown_set (grown_bel HG.out HB1.out) _ _) _ _) _ _, j + 1, by omega, by go_num, by go_num, _, HST.out⟩
      case measure => first | (simp [intOf]; done) | (simp [intOf]; omega)
    · have ej : j = n := by omega
      subst ej
      go_wp2
      go_ret
      exact ⟨rfl, hgr⟩
theorem l_markGrammar (g n cap : Nat) (ys : List Value) (base : Nat) (w : World) (hk : n ≤ 1048576) (hown : w.ownsRow base 52 3 (.slice (some ⟨g, 0, none⟩) n cap) n ys) :
    Calls Try.prog 29 #[.agg #[.slice (some ⟨g, 0, none⟩) n cap], .int .i64 1] w fun e w' => e = .returned (.int .i64 ((1 + 3 * n : Nat) : Int)) ∧ w.grownBy w' (some g) := by
  have hbx := owns_after hown ((Below.refl w.heap.size w).alloc (Nat.le_refl _) (.cells #[.slice (some ⟨g, 0, none⟩) n cap] 29))
  have H := Lib.hid (l_markRuleS g n cap 1 ys base _ (by omega) (by omega) hbx)
  clear hown hbx
  go_enter Try.func29, Try.ntmps29
  go_wp2_with fail
  refine H.out.mono ?_
  rintro e w1 ⟨rfl, hg1⟩
  have hg2 : w.grownBy w1 (some g) := (grown_bel (World.grownBy.refl w (some g)) ((Below.refl _ _).alloc (Nat.le_refl _) _)).trans hg1
  clear hg1 H
  go_wp2
  go_ret
  exact ⟨rfl, hg2⟩
theorem gLs_len {l : List Ru} (h : l.length ≤ 1048576) : (gLs l).length ≤ 1048576 := by
  unfold gLs
  cases hok : gOk l
  · simp
  · simp; rw [(gOk_some hok).2.2.1]; exact h
theorem walk_FnExactLengthsOf (v : Value) (l : List Ru) (w : World) (h0 : GrIn w v l) (h0b : l.length ≤ 9223372036854775807) (h0c : ∀ r ∈ l, r.1.size ≤ 9223372036854775807) :
    Calls Try.prog 7 #[v] w fun e w' => e = .returned (.bool true) ∧ Below w.heap.size w w' := by
  obtain ⟨u, rfl, hin⟩ := h0
  have HS := Lib.hid (fun (u : Value) w => s_LengthsOf u l w)
  have HI := Lib.hid (fun (u : Value) w => i_LengthsOf u l w)
  have HLE := Lib.hid (@gLs_len l)
  have b0 := box_cell w u 24
  have i0 := inRu_box (o := .cells #[u] 24) hin
  have HBX : Hid (∀ w', Below (w.alloc (.cells #[u] 24)).heap.size (w.alloc (.cells #[u] 24)) w' → Below w.heap.size w w') := fun w' h => below_box h
  generalize gLs l = R at *
  clear hin
  go_enter Try.func7, Try.ntmps7
  go_wp2_with fail
  refine (l_szGrammar u l 1048576 _ (by omega) i0 h0b h0c).mono ?_
  rintro e w1 ⟨hb1, rfl | ⟨n0, rfl, hn0, hln, hsz⟩⟩
  · clear h0b h0c HS HI b0 i0 HLE
    have hbb := HBX.out _ hb1
    clear hb1
    go_wp2
    go_ret
    exact ⟨rfl, hbb⟩
  · have HSZ := Lib.hid hsz
    have hRl := HLE.out hln
    have i1 := inRu_below i0 hb1
    have b1 := cell_later hb1 b0
    clear h0b h0c hsz HLE
    go_wp2_with fail
    refine (l_toGrammar u l w1 hln i1).mono ?_
    rintro e w2 ⟨g2, c2, rfl, ho2, hb2⟩
    have B2 := hb1.trans (hb2.mono hb1.size)
    have i2 := inRu_below i0 B2
    have b2 := cell_later B2 b0
    clear b1 i1
    go_wp2_with fail
    refine (HS.out _ w2 hln HSZ.out (inRu_own rfl ho2)).mono ?_
    rintro e w3 ⟨v1, rfl, o1, hb3⟩
    have B3 := B2.trans (hb3.mono B2.size)
    have i3 := inRu_below i0 B3
    have b3 := cell_later B3 b0
    clear b2 i2 ho2
    go_wp2_with fail
    refine (l_toGrammar u l w3 hln i3).mono ?_
    rintro e w4 ⟨g4, c4, rfl, ho4, hb4⟩
    have B4 := B3.trans (hb4.mono B3.size)
    have hg4 : w3.heap.size ≤ g4 ∧ g4 < w4.heap.size := ho4.lt _ rfl
    have hv1 : ∀ k, v1.ownBlock = some k → k < w3.heap.size := fun k hk => (o1.lt k hk).2
    have B4' := B4.alloc B4.size (.cells #[.slice (some ⟨g4, 0, none⟩) l.length c4] 29)
    have b4 := cell_later B4' b0
    have x4 := box_cell w4 (.slice (some ⟨g4, 0, none⟩) l.length c4) 29
    have a4 := (Below.refl _ w4).alloc (Nat.le_refl _) (.cells #[.slice (some ⟨g4, 0, none⟩) l.length c4] 29)
    have ho4' := owns_after ho4 a4
    have o4 := owns_after (owns_after o1 hb4) a4
    clear b3 i3 ho4 o1
    go_wp2_with fail
    refine (HI.out _ _ hln HSZ.out (inRu_own rfl ho4')).mono ?_
    rintro e w5 ⟨v2, rfl, p5, hb5⟩
    have B5 := B4'.trans (hb5.mono B4'.size)
    have b5 := cell_later hb5 b4
    have x5 := cell_later hb5 x4
    have o5 := owns_after o4 hb5
    have ho5 := owns_after ho4' hb5
    clear b4 x4 ho4' o4
    go_wp2_with fail
    refine (l_eqInt64S _ _ R R _ _ _ p5 o5 (by omega) (by omega)).mono ?_
    rintro e w6 ⟨rfl, q6, rfl⟩
    have B6 := below_drewN B5 q6
    have i6 := inRu_below i0 B6
    have b6 : (w5.drewN q6).cell? ⟨w.heap.size, 0, none⟩ = some u := by simpa using b5
    have x6 : (w5.drewN q6).cell? ⟨w4.heap.size, 0, none⟩ = some (.slice (some ⟨g4, 0, none⟩) l.length c4) := by simpa using x5
    have ix6 := inRu_own rfl (ownsRow_drewN ho5 q6)
    have HO5 := Lib.hid ho5
    have HP5 := Lib.hid p5
    have HQ5 := Lib.hid o5
    have s3 := B3.size
    have hv2 : ∀ k, v2.ownBlock = some k → w4.heap.size < k := fun k hk => by have := (p5.lt k hk).1; simp at this; omega
    have HV1 := Lib.hid hv1
    have HV2 := Lib.hid hv2
    clear hb1 hb2 hb3 hb4 hb5 B2 B3 B4 B4' a4 ho5 o5 p5 b5 x5 hv1 hv2
    have hz : w4.heap.size < (w5.drewN q6).heap.size := World.block_lt_of_cell? _ _ x6
    go_wp2
    go_region_held3 (fun w' => Below (w5.drewN q6).heap.size (w5.drewN q6) w' ∧ w'.cell? ⟨w.heap.size, 0, none⟩ = some u ∧ w'.cell? ⟨w4.heap.size, 0, none⟩ = some (.slice (some ⟨g4, 0, none⟩) l.length c4) ∧ InRu w' u l ∧ InRu w' (.slice (some ⟨g4, 0, none⟩) l.length c4) l) (first | (go_split_ands; refine ⟨?_, ?_, ?_, ?_, ?_⟩ <;> first | assumption | exact Below.drew (Below.refl _ _) | exact Below.drew (by assumption) | exact inRu_below (by assumption) (Below.drew (Below.refl _ _)) | exact cell_later hbA (by assumption) | exact inRu_below (by assumption) hbA | exact Below.trans ‹Below (w5.drewN q6).heap.size (w5.drewN q6) _› (hbA.mono (Below.size ‹Below (w5.drewN q6).heap.size (w5.drewN q6) _›)) | simp [*])) (first | (go_at_call 17; refine (l_toGrammar u l _ hln (by assumption)).mono ?_; rintro e wA ⟨g6, c6, rfl, ho6, hbA⟩) | (go_at_call 19; refine (l_eqGrammar _ _ l _ (by first | assumption | exact inRu_below (inRu_below ix6 (Below.drew (Below.refl _ _))) hbA) (by first | exact inRu_own rfl ho6 | exact inRu_below (inRu_own rfl ho6) (Below.drew (Below.refl _ _))) hln).mono ?_; rintro e wA ⟨rfl, hbA⟩))
    rename_i hS
    have hA : Below (w5.drewN q6).heap.size (w5.drewN q6) wA := hS.1
    clear hS hbA
    have BA := B6.trans (hA.mono B6.size)
    have xA := cell_later hA x6
    have oA := owns_after (ownsRow_drewN HQ5.out q6) hA
    have pA := owns_after (ownsRow_drewN HP5.out q6) hA
    have gA := owns_after (ownsRow_drewN HO5.out q6) hA
    clear x6 b6 ix6 i6 hA hz
    go_wp2_with fail
    refine (l_markGrammar _ _ _ _ _ _ hln gA).mono ?_
    rintro e w8 ⟨rfl, g8⟩
    have B8 := BA.trans (below_of_grown g8 (B := (w.alloc (.cells #[u] 24)).heap.size) BA.size (fun k hk => by injection hk with hk; omega))
    have o8 := oA.kept g8 (by
      cases h : v1.ownBlock with
      | none => exact .inl rfl
      | some k => right; intro e; injection e with e; have := HV1.out k h; omega)
    have p8 := pA.kept g8 (by
      cases h : v2.ownBlock with
      | none => exact .inl rfl
      | some k => right; intro e; injection e with e; have := HV2.out k h; omega)
    clear oA pA gA g8 xA BA B6
    have b8 := cell_later B8 b0
    have i8 := inRu_below i0 B8
    go_wp2_with fail
    refine (l_eqInt64S _ _ R R _ _ _ p8 o8 (by omega) (by omega)).mono ?_
    rintro e w9 ⟨rfl, q9, rfl⟩
    have B9 := below_drewN B8 q9
    have p9 := ownsRow_drewN p8 q9
    have o9 := ownsRow_drewN o8 q9
    clear p8 o8 b8
    go_wp2_with fail
    refine (l_mark1 _ R.length _ _ _ (by omega) p9).mono ?_
    rintro e w10 ⟨rfl, p10, g10⟩
    have B10 := B9.trans (below_of_grown g10 (B := (w.alloc (.cells #[u] 24)).heap.size) B9.size (fun k hk => by have := HV2.out k hk; omega))
    have o10 := o9.kept g10 (by
      cases h : v1.ownBlock with
      | none => exact .inl rfl
      | some k => right; intro e; have := HV1.out k h; have := HV2.out k e.symm; omega)
    have b10 := cell_later B10 b0
    have i10 := inRu_below i0 B10
    clear o9 p9 g10 B9 B8 i8
    go_wp2_with fail
    refine (l_held1 _ R.length _ _ (by omega) p10).mono ?_
    rintro e w11 ⟨rfl, rfl⟩
    go_wp2_with fail
    refine (l_toGrammar u l _ hln i10).mono ?_
    rintro e w12 ⟨g12, c12, rfl, ho12, hb12⟩
    have B12 := B10.trans (hb12.mono B10.size)
    have o12 := owns_after o10 hb12
    have p12 := owns_after p10 hb12
    clear b10 i10 o10 p10
    go_wp2_with fail
    refine (HI.out _ _ hln HSZ.out (inRu_own rfl ho12)).mono ?_
    rintro e w13 ⟨v3, rfl, r13, hb13⟩
    have B13 := B12.trans (hb13.mono B12.size)
    have o13 := owns_after o12 hb13
    have p13 := owns_after p12 hb13
    clear o12 p12 ho12 hb12 hb13 B12 B10
    go_wp2_with fail
    refine (l_eqInt64S _ _ R R _ _ _ r13 o13 (by omega) (by omega)).mono ?_
    rintro e w14 ⟨rfl, q14, rfl⟩
    have B14 := below_drewN B13 q14
    have p14 := ownsRow_drewN p13 q14
    clear o13 p13 r13 B13
    go_wp2_with fail
    refine (l_held1 _ R.length _ _ (by omega) p14).mono ?_
    rintro e w15 ⟨rfl, rfl⟩
    have BF := HBX.out _ B14
    clear B14 p14
    go_wp2
    go_ret
    exact ⟨rfl, BF⟩
end Go.Proofs.Ytmcfjjhflnhehaa

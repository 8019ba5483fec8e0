/- ReadGrammar: the walk of the law. -/
import Derived.Test.YtimfbnjgodbgoaaDoorTF
import Derived.Test.YtimfbnjgodbgoaaDoorTG
namespace Go.Proofs.YtimfbnjgodbgoaaDoor
open Go.ChangeShapes Go.WideShapes Go.RowKit
set_option linter.unusedVariables false
set_option linter.unusedSimpArgs false
set_option maxHeartbeats 2000000
set_option maxRecDepth 100000
theorem rdL_len (t : ByteArray) : (rdL t).length ≤ 1048576 := by
  unfold rdL
  cases h : rdR t with
  | none => simp
  | some L =>
    have : gOk L = true := by
      unfold rdR at h
      split at h
      · cases h
      split at h
      · split at h
        · rename_i hb
          injection h with h
          rw [← h]; exact hb.2
        · cases h
      · cases h
    have := (gOk_some this).1
    show L.length ≤ _
    omega
theorem walk_FnExactReadGrammar (t : ByteArray) (ht : t.size ≤ 9223372036854775807) (w : World) (h : RgW w) :
    Calls Tryd.prog 4 #[.string t] w fun e w' => e = .returned (.bool true) ∧ Below w.heap.size w w' := by
  by_cases hbig : 1048576 < t.size
  · have hg : (t.size : Int) > 1048576 := by omega
    go_enter Tryd.func4, Tryd.ntmps4
    go_wp2
    go_ret
    exact ⟨rfl, Below.refl _ _⟩
  have hg : ¬ (t.size : Int) > 1048576 := by omega
  have hz : t.size ≤ 1048576 := by omega
  have hn := rdL_len t
  have HS := Lib.hid (fun w => s_ReadGrammar t w hz)
  have HI := Lib.hid (fun w h => i_ReadGrammar t w hz h)
  have HE := Lib.hid (fun va vb w ha hb => l_eqGrammar va vb (rdL t) w ha hb hn)
  have HM := Lib.hid (fun v ys base w h => l_markGr v (rdL t).length ys base w hn h)
  have HH := Lib.hid (fun v base w h => l_heldGr v (rdL t).length base w hn h)
  generalize rdL t = L at *
  generalize rdC t = c at *
  generalize hmm : ((1 + 3 * L.length : Nat) : Int) = m at *
  have hn0 : ¬ m < 0 := by omega
  clear hmm
  have H := Lib.hid h
  clear h hbig
  go_enter Tryd.func4, Tryd.ntmps4
  go_wp2_with fail
  refine (HS.out _).mono ?_
  rintro e w1 ⟨v3, rfl, ho3, hb1⟩
  obtain ⟨a3, c3, rfl⟩ := OwnRu.sl ho3
  have hal := (Below.refl w1.heap.size w1).alloc (Nat.le_refl _) (.cells #[.slice a3 L.length c3] 29)
  have HO3 := Lib.hid (OwnRu.alloc ho3 (.cells #[.slice a3 L.length c3] 29))
  have HB3 := Lib.hid (hb1.trans (hal.mono hb1.size))
  have C3 := Lib.hid (box_cell w1 (.slice a3 L.length c3) 29)
  have hz3 : w1.heap.size < (w1.alloc (.cells #[.slice a3 L.length c3] 29)).heap.size := by simp
  have HL3 := Lib.hid (fun q e => (ho3.lt q e).2)
  have hz03 := (hb1.trans (hal.mono hb1.size)).size
  clear ho3 hb1 hal HS
  go_upto_region 4 with fail
  generalize w1.alloc (.cells #[.slice a3 L.length c3] 29) = w3 at *
  go_wp2_with fail
  refine (HI.out _ (H.out.later HB3.out)).mono ?_
  rintro e w4 ⟨v5, rfl, ho5, hb4⟩
  obtain ⟨a5, c5, rfl⟩ := OwnRu.sl ho5
  have hal := (Below.refl w4.heap.size w4).alloc (Nat.le_refl _) (.cells #[.slice a5 L.length c5] 29)
  have hb34 := hb4.trans (hal.mono hb4.size)
  have HO5 := Lib.hid (OwnRu.alloc ho5 (.cells #[.slice a5 L.length c5] 29))
  have HO35 := Lib.hid (owns_after HO3.out hb34)
  have HB5 := Lib.hid (HB3.out.trans (hb34.mono HB3.out.size))
  have C5 := Lib.hid (box_cell w4 (.slice a5 L.length c5) 29)
  have C35 := Lib.hid (cell_later hb34 C3.out)
  have hz5 : w4.heap.size < (w4.alloc (.cells #[.slice a5 L.length c5] 29)).heap.size := by simp
  have hz35 : w1.heap.size < w4.heap.size := Nat.lt_of_lt_of_le hz3 hb4.size
  have HV5 : Hid (∀ q, (Value.slice a5 L.length c5).ownBlock = some q → w3.heap.size ≤ q ∧ q < w4.heap.size) := fun q e => ho5.lt q e
  clear ho5 hb4 hal hb34 HO3 C3 HB3
  go_upto_region 5 with fail
  generalize w4.alloc (.cells #[.slice a5 L.length c5] 29) = w5 at *
  have k5 := C5.out
  have k3 := C35.out
  go_wp2_with fail
  refine (HE.out _ _ _ (inRu_ownX HO5.out) (inRu_ownX HO35.out)).mono ?_
  rintro e w6 ⟨rfl, hb6⟩
  have k5 := cell_later hb6 C5.out
  have k3 := cell_later hb6 C35.out
  have HK6 := Lib.hid (And.intro k5 k3)
  have HO5b := Lib.hid (owns_after HO5.out hb6)
  have HO3b := Lib.hid (owns_after HO35.out hb6)
  have HB6 := Lib.hid (HB5.out.trans (hb6.mono HB5.out.size))
  have hz6 := hb6.size
  clear hb6 C5 C35 HO5 HO35 HB5
  go_wp2_with fail
  refine (HM.out _ _ _ _ HO5b.out).mono ?_
  rintro e w7 ⟨rfl, hg7, hm7⟩
  have k5 : w7.cell? ⟨w4.heap.size, 0, none⟩ = some (.slice a5 L.length c5) := by
    rw [hg7.cell_far _ (by simp; omega) (fun e => by have := (HV5.out _ e.symm).2; simp at this)]; exact HK6.out.1
  have k3 : w7.cell? ⟨w1.heap.size, 0, none⟩ = some (.slice a3 L.length c3) := by
    rw [hg7.cell_far _ (by simp; omega) (fun e => by have := (HV5.out _ e.symm).1; simp at this; omega)]; exact HK6.out.2
  have HO3c : Hid (OwnRu w7 w.heap.size (.slice a3 L.length c3) L) := OwnRu.kept HO3b.out hg7 (by
    cases he : (Value.slice a3 L.length c3).ownBlock with
    | none => exact .inl rfl
    | some q =>
      refine .inr (fun e => ?_)
      have h1 := HL3.out q he
      have h2 := (HV5.out q e.symm).1
      omega)
  have HB7 : Hid (Below w.heap.size w w7) := HB6.out.grown hg7 HB6.out.size (fun q e => by
    have h1 := (HV5.out q e).1
    omega)
  have HM7 := Lib.hid hm7
  have HK7 := Lib.hid (And.intro k5 k3)
  clear hg7 hm7 HK6 HO5b HO3b HB6 HM
  go_wp2_with fail
  refine (HH.out _ _ _ HM7.out).mono ?_
  rintro e w8 ⟨rfl, hb8⟩
  have k5 := cell_later hb8 HK7.out.1
  have k3 := cell_later hb8 HK7.out.2
  have HK8 := Lib.hid (And.intro k5 k3)
  have HM8 := Lib.hid (HM7.out.after hb8)
  have HO8 := Lib.hid (owns_after HO3c.out hb8)
  have HB8 := Lib.hid (HB7.out.trans (hb8.mono HB7.out.size))
  clear hb8 HK7 HM7 HO3c HB7
  go_wp2_with fail
  refine (HI.out _ (H.out.later HB8.out)).mono ?_
  rintro e w9 ⟨v9, rfl, ho9, hb9⟩
  obtain ⟨a9, c9, rfl⟩ := OwnRu.sl ho9
  have hal := (Below.refl w9.heap.size w9).alloc (Nat.le_refl _) (.cells #[.slice a9 L.length c9] 29)
  have hb10 := hb9.trans (hal.mono hb9.size)
  have HO9 := Lib.hid (OwnRu.alloc ho9 (.cells #[.slice a9 L.length c9] 29))
  have HO10 := Lib.hid (owns_after HO8.out hb10)
  have HM10 := Lib.hid (HM8.out.after hb10)
  have HB10 := Lib.hid (HB8.out.trans (hb10.mono HB8.out.size))
  have C9 := Lib.hid (box_cell w9 (.slice a9 L.length c9) 29)
  have HK10 := Lib.hid (And.intro (cell_later hb10 HK8.out.1) (cell_later hb10 HK8.out.2))
  clear ho9 hal hb9 hb10 HO8 HM8 HB8 HK8 HI k5 k3
  go_upto_region 16 with fail
  generalize w9.alloc (.cells #[.slice a9 L.length c9] 29) = wX at *
  have k9 := C9.out
  obtain ⟨k5, k3⟩ := HK10.out
  go_wp2_with fail
  refine (HE.out _ _ _ (inRu_ownX HO9.out) (inRu_ownX HO10.out)).mono ?_
  rintro e wY ⟨rfl, hbY⟩
  have k5 := cell_later hbY HK10.out.1
  have HMY := Lib.hid (HM10.out.after hbY)
  have HBY := Lib.hid (HB10.out.trans (hbY.mono HB10.out.size))
  clear hbY k9 k3 HK10 HM10 HB10 HO9 HO10 C9
  go_wp2_with fail
  refine (HH.out _ _ _ HMY.out).mono ?_
  rintro e wZ ⟨rfl, hbZ⟩
  have HBZ := Lib.hid (HBY.out.trans (hbZ.mono HBY.out.size))
  clear hbZ HBY HMY
  go_wp2
  go_ret
  exact ⟨rfl, HBZ.out⟩
end Go.Proofs.YtimfbnjgodbgoaaDoor

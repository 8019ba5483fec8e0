/- FnExactGrammarText: the law's walk. -/
import Derived.Test.YtimfbnjgodbgoaaDoorNG
import Derived.Test.YtimfbnjgodbgoaaDoorGC
namespace Go.Proofs.YtimfbnjgodbgoaaDoor
open Go.ChangeShapes Go.WideShapes Go.RowKit
set_option linter.unusedVariables false
set_option linter.unusedSimpArgs false
set_option maxHeartbeats 2000000
set_option maxRecDepth 100000
theorem walk_FnExactGrammarText (v : Value) (l : List Ru)  (w : World) (h0 : GrIn w v l) (h0b : l.length ≤ 9223372036854775807) (h0c : ∀ r ∈ l, r.1.size ≤ 9223372036854775807)  (hpt : PowT w) :
    Calls Tryd.prog 3 #[v] w fun e w' => e = .returned (.bool true) ∧ Below w.heap.size w w' := by
  obtain ⟨u, rfl, hin⟩ := h0
  have HPW := Lib.hid hpt
  clear hpt
  have HS := Lib.hid (fun (u : Value) w =>  s_GrammarText u l w)
  have HI := Lib.hid (fun (u : Value) w =>  i_GrammarText u l w)
  have b0 := box_cell w u 24
  have i0 := inRu_box (o := .cells #[u] 24) hin
  clear hin
  go_enter Tryd.func3, Tryd.ntmps3
  go_wp2_with fail
  refine (l_szGrammar u l 1048576 _ (by omega) i0 h0b h0c).mono ?_
  rintro e w1 ⟨hb1, rfl | ⟨n0, rfl, hn0, hln, hsz⟩⟩
  · clear h0b h0c HS HI
    have hbb := below_box hb1
    clear hb1 b0 i0
    go_wp2
    go_ret
    exact ⟨rfl, hbb⟩
  · have HSZ := Lib.hid hsz
    have i1 := inRu_below i0 hb1
    have b1 := cell_later hb1 b0
    clear h0b h0c hsz b0 i0
    go_wp2_with fail
    refine (l_toGrammar u l w1 hln i1).mono ?_
    rintro e w2 ⟨g2, c2, rfl, ho2, hb2⟩
    have i2 := inRu_below i1 hb2
    have b2 := cell_later hb2 b1
    clear b1 i1
    go_wp2_with fail
    refine (HS.out _ w2 hln HSZ.out (inRu_own rfl ho2)).mono ?_
    rintro e w3 ⟨rfl, hb3⟩
    have i3 := inRu_below i2 hb3
    have b3 := cell_later hb3 b2
    clear b2 i2 ho2
    go_wp2_with fail
    refine (l_toGrammar u l w3 hln i3).mono ?_
    rintro e w4 ⟨g4, c4, rfl, ho4, hb4⟩
    have i4 := inRu_box (o := .cells #[.slice (some ⟨g4, 0, none⟩) l.length c4] 29) (inRu_below i3 hb4)
    have b4 := cell_later ((Below.refl _ _).alloc (Nat.le_refl _) (.cells #[.slice (some ⟨g4, 0, none⟩) l.length c4] 29)) (cell_later hb4 b3)
    have x4 := box_cell w4 (.slice (some ⟨g4, 0, none⟩) l.length c4) 29
    have ix4 := inRu_box (o := .cells #[.slice (some ⟨g4, 0, none⟩) l.length c4] 29) (inRu_own rfl ho4)
    clear b3 i3 ho4
    go_wp2_with fail
    have HB4 : Hid (Below w.heap.size w w4) := by
      have s1 := hb1.size
      have s2 := hb2.size
      have s3 := hb3.size
      exact below_box (((hb1.trans (hb2.mono (by omega))).trans (hb3.mono (by omega))).trans (hb4.mono (by omega)))
    refine (HI.out _ _ hln HSZ.out ix4 (HPW.out.later (HB4.out.alloc HB4.out.size _))).mono ?_
    rintro e w5 ⟨rfl, hb5⟩
    have i5 := inRu_below i4 hb5
    have b5 := cell_later hb5 b4
    have x5 := cell_later hb5 x4
    have ix5 := inRu_below ix4 hb5
    have HB5 : Hid (Below w.heap.size w w5) := by
      have s1 := hb1.size
      have s2 := hb2.size
      have s3 := hb3.size
      have s4 := hb4.size
      have s5 := hb5.size
      have hb45 := below_box hb5
      simp only [World.size_alloc] at s5
      exact below_box (((((hb1.trans (hb2.mono (by omega))).trans (hb3.mono (by omega))).trans (hb4.mono (by omega))).trans (hb45.mono (by omega))))
    clear b4 i4 x4 ix4 hb1 hb2 hb3 hb4 hb5
    go_wp2
    go_region_held3 (fun w' => Below w5.heap.size w5 w' ∧ w'.cell? ⟨w.heap.size, 0, none⟩ = some u ∧ w'.cell? ⟨w4.heap.size, 0, none⟩ = some (.slice (some ⟨g4, 0, none⟩) l.length c4) ∧ InRu w' u l ∧ InRu w' (.slice (some ⟨g4, 0, none⟩) l.length c4) l) (first | (go_split_ands; refine ⟨?_, ?_, ?_, ?_, ?_⟩ <;> first | assumption | exact Below.drew (Below.refl _ _) | exact Below.drew (by assumption) | exact inRu_below (by assumption) (Below.drew (Below.refl _ _)) | exact cell_later hbA (by assumption) | exact inRu_below (by assumption) hbA | exact Below.trans ‹Below w5.heap.size w5 _› (hbA.mono (Below.size ‹Below w5.heap.size w5 _›)) | simp [*])) (first | (go_at_call 7; refine (l_toGrammar u l _ hln (by assumption)).mono ?_; rintro e wA ⟨g6, c6, rfl, ho6, hbA⟩) | (go_at_call 9; refine (l_eqGrammar _ _ l _ (by first | assumption | exact inRu_below (inRu_below ix5 (Below.drew (Below.refl _ _))) hbA) (by first | exact inRu_own rfl ho6 | exact inRu_below (inRu_own rfl ho6) (Below.drew (Below.refl _ _))) hln).mono ?_; rintro e wA ⟨rfl, hbA⟩))
    rename_i hS
    have HBB : Hid (Below w.heap.size w wA) := HB5.out.trans (hS.1.mono HB5.out.size)
    clear hS hbA b5 x5 i5 ix5
    go_wp2
    go_ret
    exact ⟨rfl, HBB.out⟩
end Go.Proofs.YtimfbnjgodbgoaaDoor

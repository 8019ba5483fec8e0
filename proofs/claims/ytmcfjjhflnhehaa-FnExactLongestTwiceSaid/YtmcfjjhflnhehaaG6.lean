/- ValidGrammar, LengthOf, LengthsOf, of the program and of the reference, and their laws. -/
import Derived.Test.YtmcfjjhflnhehaaG5
namespace Go.Proofs.Ytmcfjjhflnhehaa
open Go.ChangeShapes Go.WideShapes Go.RowKit
set_option linter.unusedVariables false
set_option linter.unusedSimpArgs false
set_option maxHeartbeats 2000000
set_option maxRecDepth 100000
theorem s_l02Lengths (bq oq cap : Nat) (a : Option Addr) (l : List Ru) (w : World) (hn : l.length ≤ 1048576) (hsz : ∀ r ∈ l, r.1.size ≤ 1048576) (hcell : w.cell? ⟨bq, oq, none⟩ = some (.slice a l.length cap)) (hin : InRu w (.slice a l.length cap) l) :
    Calls Try.prog 56 #[.pointer (some ⟨bq, oq, none⟩)] w fun e w' => ∃ v', e = .returned (.tuple #[v', .bool (gOk l)]) ∧ Below w.heap.size w w' ∧ (gOk l = true → w'.ownsRow w.heap.size 2 1 v' (gLn l).length ((gLn l).map (Value.int .i64))) := by
  by_cases hbig : 400 < l.length
  · have HF : Hid (gOk l = false) := by show _ = _; simp [gOk]; omega
    have hb2 : (400 : Int) < l.length := by omega
    clear hsz hin
    go_enter Try.func56, Try.ntmps56
    go_wp2
    go_ret2
    exact ⟨_, by rw [HF.out]; rfl, (Below.refl _ _).alloc (Nat.le_refl _) _, fun h => by rw [HF.out] at h; cases h⟩
  · have HS := Lib.hid (s_l02Sizes bq oq cap a l w hn hsz hcell hin)
    have HF : Hid (gOk l = (lnT l l.length).isSome) := by show _ = _; simp [gOk]; omega
    have hb2 : ¬ (400 : Int) < l.length := by omega
    clear hsz hin
    go_enter Try.func56, Try.ntmps56
    go_wp2_with fail
    refine HS.out.mono ?_
    rintro e w2 ⟨v', rfl, hb2, ho2⟩
    have HO := Lib.hid ho2
    clear ho2
    go_wp2
    go_ret2
    exact ⟨_, by rw [HF.out]; rfl, hb2, fun h => HO.out (by rw [← HF.out]; exact h)⟩
theorem s_l02Ok (bq oq cap : Nat) (a : Option Addr) (l : List Ru) (w : World) (hn : l.length ≤ 1048576) (hsz : ∀ r ∈ l, r.1.size ≤ 1048576) (hcell : w.cell? ⟨bq, oq, none⟩ = some (.slice a l.length cap)) (hin : InRu w (.slice a l.length cap) l) :
    Calls Try.prog 50 #[.pointer (some ⟨bq, oq, none⟩)] w fun e w' => e = .returned (.bool (gOk l)) ∧ Below w.heap.size w w' := by
  have HS := Lib.hid (s_l02Lengths bq oq cap a l w hn hsz hcell hin)
  clear hsz hin
  go_enter Try.func50, Try.ntmps50
  go_wp2_with fail
  refine HS.out.mono ?_
  rintro e w2 ⟨v', rfl, hb2, ho2⟩
  clear ho2
  go_wp2
  go_ret
  exact ⟨rfl, hb2⟩
theorem inRu_box {w : World} {v : Value} {l : List Ru} {o : Obj} (h : InRu w v l) : InRu (w.alloc o) v l := inRu_below h ((Below.refl _ _).alloc (Nat.le_refl _) _)
theorem box_cell (w : World) (v : Value) (t : TypeId) : (w.alloc (.cells #[v] t)).cell? ⟨w.heap.size, 0, none⟩ = some v := by simp [go_sem]
/-- the law's argument -/
def GrIn (w : World) (v : Value) (l : List Ru) : Prop := ∃ u, v = .agg #[u] ∧ InRu w u l
theorem s_ValidGrammar (v : Value) (l : List Ru) (w : World) (hn : l.length ≤ 1048576) (hsz : ∀ r ∈ l, r.1.size ≤ 1048576) (hin : InRu w v l) :
    Calls Try.prog 20 #[.agg #[v]] w fun e w' => e = .returned (.bool (gOk l)) ∧ Below w.heap.size w w' := by
  obtain ⟨a, cap, rfl⟩ := inRu_sl hin
  have HS := Lib.hid (s_l02Ok w.heap.size 0 cap a l _ hn hsz (box_cell w (.slice a l.length cap) 29) (inRu_box hin))
  clear hsz hin
  go_enter Try.func20, Try.ntmps20
  go_wp2_with fail
  refine HS.out.mono ?_
  rintro e w2 ⟨rfl, hb2⟩
  have hb3 := below_box hb2
  clear hb2
  go_wp2
  go_ret
  exact ⟨rfl, hb3⟩
theorem i_ValidGrammar (v : Value) (l : List Ru) (w : World) (hn : l.length ≤ 1048576) (hsz : ∀ r ∈ l, r.1.size ≤ 1048576) (hin : InRu w v l) :
    Calls Try.prog 21 #[.agg #[v]] w fun e w' => e = .returned (.bool (gOk l)) ∧ Below w.heap.size w w' := by
  have HS := Lib.hid (i_lengths v l _ hn hsz (inRu_box (o := .cells #[v] 29) hin))
  clear hsz hin
  go_enter Try.func21, Try.ntmps21
  go_wp2_with fail
  refine HS.out.mono ?_
  rintro e w2 ⟨v2, rfl, ho, hb2⟩
  have hb3 := below_box hb2
  clear hb2 ho
  go_wp2
  go_ret
  exact ⟨rfl, hb3⟩
theorem walk_FnExactValidGrammar (v : Value) (l : List Ru)  (w : World) (h0 : GrIn w v l) (h0b : l.length ≤ 9223372036854775807) (h0c : ∀ r ∈ l, r.1.size ≤ 9223372036854775807)  :
    Calls Try.prog 4 #[v] w fun e w' => e = .returned (.bool true) ∧ Below w.heap.size w w' := by
  obtain ⟨u, rfl, hin⟩ := h0
  have HS := Lib.hid (fun (u : Value) w =>  s_ValidGrammar u l w)
  have HI := Lib.hid (fun (u : Value) w =>  i_ValidGrammar u l w)
  have b0 := box_cell w u 24
  have i0 := inRu_box (o := .cells #[u] 24) hin
  clear hin
  go_enter Try.func4, Try.ntmps4
  go_wp2_with fail
  refine (l_szGrammar u l 1048576 _ (by omega) i0 h0b h0c).mono ?_
  rintro e w1 ⟨hb1, rfl | ⟨n0, rfl, hn0, hln, hsz⟩⟩
  · clear h0b h0c HS HI
    have hbb := below_box hb1
    clear hb1 b0 i0
    go_wp2
    go_ret
    exact ⟨rfl, hbb⟩
  · have HSZ := Lib.hid hsz
    have i1 := inRu_below i0 hb1
    have b1 := cell_later hb1 b0
    clear h0b h0c hsz b0 i0
    go_wp2_with fail
    refine (l_toGrammar u l w1 hln i1).mono ?_
    rintro e w2 ⟨g2, c2, rfl, ho2, hb2⟩
    have i2 := inRu_below i1 hb2
    have b2 := cell_later hb2 b1
    clear b1 i1
    go_wp2_with fail
    refine (HS.out _ w2 hln HSZ.out (inRu_own rfl ho2)).mono ?_
    rintro e w3 ⟨rfl, hb3⟩
    have i3 := inRu_below i2 hb3
    have b3 := cell_later hb3 b2
    clear b2 i2 ho2
    go_wp2_with fail
    refine (l_toGrammar u l w3 hln i3).mono ?_
    rintro e w4 ⟨g4, c4, rfl, ho4, hb4⟩
    have i4 := inRu_box (o := .cells #[.slice (some ⟨g4, 0, none⟩) l.length c4] 29) (inRu_below i3 hb4)
    have b4 := cell_later ((Below.refl _ _).alloc (Nat.le_refl _) (.cells #[.slice (some ⟨g4, 0, none⟩) l.length c4] 29)) (cell_later hb4 b3)
    have x4 := box_cell w4 (.slice (some ⟨g4, 0, none⟩) l.length c4) 29
    have ix4 := inRu_box (o := .cells #[.slice (some ⟨g4, 0, none⟩) l.length c4] 29) (inRu_own rfl ho4)
    clear b3 i3 ho4
    go_wp2_with fail
    refine (HI.out _ _ hln HSZ.out ix4).mono ?_
    rintro e w5 ⟨rfl, hb5⟩
    have i5 := inRu_below i4 hb5
    have b5 := cell_later hb5 b4
    have x5 := cell_later hb5 x4
    have ix5 := inRu_below ix4 hb5
    have HB5 : Hid (Below w.heap.size w w5) := by
      have s1 := hb1.size
      have s2 := hb2.size
      have s3 := hb3.size
      have s4 := hb4.size
      have s5 := hb5.size
      have hb45 := below_box hb5
      simp only [World.size_alloc] at s5
      exact below_box (((((hb1.trans (hb2.mono (by omega))).trans (hb3.mono (by omega))).trans (hb4.mono (by omega))).trans (hb45.mono (by omega))))
    clear b4 i4 x4 ix4 hb1 hb2 hb3 hb4 hb5
    go_wp2
    go_region_held3 (fun w' => Below w5.heap.size w5 w' ∧ w'.cell? ⟨w.heap.size, 0, none⟩ = some u ∧ w'.cell? ⟨w4.heap.size, 0, none⟩ = some (.slice (some ⟨g4, 0, none⟩) l.length c4) ∧ InRu w' u l ∧ InRu w' (.slice (some ⟨g4, 0, none⟩) l.length c4) l) (first | (go_split_ands; refine ⟨?_, ?_, ?_, ?_, ?_⟩ <;> first | assumption | exact Below.drew (Below.refl _ _) | exact Below.drew (by assumption) | exact inRu_below (by assumption) (Below.drew (Below.refl _ _)) | exact cell_later hbA (by assumption) | exact inRu_below (by assumption) hbA | exact Below.trans ‹Below w5.heap.size w5 _› (hbA.mono (Below.size ‹Below w5.heap.size w5 _›)) | simp [*])) (first | (go_at_call 17; refine (l_toGrammar u l _ hln (by assumption)).mono ?_; rintro e wA ⟨g6, c6, rfl, ho6, hbA⟩) | (go_at_call 19; refine (l_eqGrammar _ _ l _ (by first | assumption | exact inRu_below (inRu_below ix5 (Below.drew (Below.refl _ _))) hbA) (by first | exact inRu_own rfl ho6 | exact inRu_below (inRu_own rfl ho6) (Below.drew (Below.refl _ _))) hln).mono ?_; rintro e wA ⟨rfl, hbA⟩))
    rename_i hS
    have HBB : Hid (Below w.heap.size w wA) := HB5.out.trans (hS.1.mono HB5.out.size)
    clear hS hbA b5 x5 i5 ix5
    go_wp2
    go_ret
    exact ⟨rfl, HBB.out⟩
end Go.Proofs.Ytmcfjjhflnhehaa

/- UnpackWord and LetterAt, of the program and of the reference, and their laws. -/
import Derived.Test.YtmcfjjhflnhehaaGJ
namespace Go.Proofs.Ytmcfjjhflnhehaa
open Go.ChangeShapes Go.WideShapes Go.RowKit
set_option linter.unusedVariables false
set_option linter.unusedSimpArgs false
set_option maxHeartbeats 2000000
set_option maxRecDepth 100000
def uwC (l : List Ru) : Int := if gOk l = false then 1 else upC l 0 (lastI (gLn l))
def uwW (l : List Ru) : ByteArray := if gOk l = false then ⟨#[]⟩ else upW l 0 (lastI (gLn l))
theorem uw_bad {l : List Ru} (h : gOk l = false) : uwC l = 1 ∧ uwW l = ⟨#[]⟩ := by simp [uwC, uwW, h]
theorem uw_ok {l : List Ru} (h : gOk l = true) : uwC l = upC l 0 (lastI (gLn l)) ∧ uwW l = upW l 0 (lastI (gLn l)) := by simp [uwC, uwW, h]
theorem pk_all {l : List Ru} (h : gOk l = true) : pkC l 0 (lastI (gLn l)) = 0 := pkC_ok h (by have := last_bd h; omega)
theorem s_UnpackWord (v : Value) (l : List Ru) (w : World) (hn : l.length ≤ 1048576) (hsz : ∀ r ∈ l, r.1.size ≤ 1048576) (hin : InRu w v l) :
    Calls Try.prog 40 #[.agg #[v]] w fun e w' => e = .returned (.tuple #[.string (uwW l), .int .i64 (uwC l)]) ∧ Below w.heap.size w w' := by
  obtain ⟨a, cap, rfl⟩ := inRu_sl hin
  have b0 := box_cell w (.slice a l.length cap) 29
  have i0 := inRu_box (o := .cells #[.slice a l.length cap] 29) hin
  have HS := Lib.hid (s_l02Ok w.heap.size 0 cap a l _ hn hsz b0 i0)
  cases hok : gOk l
  · have HF := Lib.hid (uw_bad hok)
    rw [hok] at HS
    clear hsz hin b0 i0 hok
    go_enter Try.func40, Try.ntmps40
    go_wp2_with fail
    refine HS.out.mono ?_
    rintro e w2 ⟨rfl, hb2⟩
    have hb3 := below_box hb2
    clear hb2
    go_wp2
    go_ret2
    exact ⟨ret_si HF.out.2.symm HF.out.1.symm, hb3⟩
  · have h2 := gOk_some hok
    have HF := Lib.hid (uw_ok hok)
    have HL := Lib.hid (fun (wz : Nat × World) h i => s_l02Length wz.1 0 cap a l wz.2 hn hsz h i (by rw [h2.2.1]; rfl))
    have HU := Lib.hid (fun (n : Nat) w hc hi hb => s_l02Unpack n 0 cap a l 0 (lastI (gLn l)) w hn hsz hok hc hi (by omega) (last_bd hok).1 (Int.le_refl _) hb)
    have HX1 : Hid (2000 < lastI (gLn l) → upC l 0 (lastI (gLn l)) = 3 ∧ upW l 0 (lastI (gLn l)) = ⟨#[]⟩) := fun h => up_long (pk_all hok) (by omega)
    have HX2 : Hid (¬ 2000 < lastI (gLn l) → upC l 0 (lastI (gLn l)) = 0 ∧ upW l 0 (lastI (gLn l)) = ⟨(ptX l 0 (lastI (gLn l))).toArray⟩) := fun h => up_ok (pk_all hok) (by omega)
    have hbd := last_bd hok
    rw [hok] at HS
    clear hsz hin hok h2
    generalize lastI (gLn l) = la at *
    obtain ⟨hbd0, hbd1⟩ := hbd
    go_enter Try.func40, Try.ntmps40
    go_wp2_with fail
    refine HS.out.mono ?_
    rintro e w2 ⟨rfl, hb2⟩
    have b2 := cell_later hb2 b0
    have i2 := inRu_below i0 hb2
    go_wp2_with fail
    refine (HL.out (w.heap.size, w2) b2 i2).mono ?_
    rintro e w3 ⟨rfl, hb3⟩
    have hB3 := hb2.trans (hb3.mono hb2.size)
    have b3 := cell_later hB3 b0
    have i3 := inRu_below i0 hB3
    clear hb2 hb3 b0 i0 b2 i2
    by_cases hlong : 2000 < la
    · have HG := Lib.hid (HX1.out hlong)
      have hb4 := below_box hB3
      clear hB3 b3 i3
      go_wp2
      go_ret2
      exact ⟨ret_si (by rw [HF.out.2, HG.out.2]) (by rw [HF.out.1, HG.out.1]), hb4⟩
    · have HG := Lib.hid (HX2.out (by omega))
      go_wp2_with fail
      refine (HU.out w.heap.size w3 b3 i3 (by omega)).mono ?_
      rintro e w4 ⟨rfl, hb4⟩
      have hb5 := below_box (hB3.trans (hb4.mono hB3.size))
      clear hB3 hb4 b3 i3
      go_wp2
      go_ret2
      exact ⟨ret_si (by rw [HF.out.2, HG.out.2]) (by rw [HF.out.1, HG.out.1]), hb5⟩
theorem gLen_ok {l : List Ru} (h : gOk l = true) : gLen l = lastI (gLn l) := (g_ok h).1
theorem i_UnpackWord (v : Value) (l : List Ru) (w : World) (hn : l.length ≤ 1048576) (hsz : ∀ r ∈ l, r.1.size ≤ 1048576) (hin : InRu w v l) :
    Calls Try.prog 41 #[.agg #[v]] w fun e w' => e = .returned (.tuple #[.string (uwW l), .int .i64 (uwC l)]) ∧ Below w.heap.size w w' := by
  have b0 := box_cell w v 29
  have i0 := inRu_box (o := .cells #[v] 29) hin
  have HS := Lib.hid (i_LengthOf v l _ hn hsz i0)
  cases hok : gOk l
  · have HF := Lib.hid (uw_bad hok)
    rw [(g_bad hok).2.1, (g_bad hok).1] at HS
    clear hsz hin b0 i0 hok
    go_enter Try.func41, Try.ntmps41
    go_wp2_with fail
    refine HS.out.mono ?_
    rintro e w2 ⟨rfl, hb2⟩
    have hb3 := below_box hb2
    clear hb2
    go_wp2
    go_ret2
    exact ⟨ret_si HF.out.2.symm HF.out.1.symm, hb3⟩
  · have HF := Lib.hid (uw_ok hok)
    have HU := Lib.hid (fun w i => i_UnpackPart v l 0 (lastI (gLn l)) w hn hsz i)
    rw [(g_ok hok).2.1, (g_ok hok).1] at HS
    clear hsz hin hok
    generalize lastI (gLn l) = la at *
    go_enter Try.func41, Try.ntmps41
    go_wp2_with fail
    refine HS.out.mono ?_
    rintro e w2 ⟨rfl, hb2⟩
    have b2 := cell_later hb2 b0
    have i2 := inRu_below i0 hb2
    go_wp2_with fail
    refine (HU.out w2 i2).mono ?_
    rintro e w3 ⟨rfl, hb3⟩
    have hb4 := below_box (hb2.trans (hb3.mono hb2.size))
    clear hb2 hb3 b0 i0 b2 i2
    go_wp2
    go_ret2
    exact ⟨ret_si HF.out.2.symm HF.out.1.symm, hb4⟩
theorem walk_FnExactUnpackWord (v : Value) (l : List Ru)  (w : World) (h0 : GrIn w v l) (h0b : l.length ≤ 9223372036854775807) (h0c : ∀ r ∈ l, r.1.size ≤ 9223372036854775807)  :
    Calls Try.prog 12 #[v] w fun e w' => e = .returned (.bool true) ∧ Below w.heap.size w w' := by
  obtain ⟨u, rfl, hin⟩ := h0
  have HS := Lib.hid (fun (u : Value) w =>  s_UnpackWord u l w)
  have HI := Lib.hid (fun (u : Value) w =>  i_UnpackWord u l w)
  have b0 := box_cell w u 24
  have i0 := inRu_box (o := .cells #[u] 24) hin
  clear hin
  go_enter Try.func12, Try.ntmps12
  go_wp2_with fail
  refine (l_szGrammar u l 1048576 _ (by omega) i0 h0b h0c).mono ?_
  rintro e w1 ⟨hb1, rfl | ⟨n0, rfl, hn0, hln, hsz⟩⟩
  · clear h0b h0c HS HI
    have hbb := below_box hb1
    clear hb1 b0 i0
    go_wp2
    go_ret
    exact ⟨rfl, hbb⟩
  · have HSZ := Lib.hid hsz
    have i1 := inRu_below i0 hb1
    have b1 := cell_later hb1 b0
    clear h0b h0c hsz b0 i0
    go_wp2_with fail
    refine (l_toGrammar u l w1 hln i1).mono ?_
    rintro e w2 ⟨g2, c2, rfl, ho2, hb2⟩
    have i2 := inRu_below i1 hb2
    have b2 := cell_later hb2 b1
    clear b1 i1
    go_wp2_with fail
    refine (HS.out _ w2 hln HSZ.out (inRu_own rfl ho2)).mono ?_
    rintro e w3 ⟨rfl, hb3⟩
    have i3 := inRu_below i2 hb3
    have b3 := cell_later hb3 b2
    clear b2 i2 ho2
    go_wp2_with fail
    refine (l_toGrammar u l w3 hln i3).mono ?_
    rintro e w4 ⟨g4, c4, rfl, ho4, hb4⟩
    have i4 := inRu_box (o := .cells #[.slice (some ⟨g4, 0, none⟩) l.length c4] 29) (inRu_below i3 hb4)
    have b4 := cell_later ((Below.refl _ _).alloc (Nat.le_refl _) (.cells #[.slice (some ⟨g4, 0, none⟩) l.length c4] 29)) (cell_later hb4 b3)
    have x4 := box_cell w4 (.slice (some ⟨g4, 0, none⟩) l.length c4) 29
    have ix4 := inRu_box (o := .cells #[.slice (some ⟨g4, 0, none⟩) l.length c4] 29) (inRu_own rfl ho4)
    clear b3 i3 ho4
    go_wp2_with fail
    refine (HI.out _ _ hln HSZ.out ix4).mono ?_
    rintro e w5 ⟨rfl, hb5⟩
    have i5 := inRu_below i4 hb5
    have b5 := cell_later hb5 b4
    have x5 := cell_later hb5 x4
    have ix5 := inRu_below ix4 hb5
    have HB5 : Hid (Below w.heap.size w w5) := by
      have s1 := hb1.size
      have s2 := hb2.size
      have s3 := hb3.size
      have s4 := hb4.size
      have s5 := hb5.size
      have hb45 := below_box hb5
      simp only [World.size_alloc] at s5
      exact below_box (((((hb1.trans (hb2.mono (by omega))).trans (hb3.mono (by omega))).trans (hb4.mono (by omega))).trans (hb45.mono (by omega))))
    clear b4 i4 x4 ix4 hb1 hb2 hb3 hb4 hb5
    go_wp2
    go_region_held3 (fun w' => Below w5.heap.size w5 w' ∧ w'.cell? ⟨w.heap.size, 0, none⟩ = some u ∧ w'.cell? ⟨w4.heap.size, 0, none⟩ = some (.slice (some ⟨g4, 0, none⟩) l.length c4) ∧ InRu w' u l ∧ InRu w' (.slice (some ⟨g4, 0, none⟩) l.length c4) l) (first | (go_split_ands; refine ⟨?_, ?_, ?_, ?_, ?_⟩ <;> first | assumption | exact Below.drew (Below.refl _ _) | exact Below.drew (by assumption) | exact inRu_below (by assumption) (Below.drew (Below.refl _ _)) | exact cell_later hbA (by assumption) | exact inRu_below (by assumption) hbA | exact Below.trans ‹Below w5.heap.size w5 _› (hbA.mono (Below.size ‹Below w5.heap.size w5 _›)) | simp [*])) (first | (go_at_call 17; refine (l_toGrammar u l _ hln (by assumption)).mono ?_; rintro e wA ⟨g6, c6, rfl, ho6, hbA⟩) | (go_at_call 19; refine (l_eqGrammar _ _ l _ (by first | assumption | exact inRu_below (inRu_below ix5 (Below.drew (Below.refl _ _))) hbA) (by first | exact inRu_own rfl ho6 | exact inRu_below (inRu_own rfl ho6) (Below.drew (Below.refl _ _))) hln).mono ?_; rintro e wA ⟨rfl, hbA⟩))
    rename_i hS
    have HBB : Hid (Below w.heap.size w wA) := HB5.out.trans (hS.1.mono HB5.out.size)
    clear hS hbA b5 x5 i5 ix5
    go_wp2
    go_ret
    exact ⟨rfl, HBB.out⟩
def laC (l : List Ru) (i : Int) : Int := if gOk l = false then 1 else if 0 ≤ i ∧ i ≤ lastI (gLn l) - 1 then 0 else 2
def laW (l : List Ru) (i : Int) : ByteArray := if laC l i = 0 then ⟨(ptX l i (i + 1)).toArray⟩ else ⟨#[]⟩
theorem la_bad {l : List Ru} {i : Int} (h : gOk l = false) : laC l i = 1 ∧ laW l i = ⟨#[]⟩ := by
  have : laC l i = 1 := by rw [laC, if_pos h]
  exact ⟨this, by rw [laW, this, if_neg (by decide)]⟩
theorem la_out {l : List Ru} {i : Int} (h : gOk l = true) (h2 : ¬ (0 ≤ i ∧ i ≤ lastI (gLn l) - 1)) : laC l i = 2 ∧ laW l i = ⟨#[]⟩ := by
  have : laC l i = 2 := by rw [laC, if_neg (by simp [h]), if_neg h2]
  exact ⟨this, by rw [laW, this, if_neg (by decide)]⟩
theorem la_ok {l : List Ru} {i : Int} (h : gOk l = true) (h2 : 0 ≤ i ∧ i ≤ lastI (gLn l) - 1) : laC l i = 0 ∧ laW l i = ⟨(ptX l i (i + 1)).toArray⟩ := by
  have : laC l i = 0 := by rw [laC, if_neg (by simp [h]), if_pos h2]
  exact ⟨this, by rw [laW, if_pos this]⟩
theorem pt_one {l : List Ru} {i : Int} (h0 : 0 ≤ i) (h1 : i.toNat < (wd l).length) : ptX l i (i + 1) = [(wd l).getD i.toNat 0] := by
  have := ptX_snoc (l := l) (i := i) (k := i.toNat) (by omega) h0 h1
  rw [show ((i.toNat + 1 : Nat) : Int) = i + 1 by omega, show ((i.toNat : Nat) : Int) = i by omega, ptX_nil] at this
  simpa using this
theorem s_LetterAt (v : Value) (l : List Ru) (i : Int) (w : World) (hn : l.length ≤ 1048576) (hsz : ∀ r ∈ l, r.1.size ≤ 1048576) (hin : InRu w v l) :
    Calls Try.prog 34 #[.agg #[v], .int .i64 i] w fun e w' => e = .returned (.tuple #[.string (laW l i), .int .i64 (laC l i)]) ∧ Below w.heap.size w w' := by
  obtain ⟨a, cap, rfl⟩ := inRu_sl hin
  have b0 := box_cell w (.slice a l.length cap) 29
  have i0 := inRu_box (o := .cells #[.slice a l.length cap] 29) hin
  have HS := Lib.hid (s_l02Lengths w.heap.size 0 cap a l _ hn hsz b0 i0)
  cases hok : gOk l
  · have HF := Lib.hid (la_bad (i := i) hok)
    rw [hok] at HS
    clear hsz hin b0 i0 hok
    go_enter Try.func34, Try.ntmps34
    go_wp2_with fail
    refine HS.out.mono ?_
    rintro e w2 ⟨v', rfl, hb2, -⟩
    have hb3 := below_box hb2
    clear hb2
    go_wp2
    go_ret2
    exact ⟨ret_si HF.out.2.symm HF.out.1.symm, hb3⟩
  · have h2 := gOk_some hok
    have hbd := last_bd hok
    have HL := Lib.hid (fun (wz : Nat × World) h i => s_l02Length wz.1 0 cap a l wz.2 hn hsz h i (by rw [h2.2.1]; rfl))
    have hwl := wd_len hok
    have hgl := h2.2.2.1
    rw [hok] at HS
    by_cases hi : 0 ≤ i ∧ i ≤ lastI (gLn l) - 1
    · have HF := Lib.hid (la_ok hok hi)
      have HP := Lib.hid (pt_one (l := l) hi.1 (by omega))
      have HT := Lib.hid (fun (n gl cl base : Nat) (w : World) hc hr ho => s_l02Letter n 0 cap gl cl base a l i w hok hc hr ho hi.1 (by omega))
      have HW := Lib.hid (fun w => s_l00In_r i 0 (lastI (gLn l) - 1) true (by simp; omega) w)
      have hl0 : l.length ≠ 0 := by
        intro h
        have : l = [] := List.eq_nil_of_length_eq_zero h
        subst this
        have : lastI (gLn ([] : List Ru)) = 0 := rfl
        omega
      clear hsz hin hok h2 hi
      generalize lastI (gLn l) = la at *
      obtain ⟨hbd0, hbd1⟩ := hbd
      go_enter Try.func34, Try.ntmps34
      go_wp2_with fail
      refine HS.out.mono ?_
      rintro e w2 ⟨v', rfl, hb2, ho⟩
      have ho' := by first | exact ho rfl | exact ho trivial
      rw [hgl] at ho'
      obtain ⟨al, cl, rfl, hsome, -⟩ := owns_sl3 ho'
      obtain ⟨gl, rfl⟩ := hsome hl0
      have b2 := cell_later hb2 b0
      have i2 := inRu_below i0 hb2
      clear ho hsome
      go_wp2_with fail
      refine (HL.out (w.heap.size, w2) b2 i2).mono ?_
      rintro e w3 ⟨rfl, hb3⟩
      have hB3 := hb2.trans (hb3.mono hb2.size)
      have HT3 := Lib.hid (HT.out w.heap.size gl cl _ w3 (cell_later hB3 b0) (inRu_below i0 hB3) (owns_after ho' hb3))
      have hb4 := below_box hB3
      clear hb2 hb3 b0 i0 b2 i2 ho' HT HL
      go_wp2_with fail
      refine (HW.out _).mono ?_
      rintro e w4 ⟨rfl, rfl⟩
      go_wp2_with fail
      refine HT3.out.mono ?_
      rintro e w4 ⟨rfl, rfl⟩
      generalize (wd l).getD i.toNat 0 = y at *
      have hcv : (convert 48 9 (.slice (some ⟨w3.heap.size, 0, none⟩) 1 1)).run Try.prog (w3.alloc (.cells #[.int .u8 y.toNat] 5)) = .ok (.string ⟨[y].toArray⟩) (w3.alloc (.cells #[.int .u8 y.toNat] 5)) :=
        conv_own (base := w3.heap.size) (cap := 1) (g := w3.heap.size) (l := [y]) (by
          have := own_one w3 (.int .u8 y.toNat) 5
          exact this)
      have hb5 := hb4.alloc hb4.size (.cells #[.int .u8 y.toNat] 5)
      clear hb4 hB3
      go_wp2
      go_ret2
      exact ⟨ret_si (by rw [HF.out.2, HP.out]) HF.out.1.symm, hb5⟩
    · have HF := Lib.hid (la_out hok hi)
      have HW := Lib.hid (fun w => s_l00In_r i 0 (lastI (gLn l) - 1) false (by simp; omega) w)
      clear hsz hin hok h2 hi
      generalize lastI (gLn l) = la at *
      obtain ⟨hbd0, hbd1⟩ := hbd
      go_enter Try.func34, Try.ntmps34
      go_wp2_with fail
      refine HS.out.mono ?_
      rintro e w2 ⟨v', rfl, hb2, -⟩
      have b2 := cell_later hb2 b0
      have i2 := inRu_below i0 hb2
      go_wp2_with fail
      refine (HL.out (w.heap.size, w2) b2 i2).mono ?_
      rintro e w3 ⟨rfl, hb3⟩
      have hb4 := below_box (hb2.trans (hb3.mono hb2.size))
      clear hb2 hb3 b0 i0 b2 i2 HL
      go_wp2_with fail
      refine (HW.out _).mono ?_
      rintro e w4 ⟨rfl, rfl⟩
      go_wp2
      go_ret2
      exact ⟨ret_si HF.out.2.symm HF.out.1.symm, hb4⟩
theorem i_LetterAt (v : Value) (l : List Ru) (i : Int) (w : World) (hn : l.length ≤ 1048576) (hsz : ∀ r ∈ l, r.1.size ≤ 1048576) (hin : InRu w v l) :
    Calls Try.prog 35 #[.agg #[v], .int .i64 i] w fun e w' => e = .returned (.tuple #[.string (laW l i), .int .i64 (laC l i)]) ∧ Below w.heap.size w w' := by
  obtain ⟨a, cap, rfl⟩ := inRu_sl hin
  have b0 := box_cell w (.slice a l.length cap) 29
  have i0 := inRu_box (o := .cells #[.slice a l.length cap] 29) hin
  have HS := Lib.hid (i_lengths _ l _ hn hsz i0)
  cases hok : gOk l
  · have HF := Lib.hid (la_bad (i := i) hok)
    rw [hok] at HS
    clear hsz hin hok b0 i0
    go_enter Try.func35, Try.ntmps35
    go_wp2_with fail
    refine HS.out.mono ?_
    rintro e w2 ⟨v2, rfl, ho, hb2⟩
    have hb3 := below_box hb2
    clear hb2 ho
    go_wp2
    go_ret2
    exact ⟨ret_si HF.out.2.symm HF.out.1.symm, hb3⟩
  · rw [hok] at HS
    have hgl := (gOk_some hok).2.2.1
    have hl400 := (gOk_some hok).1
    have hbd := last_bd hok
    have HIL := Lib.hid (fun v base w ho => i_last v (gLn l) base w (by omega) ho)
    by_cases hi : 0 ≤ i ∧ i ≤ lastI (gLn l) - 1
    · have HF := Lib.hid (la_ok hok hi)
      have HW := Lib.hid (fun w => i_within_r i 0 (lastI (gLn l) - 1) true (by simp; omega) w)
      have HL : Hid (∀ (lv : Option Addr) (gl cl base : Nat) (w : World), InRu w (.slice a l.length cap) l → (l.length ≠ 0 → lv = some ⟨gl, 0, none⟩) → w.ownsRow base 2 1 (.slice lv l.length cl) l.length ((gLn l).map (Value.int .i64)) → Calls Try.prog 63 #[.agg #[.slice a l.length cap], .slice lv l.length cl, .int .i64 i, .int .i64 (i + 1)] w fun e w' => e = .returned (.string ⟨(ptX l i (i + 1)).toArray⟩) ∧ Below w.heap.size w w') :=
        fun lv gl cl base w h1' h2' h3' => by
          have := i_unpack a lv cap gl cl base l i (i + 1) w hok h1' h2' h3' (by rw [ptW_law hok hi.1, List.length_drop, List.length_take]; omega)
          rw [ptW_law hok hi.1] at this
          exact this
      obtain ⟨hi1, hi2⟩ := hi
      generalize lastI (gLn l) = la at *
      obtain ⟨hbd0, hbd1⟩ := hbd
      clear hsz hin hok
      go_enter Try.func35, Try.ntmps35
      go_wp2_with fail
      refine HS.out.mono ?_
      rintro e w2 ⟨v2, rfl, ho, hb2⟩
      have b2 := cell_later hb2 b0
      have i2 := inRu_below i0 hb2
      go_wp2_with fail
      refine (HIL.out v2 _ _ ho).mono ?_
      rintro e w3 ⟨rfl, q, rfl⟩
      have hb3 := below_drewN (below_box hb2) q
      have b3 : (w2.drewN q).cell? ⟨w.heap.size, 0, none⟩ = some (.slice a l.length cap) := by simpa using b2
      have i3 := inRu_drewN i2 q
      have ho3 := ownsRow_drewN ho q
      clear hb2 b2 i2 ho b0 i0
      rw [hgl] at ho3
      obtain ⟨lv, cl, rfl, hsome, -⟩ := owns_sl3 ho3
      obtain ⟨gl, hlv⟩ : ∃ gl, l.length ≠ 0 → lv = some ⟨gl, 0, none⟩ := by
        by_cases h : l.length = 0
        · exact ⟨0, fun h' => absurd h h'⟩
        · obtain ⟨gl, e⟩ := hsome h; exact ⟨gl, fun _ => e⟩
      have HU := Lib.hid (HL.out lv gl cl _ _ i3 hlv ho3)
      clear hsome hlv ho3 i3
      go_wp2_with fail
      refine (HW.out _).mono ?_
      rintro e w4 ⟨rfl, rfl⟩
      go_wp2_with fail
      refine HU.out.mono ?_
      rintro e w4 ⟨rfl, hb4⟩
      have hb5 := hb3.trans (hb4.mono hb3.size)
      clear hb3 hb4
      go_wp2
      go_ret2
      exact ⟨ret_si HF.out.2.symm HF.out.1.symm, hb5⟩
    · have HF := Lib.hid (la_out hok hi)
      have HW := Lib.hid (fun w => i_within_r i 0 (lastI (gLn l) - 1) false (by simp; omega) w)
      clear hi
      generalize lastI (gLn l) = la at *
      obtain ⟨hbd0, hbd1⟩ := hbd
      clear hsz hin hok b0 i0
      go_enter Try.func35, Try.ntmps35
      go_wp2_with fail
      refine HS.out.mono ?_
      rintro e w2 ⟨v2, rfl, ho, hb2⟩
      go_wp2_with fail
      refine (HIL.out v2 _ _ ho).mono ?_
      rintro e w3 ⟨rfl, q, rfl⟩
      have hb3 := below_drewN (below_box hb2) q
      clear hb2 ho
      go_wp2_with fail
      refine (HW.out _).mono ?_
      rintro e w4 ⟨rfl, rfl⟩
      go_wp2
      go_ret2
      exact ⟨ret_si HF.out.2.symm HF.out.1.symm, hb3⟩
theorem walk_FnExactLetterAt (v : Value) (l : List Ru) (i : Int) (w : World) (h0 : GrIn w v l) (h0b : l.length ≤ 9223372036854775807) (h0c : ∀ r ∈ l, r.1.size ≤ 9223372036854775807) (h1 : (Lit.int .i64 i).wf = true) :
    Calls Try.prog 9 #[v, .int .i64 i] w fun e w' => e = .returned (.bool true) ∧ Below w.heap.size w w' := by
  obtain ⟨u, rfl, hin⟩ := h0
  have HS := Lib.hid (fun (u : Value) w =>  s_LetterAt u l i w)
  have HI := Lib.hid (fun (u : Value) w =>  i_LetterAt u l i w)
  have b0 := box_cell w u 24
  have i0 := inRu_box (o := .cells #[u] 24) hin
  clear hin
  go_enter Try.func9, Try.ntmps9
  go_wp2_with fail
  refine (l_szGrammar u l 1048576 _ (by omega) i0 h0b h0c).mono ?_
  rintro e w1 ⟨hb1, rfl | ⟨n0, rfl, hn0, hln, hsz⟩⟩
  · clear h0b h0c HS HI
    have hbb := below_box hb1
    clear hb1 b0 i0
    go_wp2
    go_ret
    exact ⟨rfl, hbb⟩
  · have HSZ := Lib.hid hsz
    have i1 := inRu_below i0 hb1
    have b1 := cell_later hb1 b0
    clear h0b h0c hsz b0 i0
    go_wp2_with fail
    refine (l_toGrammar u l w1 hln i1).mono ?_
    rintro e w2 ⟨g2, c2, rfl, ho2, hb2⟩
    have i2 := inRu_below i1 hb2
    have b2 := cell_later hb2 b1
    clear b1 i1
    go_wp2_with fail
    refine (HS.out _ w2 hln HSZ.out (inRu_own rfl ho2)).mono ?_
    rintro e w3 ⟨rfl, hb3⟩
    have i3 := inRu_below i2 hb3
    have b3 := cell_later hb3 b2
    clear b2 i2 ho2
    go_wp2_with fail
    refine (l_toGrammar u l w3 hln i3).mono ?_
    rintro e w4 ⟨g4, c4, rfl, ho4, hb4⟩
    have i4 := inRu_box (o := .cells #[.slice (some ⟨g4, 0, none⟩) l.length c4] 29) (inRu_below i3 hb4)
    have b4 := cell_later ((Below.refl _ _).alloc (Nat.le_refl _) (.cells #[.slice (some ⟨g4, 0, none⟩) l.length c4] 29)) (cell_later hb4 b3)
    have x4 := box_cell w4 (.slice (some ⟨g4, 0, none⟩) l.length c4) 29
    have ix4 := inRu_box (o := .cells #[.slice (some ⟨g4, 0, none⟩) l.length c4] 29) (inRu_own rfl ho4)
    clear b3 i3 ho4
    go_wp2_with fail
    refine (HI.out _ _ hln HSZ.out ix4).mono ?_
    rintro e w5 ⟨rfl, hb5⟩
    have i5 := inRu_below i4 hb5
    have b5 := cell_later hb5 b4
    have x5 := cell_later hb5 x4
    have ix5 := inRu_below ix4 hb5
    have HB5 : Hid (Below w.heap.size w w5) := by
      have s1 := hb1.size
      have s2 := hb2.size
      have s3 := hb3.size
      have s4 := hb4.size
      have s5 := hb5.size
      have hb45 := below_box hb5
      simp only [World.size_alloc] at s5
      exact below_box (((((hb1.trans (hb2.mono (by omega))).trans (hb3.mono (by omega))).trans (hb4.mono (by omega))).trans (hb45.mono (by omega))))
    clear b4 i4 x4 ix4 hb1 hb2 hb3 hb4 hb5
    go_wp2
    go_region_held3 (fun w' => Below w5.heap.size w5 w' ∧ w'.cell? ⟨w.heap.size, 0, none⟩ = some u ∧ w'.cell? ⟨w4.heap.size, 0, none⟩ = some (.slice (some ⟨g4, 0, none⟩) l.length c4) ∧ InRu w' u l ∧ InRu w' (.slice (some ⟨g4, 0, none⟩) l.length c4) l) (first | (go_split_ands; refine ⟨?_, ?_, ?_, ?_, ?_⟩ <;> first | assumption | exact Below.drew (Below.refl _ _) | exact Below.drew (by assumption) | exact inRu_below (by assumption) (Below.drew (Below.refl _ _)) | exact cell_later hbA (by assumption) | exact inRu_below (by assumption) hbA | exact Below.trans ‹Below w5.heap.size w5 _› (hbA.mono (Below.size ‹Below w5.heap.size w5 _›)) | simp [*])) (first | (go_at_call 17; refine (l_toGrammar u l _ hln (by assumption)).mono ?_; rintro e wA ⟨g6, c6, rfl, ho6, hbA⟩) | (go_at_call 19; refine (l_eqGrammar _ _ l _ (by first | assumption | exact inRu_below (inRu_below ix5 (Below.drew (Below.refl _ _))) hbA) (by first | exact inRu_own rfl ho6 | exact inRu_below (inRu_own rfl ho6) (Below.drew (Below.refl _ _))) hln).mono ?_; rintro e wA ⟨rfl, hbA⟩))
    rename_i hS
    have HBB : Hid (Below w.heap.size w wA) := HB5.out.trans (hS.1.mono HB5.out.size)
    clear hS hbA b5 x5 i5 ix5
    go_wp2
    go_ret
    exact ⟨rfl, HBB.out⟩
end Go.Proofs.Ytmcfjjhflnhehaa

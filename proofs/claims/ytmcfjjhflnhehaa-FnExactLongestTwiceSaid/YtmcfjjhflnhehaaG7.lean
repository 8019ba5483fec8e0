/- LengthOf and LengthsOf, of the program and of the reference; the law of LengthOf. -/
import Derived.Test.YtmcfjjhflnhehaaG6
namespace Go.Proofs.Ytmcfjjhflnhehaa
open Go.ChangeShapes Go.WideShapes Go.RowKit
set_option linter.unusedVariables false
set_option linter.unusedSimpArgs false
set_option maxHeartbeats 2000000
set_option maxRecDepth 100000
def lastI (ls : List Int) : Int := if ls.length = 0 then 0 else ls.getD (ls.length - 1) 0
theorem lastI_nil {ls : List Int} (h : ls.length = 0) : lastI ls = 0 := by rw [lastI, if_pos h]
theorem lastI_at {ls : List Int} (h : ls.length ≠ 0) : lastI ls = ls.getD (ls.length - 1) 0 := by rw [lastI, if_neg h]
def gLen (l : List Ru) : Int := if gOk l then lastI (gLn l) else 0
def gC (l : List Ru) : Int := if gOk l then 0 else 1
def gLs (l : List Ru) : List Int := if gOk l then gLn l else []
theorem g_bad {l : List Ru} (h : gOk l = false) : gLen l = 0 ∧ gC l = 1 ∧ gLs l = [] := by simp [gLen, gC, gLs, h]
theorem g_ok {l : List Ru} (h : gOk l = true) : gLen l = lastI (gLn l) ∧ gC l = 0 ∧ gLs l = gLn l := by simp [gLen, gC, gLs, h]
theorem i_last (v : Value) (ls : List Int) (base : Nat) (w : World) (hl : ls.length ≤ 1048576) (ho : w.ownsRow base 2 1 v ls.length (ls.map (Value.int .i64))) :
    Calls Try.prog 53 #[v] w fun e w' => e = .returned (.int .i64 (lastI ls)) ∧ Qt w w' := by
  obtain ⟨a, cap, rfl, hsome, -⟩ := owns_sl3 ho
  by_cases h0 : ls.length = 0
  · have HF := Lib.hid (lastI_nil h0)
    clear ho hsome
    have h0i : ((ls.length : Int) == 0) = true := by rw [h0]; rfl
    go_enter Try.func53, Try.ntmps53
    go_wp2
    go_ret
    exact ⟨ret_int HF.out.symm, Qt.refl _⟩
  · obtain ⟨g, rfl⟩ := hsome h0
    obtain ⟨n, hn⟩ : ∃ n, ls.length = n + 1 := ⟨ls.length - 1, by omega⟩
    have hc : w.cell? ⟨g, n, none⟩ = some (.int .i64 (lastI ls)) := by
      rw [ho.cellAt n (by omega), lastI_at h0, hn]
      simp [List.getD, show n < ls.length by omega]
    have h0i : ((ls.length : Int) == 0) = false := by rw [beq_eq_false_iff_ne]; omega
    have hni : (ls.length : Int) - 1 = (n : Int) := by omega
    have hn2 : (n : Int) < ls.length := by omega
    clear ho hsome h0 hn
    generalize lastI ls = x at *
    generalize ls.length = m at *
    go_enter Try.func53, Try.ntmps53
    go_wp2
    go_ret
    exact ⟨rfl, by first | exact Qt.refl _ | exact ⟨_, rfl⟩⟩
theorem s_l02Length (bq oq cap : Nat) (a : Option Addr) (l : List Ru) (w : World) (hn : l.length ≤ 1048576) (hsz : ∀ r ∈ l, r.1.size ≤ 1048576) (hcell : w.cell? ⟨bq, oq, none⟩ = some (.slice a l.length cap)) (hin : InRu w (.slice a l.length cap) l) (hok : (lnT l l.length).isSome = true) :
    Calls Try.prog 52 #[.pointer (some ⟨bq, oq, none⟩)] w fun e w' => e = .returned (.int .i64 (lastI (gLn l))) ∧ Below w.heap.size w w' := by
  have HS := Lib.hid (s_l02Sizes bq oq cap a l w hn hsz hcell hin)
  rw [hok] at HS
  have hl : (gLn l).length ≤ 1048576 := by
    cases h : lnT l l.length with
    | none => rw [h] at hok; cases hok
    | some ls => have e : gLn l = ls := by simp [gLn, h]
                 rw [e, (lnT_bd h).1]; exact hn
  clear hsz hin
  generalize gLn l = ls at *
  go_enter Try.func52, Try.ntmps52
  go_wp2_with fail
  refine HS.out.mono ?_
  rintro e w2 ⟨v', rfl, hb2, ho2⟩
  have ho := by first | exact ho2 rfl | exact ho2 trivial
  obtain ⟨a', cap', rfl, hsome, -⟩ := owns_sl3 ho
  by_cases h0 : ls.length = 0
  · have HF := Lib.hid (lastI_nil h0)
    clear ho ho2 hsome
    have h0i : ((ls.length : Int) == 0) = true := by rw [h0]; rfl
    go_wp2
    go_ret
    exact ⟨ret_int HF.out.symm, hb2⟩
  · obtain ⟨g, rfl⟩ := hsome h0
    obtain ⟨n, hnn⟩ : ∃ n, ls.length = n + 1 := ⟨ls.length - 1, by omega⟩
    have hc : w2.cell? ⟨g, n, none⟩ = some (.int .i64 (lastI ls)) := by
      rw [ho.cellAt n (by omega), lastI_at h0, hnn]
      simp [List.getD, show n < ls.length by omega]
    have h0i : ((ls.length : Int) == 0) = false := by rw [beq_eq_false_iff_ne]; omega
    have hni : (ls.length : Int) - 1 = (n : Int) := by omega
    have hn2 : (n : Int) < ls.length := by omega
    obtain ⟨x, hx⟩ : ∃ x, lastI ls = x := ⟨_, rfl⟩
    rw [hx] at hc
    have HX := Lib.hid hx
    clear ho ho2 hsome h0 hnn HS hx
    go_wp2
    go_ret
    exact ⟨ret_int HX.out.symm, by first | exact hb2 | exact below_drewN hb2 _⟩
theorem s_LengthOf (v : Value) (l : List Ru) (w : World) (hn : l.length ≤ 1048576) (hsz : ∀ r ∈ l, r.1.size ≤ 1048576) (hin : InRu w v l) :
    Calls Try.prog 22 #[.agg #[v]] w fun e w' => e = .returned (.tuple #[.int .i64 (gLen l), .int .i64 (gC l)]) ∧ Below w.heap.size w w' := by
  obtain ⟨a, cap, rfl⟩ := inRu_sl hin
  have b0 := box_cell w (.slice a l.length cap) 29
  have i0 := inRu_box (o := .cells #[.slice a l.length cap] 29) hin
  have HS := Lib.hid (s_l02Ok w.heap.size 0 cap a l _ hn hsz b0 i0)
  cases hok : gOk l
  · have HF := Lib.hid (g_bad hok)
    rw [hok] at HS
    clear hsz hin b0 i0 hok
    go_enter Try.func22, Try.ntmps22
    go_wp2_with fail
    refine HS.out.mono ?_
    rintro e w2 ⟨rfl, hb2⟩
    have hb3 := below_box hb2
    clear hb2
    go_wp2
    go_ret2
    exact ⟨ret_ii HF.out.1.symm HF.out.2.1.symm, hb3⟩
  · have HF := Lib.hid (g_ok hok)
    have h2 := gOk_some hok
    have HL := Lib.hid (fun (wz : Nat × World) h i => s_l02Length wz.1 0 cap a l wz.2 hn hsz h i (by rw [h2.2.1]; rfl))
    rw [hok] at HS
    clear hsz hin hok h2
    go_enter Try.func22, Try.ntmps22
    go_wp2_with fail
    refine HS.out.mono ?_
    rintro e w2 ⟨rfl, hb2⟩
    have b2 := cell_later hb2 b0
    have i2 := inRu_below i0 hb2
    go_wp2_with fail
    refine (HL.out (w.heap.size, w2) b2 i2).mono ?_
    rintro e w3 ⟨rfl, hb3⟩
    have hb4 := below_box (hb2.trans (hb3.mono hb2.size))
    clear hb2 hb3 b0 i0 b2 i2
    go_wp2
    go_ret2
    exact ⟨ret_ii HF.out.1.symm HF.out.2.1.symm, hb4⟩
theorem i_LengthOf (v : Value) (l : List Ru) (w : World) (hn : l.length ≤ 1048576) (hsz : ∀ r ∈ l, r.1.size ≤ 1048576) (hin : InRu w v l) :
    Calls Try.prog 23 #[.agg #[v]] w fun e w' => e = .returned (.tuple #[.int .i64 (gLen l), .int .i64 (gC l)]) ∧ Below w.heap.size w w' := by
  have HS := Lib.hid (i_lengths v l _ hn hsz (inRu_box (o := .cells #[v] 29) hin))
  cases hok : gOk l
  · have HF := Lib.hid (g_bad hok)
    rw [hok] at HS
    clear hsz hin hok
    go_enter Try.func23, Try.ntmps23
    go_wp2_with fail
    refine HS.out.mono ?_
    rintro e w2 ⟨v2, rfl, ho, hb2⟩
    have hb3 := below_box hb2
    clear hb2 ho
    go_wp2
    go_ret2
    exact ⟨ret_ii HF.out.1.symm HF.out.2.1.symm, hb3⟩
  · have HF := Lib.hid (g_ok hok)
    have h2 := gOk_some hok
    have hl : (gLn l).length ≤ 1048576 := by omega
    rw [hok] at HS
    clear hsz hin hok h2
    go_enter Try.func23, Try.ntmps23
    go_wp2_with fail
    refine HS.out.mono ?_
    rintro e w2 ⟨v2, rfl, ho, hb2⟩
    have hb3 := below_box hb2
    clear hb2
    go_wp2_with fail
    refine (i_last v2 _ _ w2 hl ho).mono ?_
    rintro e w3 ⟨rfl, q, rfl⟩
    clear ho
    go_wp2
    go_ret2
    exact ⟨ret_ii HF.out.1.symm HF.out.2.1.symm, below_drewN hb3 q⟩
theorem walk_FnExactLengthOf (v : Value) (l : List Ru)  (w : World) (h0 : GrIn w v l) (h0b : l.length ≤ 9223372036854775807) (h0c : ∀ r ∈ l, r.1.size ≤ 9223372036854775807)  :
    Calls Try.prog 5 #[v] w fun e w' => e = .returned (.bool true) ∧ Below w.heap.size w w' := by
  obtain ⟨u, rfl, hin⟩ := h0
  have HS := Lib.hid (fun (u : Value) w =>  s_LengthOf u l w)
  have HI := Lib.hid (fun (u : Value) w =>  i_LengthOf u l w)
  have b0 := box_cell w u 24
  have i0 := inRu_box (o := .cells #[u] 24) hin
  clear hin
  go_enter Try.func5, Try.ntmps5
  go_wp2_with fail
  refine (l_szGrammar u l 1048576 _ (by omega) i0 h0b h0c).mono ?_
  rintro e w1 ⟨hb1, rfl | ⟨n0, rfl, hn0, hln, hsz⟩⟩
  · clear h0b h0c HS HI
    have hbb := below_box hb1
    clear hb1 b0 i0
    go_wp2
    go_ret
    exact ⟨rfl, hbb⟩
  · have HSZ := Lib.hid hsz
    have i1 := inRu_below i0 hb1
    have b1 := cell_later hb1 b0
    clear h0b h0c hsz b0 i0
    go_wp2_with fail
    refine (l_toGrammar u l w1 hln i1).mono ?_
    rintro e w2 ⟨g2, c2, rfl, ho2, hb2⟩
    have i2 := inRu_below i1 hb2
    have b2 := cell_later hb2 b1
    clear b1 i1
    go_wp2_with fail
    refine (HS.out _ w2 hln HSZ.out (inRu_own rfl ho2)).mono ?_
    rintro e w3 ⟨rfl, hb3⟩
    have i3 := inRu_below i2 hb3
    have b3 := cell_later hb3 b2
    clear b2 i2 ho2
    go_wp2_with fail
    refine (l_toGrammar u l w3 hln i3).mono ?_
    rintro e w4 ⟨g4, c4, rfl, ho4, hb4⟩
    have i4 := inRu_box (o := .cells #[.slice (some ⟨g4, 0, none⟩) l.length c4] 29) (inRu_below i3 hb4)
    have b4 := cell_later ((Below.refl _ _).alloc (Nat.le_refl _) (.cells #[.slice (some ⟨g4, 0, none⟩) l.length c4] 29)) (cell_later hb4 b3)
    have x4 := box_cell w4 (.slice (some ⟨g4, 0, none⟩) l.length c4) 29
    have ix4 := inRu_box (o := .cells #[.slice (some ⟨g4, 0, none⟩) l.length c4] 29) (inRu_own rfl ho4)
    clear b3 i3 ho4
    go_wp2_with fail
    refine (HI.out _ _ hln HSZ.out ix4).mono ?_
    rintro e w5 ⟨rfl, hb5⟩
    have i5 := inRu_below i4 hb5
    have b5 := cell_later hb5 b4
    have x5 := cell_later hb5 x4
    have ix5 := inRu_below ix4 hb5
    have HB5 : Hid (Below w.heap.size w w5) := by
      have s1 := hb1.size
      have s2 := hb2.size
      have s3 := hb3.size
      have s4 := hb4.size
      have s5 := hb5.size
      have hb45 := below_box hb5
      simp only [World.size_alloc] at s5
      exact below_box (((((hb1.trans (hb2.mono (by omega))).trans (hb3.mono (by omega))).trans (hb4.mono (by omega))).trans (hb45.mono (by omega))))
    clear b4 i4 x4 ix4 hb1 hb2 hb3 hb4 hb5
    go_wp2
    go_region_held3 (fun w' => Below w5.heap.size w5 w' ∧ w'.cell? ⟨w.heap.size, 0, none⟩ = some u ∧ w'.cell? ⟨w4.heap.size, 0, none⟩ = some (.slice (some ⟨g4, 0, none⟩) l.length c4) ∧ InRu w' u l ∧ InRu w' (.slice (some ⟨g4, 0, none⟩) l.length c4) l) (first | (go_split_ands; refine ⟨?_, ?_, ?_, ?_, ?_⟩ <;> first | assumption | exact Below.drew (Below.refl _ _) | exact Below.drew (by assumption) | exact inRu_below (by assumption) (Below.drew (Below.refl _ _)) | exact cell_later hbA (by assumption) | exact inRu_below (by assumption) hbA | exact Below.trans ‹Below w5.heap.size w5 _› (hbA.mono (Below.size ‹Below w5.heap.size w5 _›)) | simp [*])) (first | (go_at_call 17; refine (l_toGrammar u l _ hln (by assumption)).mono ?_; rintro e wA ⟨g6, c6, rfl, ho6, hbA⟩) | (go_at_call 19; refine (l_eqGrammar _ _ l _ (by first | assumption | exact inRu_below (inRu_below ix5 (Below.drew (Below.refl _ _))) hbA) (by first | exact inRu_own rfl ho6 | exact inRu_below (inRu_own rfl ho6) (Below.drew (Below.refl _ _))) hln).mono ?_; rintro e wA ⟨rfl, hbA⟩))
    rename_i hS
    have HBB : Hid (Below w.heap.size w wA) := HB5.out.trans (hS.1.mono HB5.out.size)
    clear hS hbA b5 x5 i5 ix5
    go_wp2
    go_ret
    exact ⟨rfl, HBB.out⟩
theorem s_LengthsOf (v : Value) (l : List Ru) (w : World) (hn : l.length ≤ 1048576) (hsz : ∀ r ∈ l, r.1.size ≤ 1048576) (hin : InRu w v l) :
    Calls Try.prog 26 #[.agg #[v]] w fun e w' => ∃ v', e = .returned (.tuple #[v', .int .i64 (gC l)]) ∧ Own64 w w' v' (gLs l) := by
  obtain ⟨a, cap, rfl⟩ := inRu_sl hin
  have b0 := box_cell w (.slice a l.length cap) 29
  have i0 := inRu_box (o := .cells #[.slice a l.length cap] 29) hin
  have HS := Lib.hid (s_l02Lengths w.heap.size 0 cap a l _ hn hsz b0 i0)
  cases hok : gOk l
  · have HF := Lib.hid (g_bad hok)
    rw [hok] at HS
    clear hsz hin b0 i0 hok
    go_enter Try.func26, Try.ntmps26
    go_wp2_with fail
    refine HS.out.mono ?_
    rintro e w2 ⟨v', rfl, hb2, -⟩
    have hb3 := below_box hb2
    have s3 := hb3.size
    clear hb2
    go_wp2
    go_ret2
    refine ⟨_, by rw [HF.out.2.1]; rfl, ?_, hb3.alloc s3 _⟩
    rw [HF.out.2.2]
    exact World.ownsRow_made w2 #[] 0 s3 (by decide) (by simp)
  · have HF := Lib.hid (g_ok hok)
    rw [hok] at HS
    clear hsz hin b0 i0 hok
    go_enter Try.func26, Try.ntmps26
    go_wp2_with fail
    refine HS.out.mono ?_
    rintro e w2 ⟨v', rfl, hb2, ho⟩
    have ho' := by first | exact ho rfl | exact ho trivial
    have hb3 := below_box hb2
    clear hb2 ho
    go_wp2
    go_ret2
    refine ⟨_, by rw [HF.out.2.1]; rfl, ?_, hb3⟩
    rw [HF.out.2.2]
    exact owns_weak ho' (by simp)
theorem i_LengthsOf (v : Value) (l : List Ru) (w : World) (hn : l.length ≤ 1048576) (hsz : ∀ r ∈ l, r.1.size ≤ 1048576) (hin : InRu w v l) :
    Calls Try.prog 27 #[.agg #[v]] w fun e w' => ∃ v', e = .returned (.tuple #[v', .int .i64 (gC l)]) ∧ Own64 w w' v' (gLs l) := by
  have HS := Lib.hid (i_lengths v l _ hn hsz (inRu_box (o := .cells #[v] 29) hin))
  cases hok : gOk l
  · have HF := Lib.hid (g_bad hok)
    rw [hok] at HS
    clear hsz hin hok
    go_enter Try.func27, Try.ntmps27
    go_wp2_with fail
    refine HS.out.mono ?_
    rintro e w2 ⟨v2, rfl, ho, hb2⟩
    have hb3 := below_box hb2
    clear hb2 ho
    go_wp2
    go_ret2
    exact ⟨_, by rw [HF.out.2.1]; rfl, by rw [HF.out.2.2]; exact own64_nil hb3⟩
  · have HF := Lib.hid (g_ok hok)
    rw [hok] at HS
    clear hsz hin hok
    go_enter Try.func27, Try.ntmps27
    go_wp2_with fail
    refine HS.out.mono ?_
    rintro e w2 ⟨v2, rfl, ho, hb2⟩
    have hb3 := below_box hb2
    clear hb2
    go_wp2
    go_ret2
    refine ⟨_, by rw [HF.out.2.1]; rfl, ?_, hb3⟩
    rw [HF.out.2.2]
    exact owns_weak ho (by simp)
end Go.Proofs.Ytmcfjjhflnhehaa

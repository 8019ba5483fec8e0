/- LetterAt, UnpackPart, UnpackWord, of the program and of the reference, and their laws. -/
import Derived.Test.YtmcfjjhflnhehaaGI
namespace Go.Proofs.Ytmcfjjhflnhehaa
open Go.ChangeShapes Go.WideShapes Go.RowKit
set_option linter.unusedVariables false
set_option linter.unusedSimpArgs false
set_option maxHeartbeats 2000000
set_option maxRecDepth 100000
theorem last_bd {l : List Ru} (hok : gOk l = true) : 0 ≤ lastI (gLn l) ∧ lastI (gLn l) ≤ 1000000000000000 := by
  by_cases hl : 0 < l.length
  · have := (gOk_some hok).2.2.2 _ (getD_mem (show l.length - 1 < (gLn l).length by rw [(gOk_some hok).2.2.1]; omega))
    rw [lastI_at (by rw [(gOk_some hok).2.2.1]; omega), (gOk_some hok).2.2.1]
    omega
  · have : l = [] := List.eq_nil_of_length_eq_zero (by omega)
    subst this
    have : lastI (gLn ([] : List Ru)) = 0 := rfl
    omega
theorem s_l02LengthX (bq oq cap : Nat) (a : Option Addr) (l : List Ru) (w : World) (hn : l.length ≤ 1048576) (hsz : ∀ r ∈ l, r.1.size ≤ 1048576) (hcell : w.cell? ⟨bq, oq, none⟩ = some (.slice a l.length cap)) (hin : InRu w (.slice a l.length cap) l) :
    Calls Try.prog 52 #[.pointer (some ⟨bq, oq, none⟩)] w fun e w' => ∃ x, e = .returned (.int .i64 x) ∧ Below w.heap.size w w' ∧ (gOk l = true → x = lastI (gLn l)) := by
  have HS := Lib.hid (s_l02SizesX bq oq cap a l w hn hsz hcell hin)
  have HG : Hid (gOk l = true → (lnT l l.length).isSome = true) := fun h => by rw [(gOk_some h).2.1]; rfl
  generalize (lnT l l.length).isSome = sm at *
  clear hsz hin
  go_enter Try.func52, Try.ntmps52
  go_wp2_with fail
  refine HS.out.mono ?_
  rintro e w2 ⟨v', ls, rfl, hb2, hle, ho, hls⟩
  have HLS := Lib.hid hls
  obtain ⟨a', cap', rfl, hsome, -⟩ := owns_sl3 ho
  by_cases h0 : ls.length = 0
  · have HF := Lib.hid (lastI_nil h0)
    clear ho hsome hls
    have h0i : ((ls.length : Int) == 0) = true := by rw [h0]; rfl
    go_wp2
    go_ret
    exact ⟨_, rfl, hb2, fun h => by rw [← HLS.out (HG.out h)]; exact HF.out.symm⟩
  · obtain ⟨g, rfl⟩ := hsome h0
    obtain ⟨n, hnn⟩ : ∃ n, ls.length = n + 1 := ⟨ls.length - 1, by omega⟩
    have hc : w2.cell? ⟨g, n, none⟩ = some (.int .i64 (lastI ls)) := by
      rw [ho.cellAt n (by omega), lastI_at h0, hnn]
      simp [List.getD, show n < ls.length by omega]
    have h0i : ((ls.length : Int) == 0) = false := by rw [beq_eq_false_iff_ne]; omega
    have hni : (ls.length : Int) - 1 = (n : Int) := by omega
    have hn2 : (n : Int) < ls.length := by omega
    obtain ⟨x, hx⟩ : ∃ x, lastI ls = x := ⟨_, rfl⟩
    rw [hx] at hc
    have HX := Lib.hid hx
    clear ho hsome h0 hnn HS hx hls
    go_wp2
    go_ret
    exact ⟨_, rfl, by first | exact hb2 | exact below_drewN hb2 _, fun h => by rw [← HLS.out (HG.out h)]; exact HX.out.symm⟩
/-- the code of a part -/
def pkC (l : List Ru) (i j : Int) : Int := if gOk l = false then 1 else if i < 0 ∨ i > j ∨ j > lastI (gLn l) then 2 else 0
theorem pkC_bad {l : List Ru} {i j : Int} (h : gOk l = false) : pkC l i j = 1 := by rw [pkC, if_pos h]
theorem pkC_out {l : List Ru} {i j : Int} (h : gOk l = true) (h2 : i < 0 ∨ i > j ∨ j > lastI (gLn l)) : pkC l i j = 2 := by rw [pkC, if_neg (by simp [h]), if_pos h2]
theorem pkC_ok {l : List Ru} {i j : Int} (h : gOk l = true) (h2 : ¬ (i < 0 ∨ i > j ∨ j > lastI (gLn l))) : pkC l i j = 0 := by rw [pkC, if_neg (by simp [h]), if_neg h2]
theorem s_l02Part (bq oq cap : Nat) (a : Option Addr) (l : List Ru) (i j : Int) (w : World) (hn : l.length ≤ 1048576) (hsz : ∀ r ∈ l, r.1.size ≤ 1048576) (hcell : w.cell? ⟨bq, oq, none⟩ = some (.slice a l.length cap)) (hin : InRu w (.slice a l.length cap) l) :
    Calls Try.prog 64 #[.pointer (some ⟨bq, oq, none⟩), .int .i64 i, .int .i64 j] w fun e w' => e = .returned (.int .i64 (pkC l i j)) ∧ Below w.heap.size w w' := by
  have HS := Lib.hid (s_l02Ok bq oq cap a l w hn hsz hcell hin)
  have HL := Lib.hid (fun w hc hi => s_l02LengthX bq oq cap a l w hn hsz hc hi)
  have HIN := Lib.hid hin
  clear hsz hin
  cases hok : gOk l
  · have HF := Lib.hid (pkC_bad (i := i) (j := j) hok)
    rw [hok] at HS
    clear hok
    go_enter Try.func64, Try.ntmps64
    go_wp2_with fail
    refine HS.out.mono ?_
    rintro e w2 ⟨rfl, hb2⟩
    go_wp2
    go_ret
    exact ⟨ret_int HF.out.symm, hb2⟩
  · rw [hok] at HS
    by_cases h1 : i < 0
    · have HF := Lib.hid (pkC_out (j := j) hok (.inl h1))
      go_enter Try.func64, Try.ntmps64
      go_wp2_with fail
      refine HS.out.mono ?_
      rintro e w2 ⟨rfl, hb2⟩
      go_wp2
      go_ret
      exact ⟨ret_int HF.out.symm, hb2⟩
    · by_cases h2 : i > j
      · have HF := Lib.hid (pkC_out (i := i) hok (.inr (.inl h2)))
        have h2' : j < i := h2
        go_enter Try.func64, Try.ntmps64
        go_wp2_with fail
        refine HS.out.mono ?_
        rintro e w2 ⟨rfl, hb2⟩
        go_wp2
        go_ret
        exact ⟨ret_int HF.out.symm, hb2⟩
      · have h2' : ¬ j < i := h2
        have HX : Hid (∀ x, x = lastI (gLn l) → pkC l i j = if x < j then 2 else 0) := fun x hx => by
          subst hx
          by_cases h3 : lastI (gLn l) < j
          · rw [if_pos h3, pkC_out hok (.inr (.inr h3))]
          · rw [if_neg h3, pkC_ok hok (by omega)]
        have HOK := Lib.hid hok
        clear hok
        go_enter Try.func64, Try.ntmps64
        go_wp2_with fail
        refine HS.out.mono ?_
        rintro e w2 ⟨rfl, hb2⟩
        have c2 := cell_later hb2 hcell
        have i2 := inRu_below HIN.out hb2
        go_wp2_with fail
        refine (HL.out w2 c2 i2).mono ?_
        rintro e w3 ⟨x, rfl, hb3, hx⟩
        have HF := Lib.hid (HX.out x (hx HOK.out))
        have hB := hb2.trans (hb3.mono hb2.size)
        clear hx hb2 hb3 c2 i2 hcell
        by_cases h3 : x < j
        · rw [if_pos h3] at HF
          go_wp2
          go_ret
          exact ⟨ret_int HF.out.symm, hB⟩
        · rw [if_neg h3] at HF
          go_wp2
          go_ret
          exact ⟨ret_int HF.out.symm, hB⟩
/-- the code of an unpacked part -/
def upC (l : List Ru) (i j : Int) : Int := if pkC l i j = 0 then (if j - i > 2000 then 3 else 0) else pkC l i j
def upW (l : List Ru) (i j : Int) : ByteArray := if upC l i j = 0 then ⟨(ptX l i j).toArray⟩ else ⟨#[]⟩
theorem up_bad {l : List Ru} {i j x : Int} (h : pkC l i j = x) (hx : x ≠ 0) : upC l i j = x ∧ upW l i j = ⟨#[]⟩ := by
  have : upC l i j = x := by rw [upC, h, if_neg hx]
  exact ⟨this, by rw [upW, this, if_neg hx]⟩
theorem up_long {l : List Ru} {i j : Int} (h : pkC l i j = 0) (hx : j - i > 2000) : upC l i j = 3 ∧ upW l i j = ⟨#[]⟩ := by
  have : upC l i j = 3 := by rw [upC, if_pos h, if_pos hx]
  exact ⟨this, by rw [upW, this, if_neg (by decide)]⟩
theorem up_ok {l : List Ru} {i j : Int} (h : pkC l i j = 0) (hx : ¬ j - i > 2000) : upC l i j = 0 ∧ upW l i j = ⟨(ptX l i j).toArray⟩ := by
  have : upC l i j = 0 := by rw [upC, if_pos h, if_neg hx]
  exact ⟨this, by rw [upW, if_pos this]⟩
theorem pkC_0 {l : List Ru} {i j : Int} (h : pkC l i j = 0) : gOk l = true ∧ 0 ≤ i ∧ i ≤ j ∧ j ≤ lastI (gLn l) := by
  cases hok : gOk l
  · rw [pkC_bad hok] at h; cases h
  · by_cases h2 : i < 0 ∨ i > j ∨ j > lastI (gLn l)
    · rw [pkC_out hok h2] at h; cases h
    · exact ⟨rfl, by omega, by omega, by omega⟩
theorem s_UnpackPart (v : Value) (l : List Ru) (i j : Int) (w : World) (hn : l.length ≤ 1048576) (hsz : ∀ r ∈ l, r.1.size ≤ 1048576) (hin : InRu w v l) :
    Calls Try.prog 38 #[.agg #[v], .int .i64 i, .int .i64 j] w fun e w' => e = .returned (.tuple #[.string (upW l i j), .int .i64 (upC l i j)]) ∧ Below w.heap.size w w' := by
  obtain ⟨a, cap, rfl⟩ := inRu_sl hin
  have b0 := box_cell w (.slice a l.length cap) 29
  have i0 := inRu_box (o := .cells #[.slice a l.length cap] 29) hin
  have HS := Lib.hid (s_l02Part w.heap.size 0 cap a l i j _ hn hsz b0 i0)
  by_cases hp : pkC l i j = 0
  · obtain ⟨hok, h1, h2, h3⟩ := pkC_0 hp
    have hbd := last_bd hok
    have HL := Lib.hid (fun (n : Nat) w hc hi hb => s_l02Unpack n 0 cap a l i j w hn hsz hok hc hi h1 h2 h3 hb)
    rw [hp] at HS
    have hj15 : j ≤ 1000000000000000 := by omega
    by_cases hlong : j - i > 2000
    · have HF := Lib.hid (up_long hp hlong)
      have hlong' : 2000 < j - i := hlong
      clear hsz hin hok b0 i0 HL hp hlong h3
      go_enter Try.func38, Try.ntmps38
      go_wp2_with fail
      refine HS.out.mono ?_
      rintro e w2 ⟨rfl, hb2⟩
      have hb3 := below_box hb2
      clear hb2
      go_wp2
      go_ret2
      exact ⟨ret_si HF.out.2.symm HF.out.1.symm, hb3⟩
    · have HF := Lib.hid (up_ok hp hlong)
      have hlong' : ¬ 2000 < j - i := hlong
      clear hsz hin hok hp
      go_enter Try.func38, Try.ntmps38
      go_wp2_with fail
      refine HS.out.mono ?_
      rintro e w2 ⟨rfl, hb2⟩
      have b2 := cell_later hb2 b0
      have i2 := inRu_below i0 hb2
      clear h3
      go_wp2_with fail
      refine (HL.out w.heap.size w2 b2 i2 (by omega)).mono ?_
      rintro e w3 ⟨rfl, hb3⟩
      have hb4 := below_box (hb2.trans (hb3.mono hb2.size))
      clear hb2 hb3 b2 i2 b0 i0
      go_wp2
      go_ret2
      exact ⟨ret_si HF.out.2.symm HF.out.1.symm, hb4⟩
  · obtain ⟨x, hx⟩ : ∃ x, pkC l i j = x := ⟨_, rfl⟩
    have HF := Lib.hid (up_bad hx (by rw [← hx]; exact hp))
    rw [hx] at HS hp
    clear hsz hin b0 i0 hx
    have hxb : (x != 0) = true := by simpa using hp
    go_enter Try.func38, Try.ntmps38
    go_wp2_with fail
    refine HS.out.mono ?_
    rintro e w2 ⟨rfl, hb2⟩
    have hb3 := below_box hb2
    clear hb2
    go_wp2
    go_ret2
    exact ⟨ret_si HF.out.2.symm HF.out.1.symm, hb3⟩
theorem i_UnpackPart (v : Value) (l : List Ru) (i j : Int) (w : World) (hn : l.length ≤ 1048576) (hsz : ∀ r ∈ l, r.1.size ≤ 1048576) (hin : InRu w v l) :
    Calls Try.prog 39 #[.agg #[v], .int .i64 i, .int .i64 j] w fun e w' => e = .returned (.tuple #[.string (upW l i j), .int .i64 (upC l i j)]) ∧ Below w.heap.size w w' := by
  obtain ⟨a, cap, rfl⟩ := inRu_sl hin
  have b0 := box_cell w (.slice a l.length cap) 29
  have i0 := inRu_box (o := .cells #[.slice a l.length cap] 29) hin
  have HS := Lib.hid (i_lengths _ l _ hn hsz i0)
  cases hok : gOk l
  · have HF := Lib.hid (up_bad (i := i) (j := j) (pkC_bad hok) (by decide))
    rw [hok] at HS
    clear hsz hin hok b0 i0
    go_enter Try.func39, Try.ntmps39
    go_wp2_with fail
    refine HS.out.mono ?_
    rintro e w2 ⟨v2, rfl, ho, hb2⟩
    have hb3 := below_box hb2
    clear hb2 ho
    go_wp2
    go_ret2
    exact ⟨ret_si HF.out.2.symm HF.out.1.symm, hb3⟩
  · rw [hok] at HS
    have hgl := (gOk_some hok).2.2.1
    have hl400 := (gOk_some hok).1
    have HBD := Lib.hid (last_bd hok)
    by_cases h1 : 0 ≤ i ∧ i ≤ j
    · have HW := Lib.hid (fun w => i_within_r i 0 j true (by simp; omega) w)
      have HX1 : Hid (lastI (gLn l) < j → upC l i j = 2 ∧ upW l i j = ⟨#[]⟩) := fun h => up_bad (pkC_out hok (.inr (.inr h))) (by decide)
      have HX2 : Hid (¬ lastI (gLn l) < j → j - i > 2000 → upC l i j = 3 ∧ upW l i j = ⟨#[]⟩) := fun h h2 => up_long (pkC_ok hok (by omega)) h2
      have HX3 : Hid (¬ lastI (gLn l) < j → ¬ j - i > 2000 → upC l i j = 0 ∧ upW l i j = ⟨(ptW l i j).toArray⟩) := fun h h2 => by rw [ptW_law hok h1.1]; exact up_ok (pkC_ok hok (by omega)) h2
      have HL : Hid (∀ (lv : Option Addr) (gl cl base : Nat) (w : World), InRu w (.slice a l.length cap) l → (l.length ≠ 0 → lv = some ⟨gl, 0, none⟩) → w.ownsRow base 2 1 (.slice lv l.length cl) l.length ((gLn l).map (Value.int .i64)) → j - i ≤ 2000 → j ≤ lastI (gLn l) → Calls Try.prog 63 #[.agg #[.slice a l.length cap], .slice lv l.length cl, .int .i64 i, .int .i64 j] w fun e w' => e = .returned (.string ⟨(ptW l i j).toArray⟩) ∧ Below w.heap.size w w') :=
        fun lv gl cl base w h1' h2' h3' h4' h5' => i_unpack a lv cap gl cl base l i j w hok h1' h2' h3' (by rw [ptW_law hok h1.1, List.length_drop, List.length_take]; omega)
      have HIL := Lib.hid (fun v base w ho => i_last v (gLn l) base w (by omega) ho)
      obtain ⟨h1a, h1b⟩ := h1
      generalize lastI (gLn l) = la at *
      obtain ⟨hla0, hla1⟩ := HBD.out
      clear hsz hin hok
      go_enter Try.func39, Try.ntmps39
      go_wp2_with fail
      refine HS.out.mono ?_
      rintro e w2 ⟨v2, rfl, ho, hb2⟩
      have b2 := cell_later hb2 b0
      have i2 := inRu_below i0 hb2
      go_wp2_with fail
      refine (HW.out _).mono ?_
      rintro e w3 ⟨rfl, rfl⟩
      go_wp2_with fail
      refine (HIL.out v2 _ _ ho).mono ?_
      rintro e w3 ⟨rfl, q, rfl⟩
      have hb3 := below_drewN (below_box hb2) q
      have b3 : (w2.drewN q).cell? ⟨w.heap.size, 0, none⟩ = some (.slice a l.length cap) := by simpa using b2
      have i3 := inRu_drewN i2 q
      have ho3 := ownsRow_drewN ho q
      clear hb2 b2 i2 ho b0 i0
      by_cases h2 : la < j
      · have HF := Lib.hid (HX1.out h2)
        go_wp2
        go_ret2
        exact ⟨ret_si HF.out.2.symm HF.out.1.symm, hb3⟩
      · by_cases h3 : j - i > 2000
        · have HF := Lib.hid (HX2.out (by omega) (by omega))
          have h3' : 2000 < j - i := h3
          clear h3
          go_wp2
          go_ret2
          exact ⟨ret_si HF.out.2.symm HF.out.1.symm, hb3⟩
        · have HF := Lib.hid (HX3.out (by omega) (by omega))
          have h3' : ¬ 2000 < j - i := h3
          clear h3
          rw [hgl] at ho3
          obtain ⟨lv, cl, rfl, hsome, -⟩ := owns_sl3 ho3
          obtain ⟨gl, hlv⟩ : ∃ gl, l.length ≠ 0 → lv = some ⟨gl, 0, none⟩ := by
            by_cases h : l.length = 0
            · exact ⟨0, fun h' => absurd h h'⟩
            · obtain ⟨gl, e⟩ := hsome h; exact ⟨gl, fun _ => e⟩
          have HU := Lib.hid (HL.out lv gl cl _ _ i3 hlv ho3 (by omega) (by omega))
          clear hsome hlv ho3 i3
          go_wp2_with fail
          refine HU.out.mono ?_
          rintro e w4 ⟨rfl, hb4⟩
          have hb5 := hb3.trans (hb4.mono hb3.size)
          clear hb3 hb4
          go_wp2
          go_ret2
          exact ⟨ret_si HF.out.2.symm HF.out.1.symm, hb5⟩
    · have HW := Lib.hid (fun w => i_within_r i 0 j false (by simp; omega) w)
      have HF := Lib.hid (up_bad (pkC_out (i := i) (j := j) hok (by omega)) (by decide))
      clear hsz hin hok h1 b0 i0
      go_enter Try.func39, Try.ntmps39
      go_wp2_with fail
      refine HS.out.mono ?_
      rintro e w2 ⟨v2, rfl, ho, hb2⟩
      go_wp2_with fail
      refine (HW.out _).mono ?_
      rintro e w3 ⟨rfl, rfl⟩
      have hb3 := below_box hb2
      clear hb2 ho
      go_wp2
      go_ret2
      exact ⟨ret_si HF.out.2.symm HF.out.1.symm, hb3⟩
theorem walk_FnExactUnpackPart (v : Value) (l : List Ru) (i : Int) (j : Int) (w : World) (h0 : GrIn w v l) (h0b : l.length ≤ 9223372036854775807) (h0c : ∀ r ∈ l, r.1.size ≤ 9223372036854775807) (h1 : (Lit.int .i64 i).wf = true) (h2 : (Lit.int .i64 j).wf = true) :
    Calls Try.prog 11 #[v, .int .i64 i, .int .i64 j] w fun e w' => e = .returned (.bool true) ∧ Below w.heap.size w w' := by
  obtain ⟨u, rfl, hin⟩ := h0
  have HS := Lib.hid (fun (u : Value) w =>  s_UnpackPart u l i j w)
  have HI := Lib.hid (fun (u : Value) w =>  i_UnpackPart u l i j w)
  have b0 := box_cell w u 24
  have i0 := inRu_box (o := .cells #[u] 24) hin
  clear hin
  go_enter Try.func11, Try.ntmps11
  go_wp2_with fail
  refine (l_szGrammar u l 1048576 _ (by omega) i0 h0b h0c).mono ?_
  rintro e w1 ⟨hb1, rfl | ⟨n0, rfl, hn0, hln, hsz⟩⟩
  · clear h0b h0c HS HI
    have hbb := below_box hb1
    clear hb1 b0 i0
    go_wp2
    go_ret
    exact ⟨rfl, hbb⟩
  · have HSZ := Lib.hid hsz
    have i1 := inRu_below i0 hb1
    have b1 := cell_later hb1 b0
    clear h0b h0c hsz b0 i0
    go_wp2_with fail
    refine (l_toGrammar u l w1 hln i1).mono ?_
    rintro e w2 ⟨g2, c2, rfl, ho2, hb2⟩
    have i2 := inRu_below i1 hb2
    have b2 := cell_later hb2 b1
    clear b1 i1
    go_wp2_with fail
    refine (HS.out _ w2 hln HSZ.out (inRu_own rfl ho2)).mono ?_
    rintro e w3 ⟨rfl, hb3⟩
    have i3 := inRu_below i2 hb3
    have b3 := cell_later hb3 b2
    clear b2 i2 ho2
    go_wp2_with fail
    refine (l_toGrammar u l w3 hln i3).mono ?_
    rintro e w4 ⟨g4, c4, rfl, ho4, hb4⟩
    have i4 := inRu_box (o := .cells #[.slice (some ⟨g4, 0, none⟩) l.length c4] 29) (inRu_below i3 hb4)
    have b4 := cell_later ((Below.refl _ _).alloc (Nat.le_refl _) (.cells #[.slice (some ⟨g4, 0, none⟩) l.length c4] 29)) (cell_later hb4 b3)
    have x4 := box_cell w4 (.slice (some ⟨g4, 0, none⟩) l.length c4) 29
    have ix4 := inRu_box (o := .cells #[.slice (some ⟨g4, 0, none⟩) l.length c4] 29) (inRu_own rfl ho4)
    clear b3 i3 ho4
    go_wp2_with fail
    refine (HI.out _ _ hln HSZ.out ix4).mono ?_
    rintro e w5 ⟨rfl, hb5⟩
    have i5 := inRu_below i4 hb5
    have b5 := cell_later hb5 b4
    have x5 := cell_later hb5 x4
    have ix5 := inRu_below ix4 hb5
    have HB5 : Hid (Below w.heap.size w w5) := by
      have s1 := hb1.size
      have s2 := hb2.size
      have s3 := hb3.size
      have s4 := hb4.size
      have s5 := hb5.size
      have hb45 := below_box hb5
      simp only [World.size_alloc] at s5
      exact below_box (((((hb1.trans (hb2.mono (by omega))).trans (hb3.mono (by omega))).trans (hb4.mono (by omega))).trans (hb45.mono (by omega))))
    clear b4 i4 x4 ix4 hb1 hb2 hb3 hb4 hb5
    go_wp2
    go_region_held3 (fun w' => Below w5.heap.size w5 w' ∧ w'.cell? ⟨w.heap.size, 0, none⟩ = some u ∧ w'.cell? ⟨w4.heap.size, 0, none⟩ = some (.slice (some ⟨g4, 0, none⟩) l.length c4) ∧ InRu w' u l ∧ InRu w' (.slice (some ⟨g4, 0, none⟩) l.length c4) l) (first | (go_split_ands; refine ⟨?_, ?_, ?_, ?_, ?_⟩ <;> first | assumption | exact Below.drew (Below.refl _ _) | exact Below.drew (by assumption) | exact inRu_below (by assumption) (Below.drew (Below.refl _ _)) | exact cell_later hbA (by assumption) | exact inRu_below (by assumption) hbA | exact Below.trans ‹Below w5.heap.size w5 _› (hbA.mono (Below.size ‹Below w5.heap.size w5 _›)) | simp [*])) (first | (go_at_call 17; refine (l_toGrammar u l _ hln (by assumption)).mono ?_; rintro e wA ⟨g6, c6, rfl, ho6, hbA⟩) | (go_at_call 19; refine (l_eqGrammar _ _ l _ (by first | assumption | exact inRu_below (inRu_below ix5 (Below.drew (Below.refl _ _))) hbA) (by first | exact inRu_own rfl ho6 | exact inRu_below (inRu_own rfl ho6) (Below.drew (Below.refl _ _))) hln).mono ?_; rintro e wA ⟨rfl, hbA⟩))
    rename_i hS
    have HBB : Hid (Below w.heap.size w wA) := HB5.out.trans (hS.1.mono HB5.out.size)
    clear hS hbA b5 x5 i5 ix5
    go_wp2
    go_ret
    exact ⟨rfl, HBB.out⟩
end Go.Proofs.Ytmcfjjhflnhehaa

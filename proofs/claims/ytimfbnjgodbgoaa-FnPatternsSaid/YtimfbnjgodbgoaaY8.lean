/- What a rule spells; the walk of 'unpack'. -/
import Derived.Test.YtimfbnjgodbgoaaGF
import Derived.Test.YtimfbnjgodbgoaaB1
namespace Go.Proofs.Ytimfbnjgodbgoaa
open Go.ChangeShapes Go.WideShapes Go.RowKit
set_option linter.unusedVariables false
set_option linter.unusedSimpArgs false
set_option maxHeartbeats 2000000
set_option maxRecDepth 100000
end Go.Proofs.Ytimfbnjgodbgoaa

/- Letters of a word, parts of a word: the plain law; the reference's walk to a letter. -/
namespace Go.Proofs.Ytimfbnjgodbgoaa
open Go.ChangeShapes Go.WideShapes Go.RowKit
set_option linter.unusedVariables false
set_option linter.unusedSimpArgs false
set_option maxHeartbeats 2000000
set_option maxRecDepth 100000
theorem s_l02Letter (bq oq cap gl cl base : Nat) (a : Option Addr) (l : List Ru) (i : Int) (w : World) (hok : gOk l = true) (hcell : w.cell? ⟨bq, oq, none⟩ = some (.slice a l.length cap)) (hin : InRu w (.slice a l.length cap) l)
    (hown : w.ownsRow base 2 1 (.slice (some ⟨gl, 0, none⟩) l.length cl) l.length ((gLn l).map (Value.int .i64))) (hi : 0 ≤ i) (hil : i < lastI (gLn l)) :
    Calls Try.prog 59 #[.pointer (some ⟨bq, oq, none⟩), .slice (some ⟨gl, 0, none⟩) l.length cl, .int .i64 i] w fun e w' => e = .returned (.int .u8 ((wd l).getD i.toNat 0).toNat) ∧ w = w' := by
  have hl400 := (gOk_some hok).1
  have hn : 0 < l.length := by
    have := wd_len hok
    rcases Nat.eq_zero_or_pos l.length with h | h
    · have : l = [] := List.eq_nil_of_length_eq_zero h
      subst this
      have : lastI (gLn ([] : List Ru)) = 0 := rfl
      omega
    · exact h
  obtain ⟨m, hm⟩ : ∃ m, l.length = m + 1 := ⟨l.length - 1, by omega⟩
  have hmi : (l.length : Int) - 1 = (m : Int) := by omega
  have hml : m < l.length := by omega
  have hlast : lastI (gLn l) = (gLn l).getD m 0 := by rw [lastI_at (by rw [(gOk_some hok).2.2.1]; omega), (gOk_some hok).2.2.1, hm]; rfl
  have HW : Hid ((exF l l.length m)[i.toNat]? = (wd l)[i.toNat]?) := by show _ = _; rw [wd, hm]; rfl
  rw [hlast] at hil
  have HM := Lib.hid hm
  have HIN := Lib.hid hin
  have HOWN := Lib.hid hown
  have HWL := Lib.hid (wd_len hok)
  clear hm hlast hin hown
  go_enter Try.func59, Try.ntmps59
  go_wp2
  go_loop [2, 7, 8] (fun ix at_ _ => ∃ (f k : Nat) (ii : Int), k < f ∧ k < l.length ∧ ix = .int .i64 ii ∧ at_ = .int .i64 k ∧ 0 ≤ ii ∧ ii < (gLn l).getD k 0 ∧ (exF l f k)[ii.toNat]? = (wd l)[i.toNat]?) (fun _ at_ _ => (intOf at_).toNat)
  case atStart => exact ⟨l.length, m, i, hml, hml, rfl, by go_num, hi, hil, HW.out⟩
  case round =>
    obtain ⟨f, k, ii, hkf, hkl, rfl, rfl, hi1, hi2, hrel2⟩ := hrel
    obtain ⟨f, rfl⟩ : ∃ f', f = f' + 1 := ⟨f - 1, by omega⟩
    obtain ⟨b, off, rfl, hbl, hc0, hc1, hc2⟩ := inRu_at HIN.out hkl
    have hin : ((k : Nat) : Int) < l.length := by omega
    have HREL := Lib.hid hrel2
    clear hrel2
    by_cases hz : (ruA l k).1.size = 0
    · obtain ⟨q1, q2, q3, q4⟩ := (gOk_rule hok hkl).1 hz
      have hsum := (gOk_len hok hkl).1 hz
      obtain ⟨p, hp⟩ := Int.eq_ofNat_of_zero_le q1
      obtain ⟨q, hq⟩ := Int.eq_ofNat_of_zero_le q3
      have hpk : p < k := by omega
      have hqk : q < k := by omega
      have HE := Lib.hid (exF_pair (f := f) hz)
      rw [hp, hq] at HE hsum
      rw [hp] at hc1
      rw [hq] at hc2
      simp only [Int.toNat_natCast] at HE hsum
      have ha := exF_len hok f p (by omega) (by omega)
      have hpl := own_get HOWN.out (gOk_some hok).2.2.1 (show p < l.length by omega)
      have hbp := (gOk_some hok).2.2.2 _ (getD_mem (show p < (gLn l).length by rw [(gOk_some hok).2.2.1]; omega))
      have hbq := (gOk_some hok).2.2.2 _ (getD_mem (show q < (gLn l).length by rw [(gOk_some hok).2.2.1]; omega))
      have ex := size_zero hz
      rw [ex] at hc0
      have hpI : (p : Int) < l.length := by omega
      have HLT : Hid (ii < (gLn l).getD p 0 → (exF l f p)[ii.toNat]? = (wd l)[i.toNat]?) := fun h => by
        rw [← HREL.out, HE.out, List.getElem?_append_left (by omega)]
      have HGE : Hid (¬ ii < (gLn l).getD p 0 → (exF l f q)[(ii - (gLn l).getD p 0).toNat]? = (wd l)[i.toNat]?) := fun h => by
        rw [← HREL.out, HE.out, List.getElem?_append_right (by omega)]
        congr 1; omega
      have HQ : Hid (¬ ii < (gLn l).getD p 0 → ii - (gLn l).getD p 0 < (gLn l).getD q 0) := fun h => by omega
      have HPK := Lib.hid hpk
      clear hz hp hq q1 q2 q3 q4 HE ha ex HREL hsum
      generalize hlp : (gLn l).getD p 0 = lp at *
      generalize hlq : (gLn l).getD q 0 = lq at *
      obtain ⟨hbp1, hbp2⟩ := hbp
      have HLP := Lib.hid hlp
      have HLQ := Lib.hid hlq
      clear hlp hlq
      by_cases hlt : ii < lp
      · have H1 := Lib.hid (HLT.out hlt)
        go_wp2
        go_round
        case rel => exact ⟨f, p, ii, by omega, by omega, rfl, rfl, hi1, by rw [HLP.out]; exact hlt, H1.out⟩
        case measure => have := HPK.out; first | (simp [intOf]; done) | (simp [intOf]; omega)
      · have H1 := Lib.hid (HGE.out hlt)
        have H2 := HQ.out hlt
        have hlk := (gOk_some hok).2.2.2 _ (getD_mem (show k < (gLn l).length by rw [(gOk_some hok).2.2.1]; omega))
        have hii : ii ≤ 1000000000000000 := by omega
        clear hlk
        go_wp2
        go_round
        case rel => exact ⟨f, q, ii - lp, by omega, by omega, rfl, rfl, by omega, by rw [HLQ.out]; exact H2, H1.out⟩
        case measure => first | (simp [intOf]; done) | (simp [intOf]; omega)
    · have h1 := ((gOk_rule hok hkl).2 hz).1
      have hl1 := (gOk_len hok hkl).2 hz
      have h0 : 0 < (ruA l k).1.size := by omega
      have hi0 : ii.toNat = 0 := by omega
      have hres : (wd l).getD i.toNat 0 = (ruA l k).1[0] := by
        have := HREL.out
        rw [exF_let hz, hi0, get_opt _ 0 h0] at this
        rw [List.getD, ← this]; rfl
      have hne := neq_empty hz
      have hne2 := not_empty hz
      have HRES := Lib.hid hres
      clear hz hl1 hres h1
      generalize (ruA l k).1 = x1 at *
      go_wp2
      go_ret
      exact ⟨by have h9 : (wd l)[i.toNat]?.getD 0 = x1[0] := HRES.out; rw [h9]; rfl, rfl⟩
end Go.Proofs.Ytimfbnjgodbgoaa

/- Parts of a word that the reference spells; the codes of a part. -/
namespace Go.Proofs.Ytimfbnjgodbgoaa
open Go.ChangeShapes Go.WideShapes Go.RowKit
set_option linter.unusedVariables false
set_option linter.unusedSimpArgs false
set_option maxHeartbeats 2000000
set_option maxRecDepth 100000
/-- a part of a word -/
def ptX (l : List Ru) (i j : Int) : List UInt8 := ((wd l).take j.toNat).drop i.toNat
theorem ptX_snoc {l : List Ru} {i : Int} {k : Nat} (hi : i ≤ k) (h0 : 0 ≤ i) (hk : k < (wd l).length) : ptX l i ((k + 1 : Nat) : Int) = ptX l i k ++ [(wd l).getD k 0] := by
  unfold ptX
  rw [Int.toNat_natCast, Int.toNat_natCast, List.take_add_one, List.getElem?_eq_getElem hk, List.drop_append_of_le_length (by simp; omega)]
  simp [List.getD, hk]
theorem ptX_nil (l : List Ru) (i : Int) : ptX l i i = [] := by
  unfold ptX; rw [List.drop_eq_nil_iff, List.length_take]; omega
theorem s_l02Unpack (bq oq cap : Nat) (a : Option Addr) (l : List Ru) (i j : Int) (w : World) (hn : l.length ≤ 1048576) (hsz : ∀ r ∈ l, r.1.size ≤ 1048576) (hok : gOk l = true) (hcell : w.cell? ⟨bq, oq, none⟩ = some (.slice a l.length cap)) (hin : InRu w (.slice a l.length cap) l)
    (hi : 0 ≤ i) (hij : i ≤ j) (hj : j ≤ lastI (gLn l)) (hb : j - i ≤ 2000) :
    Calls Try.prog 35 #[.pointer (some ⟨bq, oq, none⟩), .int .i64 i, .int .i64 j] w fun e w' => e = .returned (.string ⟨(ptX l i j).toArray⟩) ∧ Below w.heap.size w w' := by
  have HS := Lib.hid (s_l02Lengths bq oq cap a l w hn hsz hcell hin)
  have hwl := wd_len hok
  have hjb : j ≤ 1000000000000000 := by
    by_cases hl : 0 < l.length
    · have := (gOk_some hok).2.2.2 _ (getD_mem (show l.length - 1 < (gLn l).length by rw [(gOk_some hok).2.2.1]; omega))
      rw [lastI_at (by rw [(gOk_some hok).2.2.1]; omega), (gOk_some hok).2.2.1] at hj
      omega
    · have : l = [] := List.eq_nil_of_length_eq_zero (by omega)
      subst this
      have : lastI (gLn ([] : List Ru)) = 0 := rfl
      omega
  rw [hok] at HS
  have HIN := Lib.hid hin
  have HL := Lib.hid (fun (gl cl base : Nat) (w : World) (i : Int) => s_l02Letter bq oq cap gl cl base a l i w hok)
  have hgl := (gOk_some hok).2.2.1
  clear hn hsz hin
  go_enter Try.func35, Try.ntmps35
  go_wp2_with fail
  refine HS.out.mono ?_
  rintro e w2 ⟨v', rfl, hb2, ho2⟩
  have ho := by first | exact ho2 rfl | exact ho2 trivial
  have hcell2 := cell_later hb2 hcell
  have i2 := inRu_below HIN.out hb2
  rw [hgl] at ho
  obtain ⟨al, cl, rfl, hsome, -⟩ := owns_sl3 ho
  have HO := Lib.hid ho
  have HI2 := Lib.hid i2
  have HB2 := Lib.hid hb2
  clear ho2 ho i2 hb2 HS hcell
  go_wp2
  go_loopw [9, 10] (fun o k wr => Below w2.heap.size w2 wr ∧ ∃ kk : Nat, i ≤ kk ∧ (kk : Int) ≤ j ∧ k = .int .i64 kk ∧ wr.ownsRow w2.heap.size 5 1 o (ptX l i kk).length (u8s (ptX l i kk))) (fun _ k _ => (j - intOf k).toNat)
  case atStart =>
    refine ⟨(Below.refl _ _).alloc (Nat.le_refl _) _, i.toNat, by omega, by omega, by congr 1; omega, ?_⟩
    rw [show ((i.toNat : Nat) : Int) = i by omega, ptX_nil]
    exact World.ownsRow_made w2 #[] 0 (Nat.le_refl _) (by decide) (by simp)
  case round =>
    obtain ⟨hb3, kk, hk1, hk2, rfl, hown⟩ := hrel
    have hsz3 := hb3.size
    by_cases hlt : (kk : Int) < j
    · have hne : l.length ≠ 0 := by
        intro h
        have : l = [] := List.eq_nil_of_length_eq_zero h
        subst this
        have : lastI (gLn ([] : List Ru)) = 0 := rfl
        omega
      obtain ⟨gl, rfl⟩ := hsome hne
      have HLT := Lib.hid (HL.out gl cl _ wr kk (cell_later hb3 hcell2) (inRu_below HI2.out hb3) (owns_after HO.out hb3) (by omega) (by omega))
      have HS := Lib.hid (ptX_snoc (l := l) hk1 hi (show kk < (wd l).length by omega))
      have hlen : (ptX l i kk).length ≤ 1048576 := by unfold ptX; simp; omega
      simp only [Int.toNat_natCast] at HLT
      have HB3 := Lib.hid hb3
      clear hb3 hcell2
      generalize ptX l i kk = pl at *
      generalize (wd l).getD kk 0 = y at *
      go_wp2_with (first | (go_at_call 59; refine HLT.out.mono ?_; rintro e w3 ⟨rfl, rfl⟩) | (at_builtin; refine app_u8 rfl (.tmp 23) (.tmp 28) rfl w2.heap.size _ _ _ _ _ _ rfl hown rfl (by simp) (by omega) (by simpa using hsz3) ?_; intro v' w1 ho1 hb1 hsz1))
      go_roundw
      case rel => exact ⟨HB3.out.trans hb1, kk + 1, by omega, by omega, by go_num, owns8_snoc ho1 HS.out⟩
      case measure => first | (simp [intOf]; done) | (simp [intOf]; omega)
    · have ek : (kk : Int) = j := by omega
      have hcv := conv_any hown
      have HBF := Lib.hid (HB2.out.trans (hb3.mono HB2.out.size))
      rw [ek] at hcv
      clear hb3 hown hcell2
      go_wp2
      go_ret
      exact ⟨rfl, HBF.out⟩
end Go.Proofs.Ytimfbnjgodbgoaa

/- LetterAt, UnpackPart, UnpackWord, of the program and of the reference, and their laws. -/
namespace Go.Proofs.Ytimfbnjgodbgoaa
open Go.ChangeShapes Go.WideShapes Go.RowKit
set_option linter.unusedVariables false
set_option linter.unusedSimpArgs false
set_option maxHeartbeats 2000000
set_option maxRecDepth 100000
theorem last_bd {l : List Ru} (hok : gOk l = true) : 0 ≤ lastI (gLn l) ∧ lastI (gLn l) ≤ 1000000000000000 := by
  by_cases hl : 0 < l.length
  · have := (gOk_some hok).2.2.2 _ (getD_mem (show l.length - 1 < (gLn l).length by rw [(gOk_some hok).2.2.1]; omega))
    rw [lastI_at (by rw [(gOk_some hok).2.2.1]; omega), (gOk_some hok).2.2.1]
    omega
  · have : l = [] := List.eq_nil_of_length_eq_zero (by omega)
    subst this
    have : lastI (gLn ([] : List Ru)) = 0 := rfl
    omega
/-- the code of a part -/
def pkC (l : List Ru) (i j : Int) : Int := if gOk l = false then 1 else if i < 0 ∨ i > j ∨ j > lastI (gLn l) then 2 else 0
theorem pkC_bad {l : List Ru} {i j : Int} (h : gOk l = false) : pkC l i j = 1 := by rw [pkC, if_pos h]
theorem pkC_out {l : List Ru} {i j : Int} (h : gOk l = true) (h2 : i < 0 ∨ i > j ∨ j > lastI (gLn l)) : pkC l i j = 2 := by rw [pkC, if_neg (by simp [h]), if_pos h2]
theorem pkC_ok {l : List Ru} {i j : Int} (h : gOk l = true) (h2 : ¬ (i < 0 ∨ i > j ∨ j > lastI (gLn l))) : pkC l i j = 0 := by rw [pkC, if_neg (by simp [h]), if_neg h2]
/-- the code of an unpacked part -/
def upC (l : List Ru) (i j : Int) : Int := if pkC l i j = 0 then (if j - i > 2000 then 3 else 0) else pkC l i j
def upW (l : List Ru) (i j : Int) : ByteArray := if upC l i j = 0 then ⟨(ptX l i j).toArray⟩ else ⟨#[]⟩
theorem up_bad {l : List Ru} {i j x : Int} (h : pkC l i j = x) (hx : x ≠ 0) : upC l i j = x ∧ upW l i j = ⟨#[]⟩ := by
  have : upC l i j = x := by rw [upC, h, if_neg hx]
  exact ⟨this, by rw [upW, this, if_neg hx]⟩
theorem up_long {l : List Ru} {i j : Int} (h : pkC l i j = 0) (hx : j - i > 2000) : upC l i j = 3 ∧ upW l i j = ⟨#[]⟩ := by
  have : upC l i j = 3 := by rw [upC, if_pos h, if_pos hx]
  exact ⟨this, by rw [upW, this, if_neg (by decide)]⟩
theorem up_ok {l : List Ru} {i j : Int} (h : pkC l i j = 0) (hx : ¬ j - i > 2000) : upC l i j = 0 ∧ upW l i j = ⟨(ptX l i j).toArray⟩ := by
  have : upC l i j = 0 := by rw [upC, if_pos h, if_neg hx]
  exact ⟨this, by rw [upW, if_pos this]⟩
theorem pkC_0 {l : List Ru} {i j : Int} (h : pkC l i j = 0) : gOk l = true ∧ 0 ≤ i ∧ i ≤ j ∧ j ≤ lastI (gLn l) := by
  cases hok : gOk l
  · rw [pkC_bad hok] at h; cases h
  · by_cases h2 : i < 0 ∨ i > j ∨ j > lastI (gLn l)
    · rw [pkC_out hok h2] at h; cases h
    · exact ⟨rfl, by omega, by omega, by omega⟩
end Go.Proofs.Ytimfbnjgodbgoaa

/- UnpackWord and LetterAt, of the program and of the reference, and their laws. -/
namespace Go.Proofs.Ytimfbnjgodbgoaa
open Go.ChangeShapes Go.WideShapes Go.RowKit
set_option linter.unusedVariables false
set_option linter.unusedSimpArgs false
set_option maxHeartbeats 2000000
set_option maxRecDepth 100000
def uwC (l : List Ru) : Int := if gOk l = false then 1 else upC l 0 (lastI (gLn l))
def uwW (l : List Ru) : ByteArray := if gOk l = false then ⟨#[]⟩ else upW l 0 (lastI (gLn l))
theorem uw_bad {l : List Ru} (h : gOk l = false) : uwC l = 1 ∧ uwW l = ⟨#[]⟩ := by simp [uwC, uwW, h]
theorem uw_ok {l : List Ru} (h : gOk l = true) : uwC l = upC l 0 (lastI (gLn l)) ∧ uwW l = upW l 0 (lastI (gLn l)) := by simp [uwC, uwW, h]
theorem pk_all {l : List Ru} (h : gOk l = true) : pkC l 0 (lastI (gLn l)) = 0 := pkC_ok h (by have := last_bd h; omega)
theorem s_UnpackWord (v : Value) (l : List Ru) (w : World) (hn : l.length ≤ 1048576) (hsz : ∀ r ∈ l, r.1.size ≤ 1048576) (hin : InRu w v l) :
    Calls Try.prog 15 #[.agg #[v]] w fun e w' => e = .returned (.tuple #[.string (uwW l), .int .i64 (uwC l)]) ∧ Below w.heap.size w w' := by
  obtain ⟨a, cap, rfl⟩ := inRu_sl hin
  have b0 := box_cell w (.slice a l.length cap) 26
  have i0 := inRu_box (o := .cells #[.slice a l.length cap] 26) hin
  have HS := Lib.hid (s_l02Ok w.heap.size 0 cap a l _ hn hsz b0 i0)
  cases hok : gOk l
  · have HF := Lib.hid (uw_bad hok)
    rw [hok] at HS
    clear hsz hin b0 i0 hok
    go_enter Try.func15, Try.ntmps15
    go_wp2_with fail
    refine HS.out.mono ?_
    rintro e w2 ⟨rfl, hb2⟩
    have hb3 := below_box hb2
    clear hb2
    go_wp2
    go_ret2
    exact ⟨ret_si HF.out.2.symm HF.out.1.symm, hb3⟩
  · have h2 := gOk_some hok
    have HF := Lib.hid (uw_ok hok)
    have HL := Lib.hid (fun (wz : Nat × World) h i => s_l02Length wz.1 0 cap a l wz.2 hn hsz h i (by rw [h2.2.1]; rfl))
    have HU := Lib.hid (fun (n : Nat) w hc hi hb => s_l02Unpack n 0 cap a l 0 (lastI (gLn l)) w hn hsz hok hc hi (by omega) (last_bd hok).1 (Int.le_refl _) hb)
    have HX1 : Hid (2000 < lastI (gLn l) → upC l 0 (lastI (gLn l)) = 3 ∧ upW l 0 (lastI (gLn l)) = ⟨#[]⟩) := fun h => up_long (pk_all hok) (by omega)
    have HX2 : Hid (¬ 2000 < lastI (gLn l) → upC l 0 (lastI (gLn l)) = 0 ∧ upW l 0 (lastI (gLn l)) = ⟨(ptX l 0 (lastI (gLn l))).toArray⟩) := fun h => up_ok (pk_all hok) (by omega)
    have hbd := last_bd hok
    rw [hok] at HS
    clear hsz hin hok h2
    generalize lastI (gLn l) = la at *
    obtain ⟨hbd0, hbd1⟩ := hbd
    go_enter Try.func15, Try.ntmps15
    go_wp2_with fail
    refine HS.out.mono ?_
    rintro e w2 ⟨rfl, hb2⟩
    have b2 := cell_later hb2 b0
    have i2 := inRu_below i0 hb2
    go_wp2_with fail
    refine (HL.out (w.heap.size, w2) b2 i2).mono ?_
    rintro e w3 ⟨rfl, hb3⟩
    have hB3 := hb2.trans (hb3.mono hb2.size)
    have b3 := cell_later hB3 b0
    have i3 := inRu_below i0 hB3
    clear hb2 hb3 b0 i0 b2 i2
    by_cases hlong : 2000 < la
    · have HG := Lib.hid (HX1.out hlong)
      have hb4 := below_box hB3
      clear hB3 b3 i3
      go_wp2
      go_ret2
      exact ⟨ret_si (by rw [HF.out.2, HG.out.2]) (by rw [HF.out.1, HG.out.1]), hb4⟩
    · have HG := Lib.hid (HX2.out (by omega))
      go_wp2_with fail
      refine (HU.out w.heap.size w3 b3 i3 (by omega)).mono ?_
      rintro e w4 ⟨rfl, hb4⟩
      have hb5 := below_box (hB3.trans (hb4.mono hB3.size))
      clear hB3 hb4 b3 i3
      go_wp2
      go_ret2
      exact ⟨ret_si (by rw [HF.out.2, HG.out.2]) (by rw [HF.out.1, HG.out.1]), hb5⟩
end Go.Proofs.Ytimfbnjgodbgoaa

/- Letters of a word, parts of a word: the plain law; the reference's walk to a letter. -/
import Derived.Test.YtmcfjjhflnhehaaGG
namespace Go.Proofs.Ytmcfjjhflnhehaa
open Go.ChangeShapes Go.WideShapes Go.RowKit
set_option linter.unusedVariables false
set_option linter.unusedSimpArgs false
set_option maxHeartbeats 2000000
set_option maxRecDepth 100000
/-- the word of a grammar -/
def wd (l : List Ru) : List UInt8 := exF l l.length (l.length - 1)
theorem cut_append (A B : List UInt8) (m d : Nat) : ((A ++ B).take m).drop d = (A.take m).drop d ++ (B.take (m - A.length)).drop (d - A.length) := by
  rw [List.take_append, List.drop_append]
  by_cases h : A.length ≤ m
  · rw [List.length_take, Nat.min_eq_right h]
  · rw [show m - A.length = 0 by omega]; simp
theorem cov_law {l : List Ru} (hok : gOk l = true) (i j : Int) : ∀ (f k : Nat) (at_ : Int), k < f → k < l.length → 0 ≤ at_ → (cov l (gLn l) i j f k at_).flatMap (exF l l.length) = ((exF l f k).take (j - at_).toNat).drop (i - at_).toNat
  | 0, k, at_, h, _, _ => by omega
  | f + 1, k, at_, h, hk, hat => by
    have hlen := exF_len hok (f + 1) k h hk
    rw [cov]
    by_cases h1 : at_ + (gLn l).getD k 0 ≤ i ∨ j ≤ at_
    · rw [if_pos h1]
      symm
      show _ = []
      rw [List.drop_eq_nil_iff, List.length_take]
      omega
    · rw [if_neg h1]
      by_cases h2 : i ≤ at_ ∧ at_ + (gLn l).getD k 0 ≤ j
      · rw [if_pos h2, List.take_of_length_le (by omega), show (i - at_).toNat = 0 by omega]
        simp only [List.flatMap_cons, List.flatMap_nil, List.append_nil, List.drop_zero]
        exact exF_same hok _ _ _ hk h hk
      · rw [if_neg h2]
        have hz : (ruA l k).1.size = 0 := by
          apply Classical.byContradiction
          intro hz
          have := (gOk_len hok hk).2 hz
          omega
        obtain ⟨q1, q2, q3, q4⟩ := (gOk_rule hok hk).1 hz
        have ha := exF_len hok f (ruA l k).2.1.toNat (by omega) (by omega)
        have hbd := (gOk_some hok).2.2.2 _ (getD_mem (show (ruA l k).2.1.toNat < (gLn l).length by rw [(gOk_some hok).2.2.1]; omega))
        rw [List.flatMap_append, cov_law hok i j f _ at_ (by omega) (by omega) hat, cov_law hok i j f _ _ (by omega) (by omega) (by omega), exF_pair hz, cut_append]
        have e1 : (j - (at_ + (gLn l).getD (ruA l k).2.1.toNat 0)).toNat = (j - at_).toNat - (exF l f (ruA l k).2.1.toNat).length := by omega
        have e2 : (i - (at_ + (gLn l).getD (ruA l k).2.1.toNat 0)).toNat = (i - at_).toNat - (exF l f (ruA l k).2.1.toNat).length := by omega
        rw [e1, e2]
theorem ptW_law {l : List Ru} (hok : gOk l = true) {i j : Int} (hi : 0 ≤ i) : ptW l i j = ((wd l).take j.toNat).drop i.toNat := by
  rw [ptW, pcv]
  by_cases h : 0 < l.length ∧ i < j
  · rw [if_pos h, cov_law hok i j l.length (l.length - 1) 0 (by omega) (by omega) (by omega), wd, Int.sub_zero, Int.sub_zero]
  · rw [if_neg h]
    symm
    show _ = []
    by_cases hl : 0 < l.length
    · rw [List.drop_eq_nil_iff, List.length_take]; omega
    · have : l = [] := List.eq_nil_of_length_eq_zero (by omega)
      subst this
      simp [wd, exF]
theorem wd_len {l : List Ru} (hok : gOk l = true) : ((wd l).length : Int) = lastI (gLn l) := by
  by_cases hl : 0 < l.length
  · rw [wd, exF_len hok _ _ (by omega) (by omega), lastI_at (by rw [(gOk_some hok).2.2.1]; omega), (gOk_some hok).2.2.1]
  · have : l = [] := List.eq_nil_of_length_eq_zero (by omega)
    subst this
    rfl
theorem s_l02Letter (bq oq cap gl cl base : Nat) (a : Option Addr) (l : List Ru) (i : Int) (w : World) (hok : gOk l = true) (hcell : w.cell? ⟨bq, oq, none⟩ = some (.slice a l.length cap)) (hin : InRu w (.slice a l.length cap) l)
    (hown : w.ownsRow base 2 1 (.slice (some ⟨gl, 0, none⟩) l.length cl) l.length ((gLn l).map (Value.int .i64))) (hi : 0 ≤ i) (hil : i < lastI (gLn l)) :
    Calls Try.prog 61 #[.pointer (some ⟨bq, oq, none⟩), .slice (some ⟨gl, 0, none⟩) l.length cl, .int .i64 i] w fun e w' => e = .returned (.int .u8 ((wd l).getD i.toNat 0).toNat) ∧ w = w' := by
  have hl400 := (gOk_some hok).1
  have hn : 0 < l.length := by
    have := wd_len hok
    rcases Nat.eq_zero_or_pos l.length with h | h
    · have : l = [] := List.eq_nil_of_length_eq_zero h
      subst this
      have : lastI (gLn ([] : List Ru)) = 0 := rfl
      omega
    · exact h
  obtain ⟨m, hm⟩ : ∃ m, l.length = m + 1 := ⟨l.length - 1, by omega⟩
  have hmi : (l.length : Int) - 1 = (m : Int) := by omega
  have hml : m < l.length := by omega
  have hlast : lastI (gLn l) = (gLn l).getD m 0 := by rw [lastI_at (by rw [(gOk_some hok).2.2.1]; omega), (gOk_some hok).2.2.1, hm]; rfl
  have HW : Hid ((exF l l.length m)[i.toNat]? = (wd l)[i.toNat]?) := by show _ = _; rw [wd, hm]; rfl
  rw [hlast] at hil
  have HM := Lib.hid hm
  have HIN := Lib.hid hin
  have HOWN := Lib.hid hown
  have HWL := Lib.hid (wd_len hok)
  clear hm hlast hin hown
  go_enter Try.func61, Try.ntmps61
  go_wp2
  go_loop [2, 7, 8] (fun ix at_ _ => ∃ (f k : Nat) (ii : Int), k < f ∧ k < l.length ∧ ix = .int .i64 ii ∧ at_ = .int .i64 k ∧ 0 ≤ ii ∧ ii < (gLn l).getD k 0 ∧ (exF l f k)[ii.toNat]? = (wd l)[i.toNat]?) (fun _ at_ _ => (intOf at_).toNat)
  case atStart => exact ⟨l.length, m, i, hml, hml, rfl, by go_num, hi, hil, HW.out⟩
  case round =>
    obtain ⟨f, k, ii, hkf, hkl, rfl, rfl, hi1, hi2, hrel2⟩ := hrel
    obtain ⟨f, rfl⟩ : ∃ f', f = f' + 1 := ⟨f - 1, by omega⟩
    obtain ⟨b, off, rfl, hbl, hc0, hc1, hc2⟩ := inRu_at HIN.out hkl
    have hin : ((k : Nat) : Int) < l.length := by omega
    have HREL := Lib.hid hrel2
    clear hrel2
    by_cases hz : (ruA l k).1.size = 0
    · obtain ⟨q1, q2, q3, q4⟩ := (gOk_rule hok hkl).1 hz
      have hsum := (gOk_len hok hkl).1 hz
      obtain ⟨p, hp⟩ := Int.eq_ofNat_of_zero_le q1
      obtain ⟨q, hq⟩ := Int.eq_ofNat_of_zero_le q3
      have hpk : p < k := by omega
      have hqk : q < k := by omega
      have HE := Lib.hid (exF_pair (f := f) hz)
      rw [hp, hq] at HE hsum
      rw [hp] at hc1
      rw [hq] at hc2
      simp only [Int.toNat_natCast] at HE hsum
      have ha := exF_len hok f p (by omega) (by omega)
      have hpl := own_get HOWN.out (gOk_some hok).2.2.1 (show p < l.length by omega)
      have hbp := (gOk_some hok).2.2.2 _ (getD_mem (show p < (gLn l).length by rw [(gOk_some hok).2.2.1]; omega))
      have hbq := (gOk_some hok).2.2.2 _ (getD_mem (show q < (gLn l).length by rw [(gOk_some hok).2.2.1]; omega))
      have ex := size_zero hz
      rw [ex] at hc0
      have hpI : (p : Int) < l.length := by omega
      have HLT : Hid (ii < (gLn l).getD p 0 → (exF l f p)[ii.toNat]? = (wd l)[i.toNat]?) := fun h => by
        rw [← HREL.out, HE.out, List.getElem?_append_left (by omega)]
      have HGE : Hid (¬ ii < (gLn l).getD p 0 → (exF l f q)[(ii - (gLn l).getD p 0).toNat]? = (wd l)[i.toNat]?) := fun h => by
        rw [← HREL.out, HE.out, List.getElem?_append_right (by omega)]
        congr 1; omega
      have HQ : Hid (¬ ii < (gLn l).getD p 0 → ii - (gLn l).getD p 0 < (gLn l).getD q 0) := fun h => by omega
      have HPK := Lib.hid hpk
      clear hz hp hq q1 q2 q3 q4 HE ha ex HREL hsum
      generalize hlp : (gLn l).getD p 0 = lp at *
      generalize hlq : (gLn l).getD q 0 = lq at *
      obtain ⟨hbp1, hbp2⟩ := hbp
      have HLP := Lib.hid hlp
      have HLQ := Lib.hid hlq
      clear hlp hlq
      by_cases hlt : ii < lp
      · have H1 := Lib.hid (HLT.out hlt)
        go_wp2
        go_round
        case rel => exact ⟨f, p, ii, by omega, by omega, rfl, rfl, hi1, by rw [HLP.out]; exact hlt, H1.out⟩
        case measure => have := HPK.out; first | (simp [intOf]; done) | (simp [intOf]; omega)
      · have H1 := Lib.hid (HGE.out hlt)
        have H2 := HQ.out hlt
        have hlk := (gOk_some hok).2.2.2 _ (getD_mem (show k < (gLn l).length by rw [(gOk_some hok).2.2.1]; omega))
        have hii : ii ≤ 1000000000000000 := by omega
        clear hlk
        go_wp2
        go_round
        case rel => exact ⟨f, q, ii - lp, by omega, by omega, rfl, rfl, by omega, by rw [HLQ.out]; exact H2, H1.out⟩
        case measure => first | (simp [intOf]; done) | (simp [intOf]; omega)
    · have h1 := ((gOk_rule hok hkl).2 hz).1
      have hl1 := (gOk_len hok hkl).2 hz
      have h0 : 0 < (ruA l k).1.size := by omega
      have hi0 : ii.toNat = 0 := by omega
      have hres : (wd l).getD i.toNat 0 = (ruA l k).1[0] := by
        have := HREL.out
        rw [exF_let hz, hi0, get_opt _ 0 h0] at this
        rw [List.getD, ← this]; rfl
      have hne := neq_empty hz
      have hne2 := not_empty hz
      have HRES := Lib.hid hres
      clear hz hl1 hres h1
      generalize (ruA l k).1 = x1 at *
      go_wp2
      go_ret
      exact ⟨by have h9 : (wd l)[i.toNat]?.getD 0 = x1[0] := HRES.out; rw [h9]; rfl, rfl⟩
end Go.Proofs.Ytmcfjjhflnhehaa

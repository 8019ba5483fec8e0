/- The cover of a part of a grammar's word. -/
import Derived.Test.YtoejelieogjjpaaQE
import Derived.Test.YtoejelieogjjpaaUT
namespace Go.Proofs.Ytoejelieogjjpaa
open Go.ChangeShapes Go.WideShapes Go.RowKit
set_option linter.unusedVariables false
set_option linter.unusedSimpArgs false
set_option maxHeartbeats 2000000
set_option maxRecDepth 100000
theorem s_l00MinQ (a b : Int) (w : World) : Calls Try.prog 72 #[.int .i64 a, .int .i64 b] w fun e w' => e = .returned (.int .i64 (min a b)) ∧ w' = w := by
  by_cases h : a < b
  · have h2 : min a b = a := by omega
    rw [h2]
    go_enter Try.func72, Try.ntmps72
    go_wp2
    go_ret
    exact ⟨rfl, rfl⟩
  · have h2 : min a b = b := by omega
    rw [h2]
    go_enter Try.func72, Try.ntmps72
    go_wp2
    go_ret
    exact ⟨rfl, rfl⟩
theorem s_l00MaxQ (a b : Int) (w : World) : Calls Try.prog 73 #[.int .i64 a, .int .i64 b] w fun e w' => e = .returned (.int .i64 (max a b)) ∧ w' = w := by
  by_cases h : b < a
  · have h2 : max a b = a := by omega
    rw [h2]
    go_enter Try.func73, Try.ntmps73
    go_wp2
    go_ret
    exact ⟨rfl, rfl⟩
  · have h2 : max a b = b := by omega
    rw [h2]
    go_enter Try.func73, Try.ntmps73
    go_wp2
    go_ret
    exact ⟨rfl, rfl⟩
/-- the cover of the part from i to j of the word of the rule k -/
def cvF (l : List Ru) : Nat → Nat → Int → Int → List Int
  | 0, _, _, _ => []
  | f + 1, k, i, j => if i ≥ j then [] else if i = 0 ∧ j = (gLn l).getD k 0 then [(k : Int)] else
      cvF l f (ruA l k).2.1.toNat i (min j ((gLn l).getD (ruA l k).2.1.toNat 0)) ++ cvF l f (ruA l k).2.2.toNat (max (i - (gLn l).getD (ruA l k).2.1.toNat 0) 0) (j - (gLn l).getD (ruA l k).2.1.toNat 0)
theorem cv_none {l : List Ru} {f k : Nat} {i j : Int} (h : i ≥ j) : cvF l f k i j = [] := by
  cases f with
  | zero => rfl
  | succ f => rw [cvF, if_pos h]
theorem cv_one {l : List Ru} {f k : Nat} {i j : Int} (h : ¬ i ≥ j) (h2 : i = 0 ∧ j = (gLn l).getD k 0) : cvF l (f + 1) k i j = [(k : Int)] := by rw [cvF, if_neg h, if_pos h2]
theorem cv_two {l : List Ru} {f k : Nat} {i j : Int} (h : ¬ i ≥ j) (h2 : ¬ (i = 0 ∧ j = (gLn l).getD k 0)) : cvF l (f + 1) k i j = cvF l f (ruA l k).2.1.toNat i (min j ((gLn l).getD (ruA l k).2.1.toNat 0)) ++ cvF l f (ruA l k).2.2.toNat (max (i - (gLn l).getD (ruA l k).2.1.toNat 0) 0) (j - (gLn l).getD (ruA l k).2.1.toNat 0) := by rw [cvF, if_neg h, if_neg h2]
theorem wo_len {l : List Ru} (hok : gOk l = true) {k : Nat} (hk : k < l.length) : ((wo l k).length : Int) = (gLn l).getD k 0 := exF_len hok (k + 1) k (Nat.lt_succ_self _) hk
/-- a part that is no whole rule lies in a pair -/
theorem cv_pair {l : List Ru} (hok : gOk l = true) {k : Nat} (hk : k < l.length) {i j : Int} (hi : 0 ≤ i) (hj : j ≤ (gLn l).getD k 0) (h : ¬ i ≥ j) (h2 : ¬ (i = 0 ∧ j = (gLn l).getD k 0)) : (ruA l k).1.size = 0 := by
  apply Classical.byContradiction
  intro hz
  have := (gOk_len hok hk).2 hz
  omega
theorem cv_law {l : List Ru} (hok : gOk l = true) : ∀ (f k : Nat) (i j : Int), k < f → k < l.length → 0 ≤ i → j ≤ (gLn l).getD k 0 →
    (cvF l f k i j).flatMap (fun x => wo l x.toNat) = ((wo l k).take j.toNat).drop i.toNat ∧ (∀ x ∈ cvF l f k i j, 0 ≤ x ∧ x ≤ k) ∧ ((cvF l f k i j).length : Int) ≤ max (j - i) 0 ∧ (i < j → cvF l f k i j ≠ [])
  | 0, k, i, j, h, _, _, _ => by omega
  | f + 1, k, i, j, h, hk, hi, hj => by
    have hlen := wo_len hok hk
    by_cases h1 : i ≥ j
    · rw [cv_none h1]
      refine ⟨?_, ?_, ?_, fun h => by omega⟩
      · symm
        show _ = []
        rw [List.drop_eq_nil_iff, List.length_take]
        omega
      · intro x hx; cases hx
      · show ((0 : Nat) : Int) ≤ _
        omega
    · by_cases h2 : i = 0 ∧ j = (gLn l).getD k 0
      · rw [cv_one h1 h2]
        refine ⟨?_, fun x hx => ?_, by simp; omega, fun _ => by simp⟩
        · rw [List.take_of_length_le (by omega), show i.toNat = 0 by omega]
          simp
        · rw [List.mem_singleton] at hx; omega
      · rw [cv_two h1 h2]
        have hz := cv_pair hok hk hi hj h1 h2
        obtain ⟨q1, q2, q3, q4⟩ := (gOk_rule hok hk).1 hz
        have hlp := wo_len hok (show (ruA l k).2.1.toNat < l.length by omega)
        have hlq := wo_len hok (show (ruA l k).2.2.toNat < l.length by omega)
        have hsum := (gOk_len hok hk).1 hz
        have hw := wo_pair (gW_of hok) hk hz
        have A := cv_law hok f (ruA l k).2.1.toNat i (min j ((gLn l).getD (ruA l k).2.1.toNat 0)) (by omega) (by omega) hi (by omega)
        have B := cv_law hok f (ruA l k).2.2.toNat (max (i - (gLn l).getD (ruA l k).2.1.toNat 0) 0) (j - (gLn l).getD (ruA l k).2.1.toNat 0) (by omega) (by omega) (by omega) (by omega)
        obtain ⟨a1, a2, a3, a4⟩ := A
        obtain ⟨b1, b2, b3, b4⟩ := B
        generalize cvF l f (ruA l k).2.1.toNat i (min j ((gLn l).getD (ruA l k).2.1.toNat 0)) = C1 at *
        generalize cvF l f (ruA l k).2.2.toNat (max (i - (gLn l).getD (ruA l k).2.1.toNat 0) 0) (j - (gLn l).getD (ruA l k).2.1.toNat 0) = C2 at *
        generalize (gLn l).getD (ruA l k).2.1.toNat 0 = half at *
        generalize wo l (ruA l k).2.1.toNat = WA at *
        generalize wo l (ruA l k).2.2.toNat = WB at *
        refine ⟨?_, ?_, ?_, ?_⟩
        · rw [List.flatMap_append, a1, b1, hw, cut_append]
          congr 1
          · congr 1
            by_cases hm : j ≤ half
            · rw [Int.min_eq_left hm]
            · rw [List.take_of_length_le (by omega), List.take_of_length_le (by omega)]
          · rw [show (j - half).toNat = j.toNat - WA.length by omega, show (max (i - half) 0).toNat = i.toNat - WA.length by omega]
        · intro x hx
          rcases List.mem_append.1 hx with hx | hx
          · have := a2 x hx; omega
          · have := b2 x hx; omega
        · rw [List.length_append]; omega
        · intro hij
          by_cases hm : i < min j half
          · have := a4 hm
            intro e
            exact this (List.append_eq_nil_iff.1 e).1
          · have := b4 (by omega)
            intro e
            exact this (List.append_eq_nil_iff.1 e).2
/-- the length of a cover -/
theorem cv_len {l : List Ru} (hok : gOk l = true) {f k : Nat} {i j : Int} (h : k < f) (hk : k < l.length) (hi : 0 ≤ i) (hj : j ≤ (gLn l).getD k 0) : ((cvF l f k i j).length : Int) ≤ max (j - i) 0 := (cv_law hok f k i j h hk hi hj).2.2.1
theorem s_l02Cover (w0 : World) (bq oq cap gl cl : Nat) (a : Option Addr) (l : List Ru) (hok : gOk l = true) (hcell : w0.cell? ⟨bq, oq, none⟩ = some (.slice a l.length cap)) (hin : InRu w0 (.slice a l.length cap) l) (hln : ∀ k, k < l.length → w0.cell? ⟨gl, k, none⟩ = some (.int .i64 ((gLn l).getD k 0))) :
    ∀ (f k : Nat) (i j : Int) (v : Value) (o : List Int) (w : World), k < f → k < l.length → 0 ≤ i → j ≤ (gLn l).getD k 0 → (o.length : Int) + max (j - i) 0 ≤ 1000 → -1000000000000000 ≤ j → i ≤ 1000000000000000 → Below w0.heap.size w0 w → w.ownsRow w0.heap.size 2 1 v o.length (o.map (Value.int .i64)) →
    Calls Try.prog 62 #[.pointer (some ⟨bq, oq, none⟩), .slice (some ⟨gl, 0, none⟩) l.length cl, .int .i64 k, .int .i64 i, .int .i64 j, v] w fun e w' => ∃ v', e = .returned v' ∧ w'.ownsRow w0.heap.size 2 1 v' (o ++ cvF l f k i j).length ((o ++ cvF l f k i j).map (Value.int .i64)) ∧ Below w0.heap.size w0 w'
  | 0, k, i, j, v, o, w, h, _, _, _, _, _, _, _, _ => by omega
  | f + 1, k, i, j, v, o, w, hkf, hk, hi, hj, ho, hj0, hi0, hb, hown => by
    have IH := Lib.hid (s_l02Cover w0 bq oq cap gl cl a l hok hcell hin hln f)
    have HB := Lib.hid hb
    have HO := Lib.hid hown
    by_cases h1 : i ≥ j
    · rw [cv_none h1, List.append_nil]
      clear hown hb IH hin hln hcell
      go_enter Try.func62, Try.ntmps62
      go_wp2
      go_ret
      exact ⟨v, rfl, HO.out, HB.out⟩
    · have ck := cell_later hb (hln k hk)
      have hkI : (k : Int) < l.length := by omega
      have h1' : ¬ i ≥ j := h1
      by_cases h2 : i = 0 ∧ j = (gLn l).getD k 0
      · have HC := Lib.hid (cv_one (l := l) (f := f) (k := k) h1 h2)
        rw [HC.out]
        obtain ⟨rfl, hj2⟩ := h2
        rw [← hj2] at ck
        have hwb := hb.size
        clear hown hb IH hin hln hcell HC hj2
        go_enter Try.func62, Try.ntmps62
        go_wp2_with (at_builtin; refine app_i64 rfl (.tmp 29) (.tmp 31) rfl w0.heap.size _ _ _ _ _ _ rfl HO.out rfl (by simp) (by omega) hwb ?_; intro v' w6 ho6 hb6 hsz6)
        go_ret
        exact ⟨v', rfl, by simpa using ho6, HB.out.trans hb6⟩
      · have hz := cv_pair hok hk hi hj h1 h2
        obtain ⟨q1, q2, q3, q4⟩ := (gOk_rule hok hk).1 hz
        have HC := Lib.hid (cv_two (l := l) (f := f) (k := k) h1 h2)
        rw [HC.out]
        obtain ⟨b', off, rfl, hbl, hc0, hc1, hc2⟩ := inRu_at hin hk
        have HC1 := Lib.hid hc1
        have HC2 := Lib.hid hc2
        have hc1 := cell_later hb hc1
        have hc2 := cell_later hb hc2
        have hcg := cell_later hb hcell
        obtain ⟨p, hp⟩ := Int.eq_ofNat_of_zero_le q1
        obtain ⟨q, hq⟩ := Int.eq_ofNat_of_zero_le q3
        rw [hp] at hc1 HC1
        rw [hq] at hc2 HC2
        rw [hp, hq]
        simp only [Int.toNat_natCast]
        have hsum := (gOk_len hok hk).1 hz
        rw [hp, hq] at hsum
        simp only [Int.toNat_natCast] at hsum
        have hpl : p < l.length := by omega
        have hql : q < l.length := by omega
        have cp := cell_later hb (hln p hpl)
        have bnd : ∀ x, x < l.length → 1 ≤ (gLn l).getD x 0 ∧ (gLn l).getD x 0 ≤ 1000000000000000 := fun x hx => (gOk_some hok).2.2.2 _ (getD_mem (by rw [(gOk_some hok).2.2.1]; exact hx))
        have bp := bnd p hpl
        have bk := bnd k hk
        have bq2 := bnd q hql
        have L1 := cv_len hok (f := f) (k := p) (i := i) (j := min j ((gLn l).getD p 0)) (by omega) hpl hi (by omega)
        have HL1 := Lib.hid L1
        have hpI : (p : Int) < l.length := by omega
        have hkn : ¬ (i = 0 ∧ j = (gLn l).getD k 0) := h2
        have I1 := Lib.hid (fun w => IH.out p i (min j ((gLn l).getD p 0)) v o w (by omega) hpl hi (by omega) (by omega) (by omega) hi0)
        have I2 := Lib.hid (fun v o w => IH.out q (max (i - (gLn l).getD p 0) 0) (j - (gLn l).getD p 0) v o w (by omega) hql (by omega) (by omega))
        have k1 : IntKind.i64.wrap (i - (gLn l).getD p 0) = i - (gLn l).getD p 0 := IntWalk.i64_in _ (by omega)
        have k2 : IntKind.i64.wrap (j - (gLn l).getD p 0) = j - (gLn l).getD p 0 := IntWalk.i64_in _ (by omega)
        clear hin hln hcell IH hp hq q1 q2 q3 q4 hz hb hown bnd HC hc0 L1 hsum h2
        have HI := Lib.hid (And.intro hj (And.intro bp (And.intro bk bq2)))
        clear hj bp bk bq2
        generalize (gLn l).getD p 0 = half at *
        generalize cvF l f p i (min j half) = C1 at *
        generalize cvF l f q (max (i - half) 0) (j - half) = C2 at *
        go_enter Try.func62, Try.ntmps62
        go_upto_region 3 with fail
        go_cut [28] (fun s28 wx => s28 = .bool false ∧ wx = w)
        case first =>
          by_cases hi0 : i = 0
          · have hj2 : (j == (gLn l).getD k 0) = false := by rw [beq_eq_false_iff_ne]; intro e; exact hkn ⟨hi0, e⟩
            subst hi0
            generalize (gLn l).getD k 0 = lk at *
            go_wp2
            go_meet
            exact ⟨rfl, rfl⟩
          · have hi2 : (i == 0) = false := by rw [beq_eq_false_iff_ne]; exact hi0
            go_wp2
            go_meet
            exact ⟨rfl, rfl⟩
        case rest =>
          obtain ⟨rfl, rfl⟩ := hcut
          clear hkn h1 ck
          go_upto_region 7 with fail
          go_cut [5] (fun s5 wx => wx.ownsRow w0.heap.size 2 1 s5 (o ++ C1).length ((o ++ C1).map (Value.int .i64)) ∧ Below w0.heap.size w0 wx)
          case first =>
            clear I2
            go_region_held3 (fun w' => w'.cell? ⟨b', off + k * 3 + 1, none⟩ = some (.int .i64 p)) (first | go_keep | assumption) (first | (go_at_call 72; with_reducible refine (s_l00MinQ _ _ _).mono ?_; rintro e wq ⟨rfl, rfl⟩) | (go_at_call 62; with_reducible refine (I1.out _ (by first | exact HB.out.drew | exact HB.out) (by first | exact ownsRow_drew HO.out | exact HO.out)).mono ?_; rintro e wq ⟨v3, rfl, ho3, hb3⟩; have hc3 := cell_later hb3 HC1.out))
            go_wp2
            go_meet
            exact ⟨ho3, hb3⟩
          case rest =>
            obtain ⟨ho5, hb5⟩ := hcut
            have hc5 := cell_later hb5 HC2.out
            have HO5 := Lib.hid ho5
            have HB5 := Lib.hid hb5
            have HLC : Hid ((o ++ C1).length = o.length + C1.length) := List.length_append
            clear ho5 hb5 I1 HO HB hc1 hc2 HC1 hcg cp
            go_upto_region 8 with fail
            go_region_held3 (fun w' => w'.cell? ⟨b', off + k * 3 + 2, none⟩ = some (.int .i64 q)) (first | go_keep | assumption) (first | (go_at_call 73; with_reducible refine (s_l00MaxQ _ _ _).mono ?_; rintro e wq ⟨rfl, rfl⟩) | (go_at_call 62; with_reducible refine (I2.out _ (o ++ C1) _ (by have := HLC.out; have := HL1.out; omega) (by have := HI.out; omega) (by have := HI.out; omega) (by first | exact HB5.out.drew | exact HB5.out) (by first | exact ownsRow_drew HO5.out | exact HO5.out)).mono ?_; rintro e wq ⟨v3, rfl, ho3, hb3⟩; have hc3 := cell_later hb3 HC2.out))
            go_wp2
            go_ret
            rw [List.append_assoc] at ho3
            exact ⟨_, rfl, ho3, hb3⟩
end Go.Proofs.Ytoejelieogjjpaa

/- OccurrencesOf and PeriodsOf, of the program and of the reference, and their laws. -/
import Derived.Test.YtdighfjoechbkaaD0
import Derived.Test.YtdighfjoechbkaaB1
namespace Go.Proofs.Ytdighfjoechbkaa
open Go.ChangeShapes Go.WideShapes Go.RowKit
set_option linter.unusedVariables false
set_option linter.unusedSimpArgs false
set_option maxHeartbeats 2000000
set_option maxRecDepth 100000
/-- the first places at which p begins -/
def ocTo (p s : ByteArray) : Nat → List Int
  | 0 => []
  | k + 1 => if ((s.extract k (k + p.size)).toList == p.toList) = true then ocTo p s k ++ [(k : Int)] else ocTo p s k
theorem ocTo_yes (p s : ByteArray) (k : Nat) (h : ((s.extract k (k + p.size)).toList == p.toList) = true) : ocTo p s (k + 1) = ocTo p s k ++ [(k : Int)] := by
  rw [ocTo, if_pos h]
theorem ocTo_no (p s : ByteArray) (k : Nat) (h : ((s.extract k (k + p.size)).toList == p.toList) = false) : ocTo p s (k + 1) = ocTo p s k := by
  rw [ocTo, if_neg (by rw [h]; simp)]
theorem ocTo_len (p s : ByteArray) : ∀ k, (ocTo p s k).length ≤ k
  | 0 => by simp [ocTo]
  | k + 1 => by
    have := ocTo_len p s k
    rw [ocTo]
    split <;> simp <;> omega
theorem i_occurrences (p s : ByteArray) (w : World) (hp : p.size ≤ 2000) (hs : s.size ≤ 2000) : Calls Try.prog 61 #[.string p, .string s] w fun e w' => ∃ v, e = .returned v ∧ Own64 w w' v (ocTo p s (s.size + 1 - p.size)) := by
  go_enter Try.func61, Try.ntmps61
  go_wp2
  go_loopw [5, 6] (fun v i wr => Below w.heap.size w wr ∧ ∃ k : Nat, k ≤ s.size + 1 - p.size ∧ i = .int .i64 k ∧ wr.ownsRow w.heap.size 2 1 v (ocTo p s k).length ((ocTo p s k).map (Value.int .i64))) (fun _ i _ => s.size + 1 - p.size - (intOf i).toNat)
  case atStart => exact ⟨(Below.refl _ _).alloc (Nat.le_refl _) _, 0, by omega, rfl, World.ownsRow_made w #[] 0 (Nat.le_refl _) (by decide) (by simp)⟩
  case round =>
    obtain ⟨hb, k, hk, rfl, hown⟩ := hrel
    have hsz := hb.size
    have hlen := ocTo_len p s k
    by_cases hlt : k + p.size ≤ s.size
    · cases ht : ((s.extract k (k + p.size)).toList == p.toList)
      · have HN := Lib.hid (ocTo_no p s k ht)
        go_wp2
        go_roundw
        case rel => exact ⟨hb, k + 1, by omega, by go_num, by rw [HN.out]; exact hown⟩
        case measure => first | (simp [intOf]; done) | (simp [intOf]; omega)
      · have HN := Lib.hid (ocTo_yes p s k ht)
        go_wp2_with (at_builtin; refine app_i64 rfl (.tmp 26) (.tmp 28) rfl w.heap.size _ _ _ _ _ _ rfl hown rfl (by simp) (by omega) (by simpa using hsz) ?_; intro v' w1 ho1 hb1 hsz1)
        go_roundw
        case rel => exact ⟨hb.trans hb1, k + 1, by omega, by go_num, owns_snoc ho1 HN.out⟩
        case measure => first | (simp [intOf]; done) | (simp [intOf]; omega)
    · have ek : k = s.size + 1 - p.size := by omega
      have HX : Hid (ocTo p s k = ocTo p s (s.size + 1 - p.size)) := by show _ = _; rw [ek]
      clear ek
      go_wp2
      go_ret
      exact ⟨_, rfl, by rw [← HX.out]; exact hown, hb⟩
theorem s_l01Found (p s : ByteArray) (w : World) (hp : p.size ≤ 2000) (hs : s.size ≤ 2000) : Calls Try.prog 59 #[.string p, .string s] w fun e w' => ∃ v, e = .returned v ∧ Own64 w w' v (ocTo p s (s.size + 1 - p.size)) := by
  go_enter Try.func59, Try.ntmps59
  go_wp2
  go_loopw [5, 6] (fun v i wr => Below w.heap.size w wr ∧ ∃ k : Nat, k ≤ s.size + 1 - p.size ∧ i = .int .i64 k ∧ wr.ownsRow w.heap.size 2 1 v (ocTo p s k).length ((ocTo p s k).map (Value.int .i64))) (fun _ i _ => s.size + 1 - p.size - (intOf i).toNat)
  case atStart => exact ⟨(Below.refl _ _).alloc (Nat.le_refl _) _, 0, by omega, rfl, World.ownsRow_made w #[] 0 (Nat.le_refl _) (by decide) (by simp)⟩
  case round =>
    obtain ⟨hb, k, hk, rfl, hown⟩ := hrel
    have hsz := hb.size
    have hlen := ocTo_len p s k
    by_cases hlt : k + p.size ≤ s.size
    · cases ht : ((s.extract k (k + p.size)).toList == p.toList)
      · have HN := Lib.hid (ocTo_no p s k ht)
        go_wp2
        go_roundw
        case rel => exact ⟨hb, k + 1, by omega, by go_num, by rw [HN.out]; exact hown⟩
        case measure => first | (simp [intOf]; done) | (simp [intOf]; omega)
      · have HN := Lib.hid (ocTo_yes p s k ht)
        go_wp2_with (at_builtin; refine app_i64 rfl (.tmp 26) (.tmp 28) rfl w.heap.size _ _ _ _ _ _ rfl hown rfl (by simp) (by omega) (by simpa using hsz) ?_; intro v' w1 ho1 hb1 hsz1)
        go_roundw
        case rel => exact ⟨hb.trans hb1, k + 1, by omega, by go_num, owns_snoc ho1 HN.out⟩
        case measure => first | (simp [intOf]; done) | (simp [intOf]; omega)
    · have ek : k = s.size + 1 - p.size := by omega
      have HX : Hid (ocTo p s k = ocTo p s (s.size + 1 - p.size)) := by show _ = _; rw [ek]
      clear ek
      go_wp2
      go_ret
      exact ⟨_, rfl, by rw [← HX.out]; exact hown, hb⟩
def ocL (p s : ByteArray) : List Int := if (validB p && validB s) = true ∧ p.toList.isEmpty = false then ocTo p s (s.size + 1 - p.size) else []
def ocC (p s : ByteArray) : Int := if (validB p && validB s) = true then if p.toList.isEmpty = true then 4 else 0 else 1
theorem toList_size (p : ByteArray) : p.toList.length = p.size := by rw [ByteArray.toList_eq]; simp
theorem i_OccurrencesOf (p s : ByteArray) (w : World) (hp : p.size ≤ maxLen) (hs : s.size ≤ maxLen) : Calls Try.prog 19 #[.string p, .string s] w fun e w' => ∃ v, e = .returned (.tuple #[v, .int .i64 (ocC p s)]) ∧ Own64 w w' v (ocL p s) := by
  cases h1 : validB p <;> cases h2 : validB s
  case true.true =>
    have hle := validB_le h1
    have hle2 := validB_le h2
    cases he : p.toList.isEmpty
    · have HC : Hid (ocC p s = 0 ∧ ocL p s = ocTo p s (s.size + 1 - p.size)) := by refine ⟨?_, ?_⟩ <;> simp [ocC, ocL, h1, h2, he]
      go_enter Try.func19, Try.ntmps19
      go_wp2_with (first | (go_at_call 60; refine (i_ValidWord _ _ (by assumption)).mono ?_; rintro e w' ⟨rfl, rfl⟩) | (go_at_call 61; refine (i_occurrences _ _ _ (by omega) (by omega)).mono ?_; rintro e w' ⟨v, rfl, ho⟩))
      go_ret2
      exact ⟨_, by rw [HC.out.1]; rfl, by rw [HC.out.2]; exact ho⟩
    · have HC : Hid (ocC p s = 4 ∧ ocL p s = []) := by refine ⟨?_, ?_⟩ <;> simp [ocC, ocL, h1, h2, he]
      go_enter Try.func19, Try.ntmps19
      go_wp2_with (go_at_call 60; refine (i_ValidWord _ _ (by assumption)).mono ?_; rintro e w' ⟨rfl, rfl⟩)
      go_ret2
      exact ⟨_, by rw [HC.out.1]; rfl, by rw [HC.out.2]; exact own64_nil (Below.refl _ _)⟩
  all_goals
    have HC : Hid (ocC p s = 1 ∧ ocL p s = []) := by refine ⟨?_, ?_⟩ <;> simp [ocC, ocL, h1, h2]
    go_enter Try.func19, Try.ntmps19
    go_wp2_with (go_at_call 60; refine (i_ValidWord _ _ (by assumption)).mono ?_; rintro e w' ⟨rfl, rfl⟩)
    go_ret2
    exact ⟨_, by rw [HC.out.1]; rfl, by rw [HC.out.2]; exact own64_nil (Below.refl _ _)⟩
theorem s_OccurrencesOf (p s : ByteArray) (w : World) (hp : p.size ≤ maxLen) (hs : s.size ≤ maxLen) : Calls Try.prog 18 #[.string p, .string s] w fun e w' => ∃ v, e = .returned (.tuple #[v, .int .i64 (ocC p s)]) ∧ Own64 w w' v (ocL p s) := by
  cases h1 : validB p <;> cases h2 : validB s
  case true.true =>
    have hle := validB_le h1
    have hle2 := validB_le h2
    by_cases he : p.size = 0
    · have HC : Hid (ocC p s = 4 ∧ ocL p s = []) := by
        have : p.toList = [] := List.eq_nil_of_length_eq_zero (by rw [toList_size]; exact he)
        refine ⟨?_, ?_⟩ <;> simp [ocC, ocL, h1, h2, this]
      have hb : ((p.size : Int) == 0) = true := by simp [he]
      clear he
      go_enter Try.func18, Try.ntmps18
      go_wp2_with (go_at_call 58; refine (s_l01Ok _ _ (by assumption)).mono ?_; rintro e w' ⟨rfl, rfl⟩)
      go_ret2
      exact ⟨_, by rw [HC.out.1]; rfl, by rw [HC.out.2]; exact own64_empty _⟩
    · have HC : Hid (ocC p s = 0 ∧ ocL p s = ocTo p s (s.size + 1 - p.size)) := by
        have : p.toList.isEmpty = false := by
          cases h : p.toList with
          | nil => have := toList_size p; rw [h] at this; exact absurd this.symm he
          | cons a l => rfl
        refine ⟨?_, ?_⟩ <;> simp [ocC, ocL, h1, h2, this]
      have hb : ((p.size : Int) == 0) = false := by rw [beq_eq_false_iff_ne]; omega
      go_enter Try.func18, Try.ntmps18
      go_wp2_with (first | (go_at_call 58; refine (s_l01Ok _ _ (by assumption)).mono ?_; rintro e w' ⟨rfl, rfl⟩) | (go_at_call 59; refine (s_l01Found _ _ _ (by omega) (by omega)).mono ?_; rintro e w' ⟨v, rfl, ho⟩))
      go_ret2
      exact ⟨_, by rw [HC.out.1]; rfl, by rw [HC.out.2]; exact ho⟩
  all_goals
    have HC : Hid (ocC p s = 1 ∧ ocL p s = []) := by refine ⟨?_, ?_⟩ <;> simp [ocC, ocL, h1, h2]
    go_enter Try.func18, Try.ntmps18
    go_wp2_with (go_at_call 58; refine (s_l01Ok _ _ (by assumption)).mono ?_; rintro e w' ⟨rfl, rfl⟩)
    go_ret2
    exact ⟨_, by rw [HC.out.1]; rfl, by rw [HC.out.2]; exact own64_empty _⟩
theorem walk_FnExactOccurrencesOf (p s : ByteArray) (hp : p.size ≤ maxLen) (hs : s.size ≤ maxLen) (w : World) : Calls Try.prog 3 #[.string p, .string s] w fun e w' => e = .returned (.bool true) ∧ Below w.heap.size w w' := by
  have hp' : p.size ≤ 9223372036854775807 := by unfold maxLen at hp; omega
  have hs' : s.size ≤ 9223372036854775807 := by unfold maxLen at hs; omega
  by_cases hbig : 1048576 < p.size
  · go_enter Try.func3, Try.ntmps3
    go_wp2
    go_ret
    exact ⟨rfl, Below.refl _ _⟩
  by_cases hbig2 : 1048576 < s.size
  · go_enter Try.func3, Try.ntmps3
    go_wp2
    go_ret
    exact ⟨rfl, Below.refl _ _⟩
  have hlen : (ocL p s).length ≤ 2000000 := by
    have := ocTo_len p s (s.size + 1 - p.size)
    unfold ocL; split <;> simp <;> omega
  -- FnExactOccurrencesOf: the law; p s w hp hs: args of the contracts, w the world; ocC p s: the code; ocL p s: the list; s_OccurrencesOf i_OccurrencesOf: the contracts
  have hS := fun w => s_OccurrencesOf p s w hp hs
  have hI := fun w => i_OccurrencesOf p s w hp hs
  generalize ocC p s = c at hS hI
  generalize ocL p s = l at hS hI hlen
  have HS := Lib.hid hS
  have HI := Lib.hid hI
  clear hS hI
  go_enter Try.func3, Try.ntmps3
  go_wp2_with fail
  refine (HS.out _).mono ?_
  rintro e w1 ⟨v1, rfl, ho1, hb1⟩
  go_wp2_with fail
  refine (HI.out _).mono ?_
  rintro e w2 ⟨v2, rfl, ho2, hb2⟩
  go_wp2_with fail
  refine (l_eqInt64S _ _ l l _ _ _ ho2 (owns_after ho1 hb2) (by omega) (by omega)).mono ?_
  rintro e w3 ⟨rfl, hq3⟩
  go_wp2_with fail
  refine (l_mark1 _ l.length _ _ _ (by omega) (owns_qt ho2 hq3)).mono ?_
  rintro e w4 ⟨rfl, ho4, hg4⟩
  go_wp2_with fail
  refine (l_held1 _ l.length _ _ (by omega) ho4).mono ?_
  rintro e w5 ⟨rfl, rfl⟩
  go_wp2_with fail
  refine (HI.out _).mono ?_
  rintro e w6 ⟨v6, rfl, ho6, hb6⟩
  have hk1 := keep1 ho1 ho2 hb2 hq3 hg4
  go_wp2_with fail
  refine (l_eqInt64S _ _ l l _ _ _ ho6 (owns_after hk1 hb6) (by omega) (by omega)).mono ?_
  rintro e w7 ⟨rfl, hq7⟩
  go_wp2_with fail
  refine (l_held1 _ l.length _ _ (by omega) (owns_qt (owns_after ho4 hb6) hq7)).mono ?_
  rintro e w8 ⟨rfl, rfl⟩
  go_wp2
  go_ret
  exact ⟨rfl, chain hb1 hb2 hq3 ho2 hg4 hb6 hq7⟩
theorem rv_step2 {n k m : Nat} {xs zs : List Int} {x y : Int} (hm : m + k + 1 = n) (hkm : k < m) (hl : zs.length = n) (hz : ∀ t, t < n → zs[t]? = xs[rvAt n k t]?) (hx : zs[k]? = some x) (hy : zs[m]? = some y) (t : Nat) (ht : t < n) :
    ((zs.set k y).set m x)[t]? = xs[rvAt n (k + 1) t]? := by
  have rk : rvAt n k k = k := by unfold rvAt; rw [if_neg (by omega)]
  have rm : rvAt n k m = m := by unfold rvAt; rw [if_neg (by omega)]
  by_cases h1 : t = m
  · subst h1
    rw [List.getElem?_set_self (by simp; omega), ← hx, hz k (by omega), rk]
    have : rvAt n (k + 1) t = k := by unfold rvAt; rw [if_pos (by omega)]; omega
    rw [this]
  · rw [List.getElem?_set_ne (by omega)]
    by_cases h2 : t = k
    · subst h2
      rw [List.getElem?_set_self (by omega), ← hy, hz m (by omega), rm]
      have : rvAt n (t + 1) t = m := by unfold rvAt; rw [if_pos (by omega)]; omega
      rw [this]
    · rw [List.getElem?_set_ne (by omega), hz t ht]
      have : rvAt n (k + 1) t = rvAt n k t := by
        unfold rvAt
        by_cases h3 : t < k ∨ n ≤ t + k
        · rw [if_pos h3, if_pos (by omega)]
        · rw [if_neg h3, if_neg (by omega)]
      rw [this]
theorem rv_end2 {k : Nat} {xs zs : List Int} (h1 : 2 * k ≤ xs.length + 1) (h2 : ¬ 2 * k + 1 < xs.length) (hl : zs.length = xs.length) (hz : ∀ t, t < xs.length → zs[t]? = xs[rvAt xs.length k t]?) : zs = xs.reverse := by
  apply List.ext_getElem?
  intro t
  by_cases ht : t < xs.length
  · rw [hz t ht, List.getElem?_reverse ht]
    have e : rvAt xs.length k t = xs.length - 1 - t := by unfold rvAt; split <;> omega
    rw [e]
  · rw [List.getElem?_eq_none (by omega), List.getElem?_eq_none (by simp; omega)]
theorem f_Reverse2_int64 (base g n cap : Nat) (xs : List Int) (w : World) (hn : xs.length = n) (hl : xs.length ≤ 1048576) (hB : w.ownsRow base 2 1 (.slice (some ⟨g, 0, none⟩) n cap) n (xs.map (Value.int .i64))) :
    Calls Try.prog 89 #[.slice (some ⟨g, 0, none⟩) n cap] w fun e w' => e = .returned (.tuple #[]) ∧ w'.ownsRow base 2 1 (.slice (some ⟨g, 0, none⟩) n cap) n (xs.reverse.map (Value.int .i64)) ∧ w.grownBy w' (some g) := by
  subst hn
  have hlt0 := (hB.lt g rfl).2
  go_enter Try.func89, Try.ntmps89
  go_wp2
  go_loopw [2, 3] (fun i j wr => w.grownBy wr (some g) ∧ ∃ k : Nat, 2 * k ≤ xs.length + 1 ∧ i = .int .i64 k ∧ j = .int .i64 ((xs.length : Int) - 1 - k) ∧ ∃ zs : List Int, zs.length = xs.length ∧ wr.ownsRow base 2 1 (.slice (some ⟨g, 0, none⟩) xs.length cap) xs.length (zs.map (Value.int .i64)) ∧ ∀ t, t < xs.length → zs[t]? = xs[rvAt xs.length k t]?) (fun i j _ => (intOf j - intOf i + 1).toNat)
  case atStart => exact ⟨World.grownBy.refl _ _, 0, by omega, rfl, by go_num, xs, rfl, hB, fun t ht => by rw [rvAt_0 ht]⟩
  case round =>
    obtain ⟨hg, k, hk, rfl, rfl, zs, hzl, hown, hz⟩ := hrel
    have HZ := Lib.hid hz
    have HG := Lib.hid hg
    have HO := Lib.hid hown
    have HL := Lib.hid hzl
    clear hz hg hB hown hzl
    by_cases hlt : 2 * k + 1 < xs.length
    · obtain ⟨m, hm⟩ : ∃ m, m + k + 1 = xs.length := ⟨xs.length - 1 - k, by omega⟩
      have em : ((xs.length : Int) - 1 - k) = (m : Int) := by omega
      have hkm : k < m := by omega
      have hne : ¬ k = m := by omega
      have hne2 : ¬ m = k := by omega
      have hml : m < xs.length := by omega
      have hkl : k < xs.length := by omega
      obtain ⟨x, hx⟩ : ∃ x, zs[k]? = some x := ⟨_, List.getElem?_eq_getElem (by rw [HL.out]; exact hkl)⟩
      obtain ⟨y, hy⟩ : ∃ y, zs[m]? = some y := ⟨_, List.getElem?_eq_getElem (by rw [HL.out]; exact hml)⟩
      have hck : wr.cell? ⟨g, k, none⟩ = some (.int .i64 x) := by rw [HO.out.cellAt k (by omega)]; simp [hx]
      have hcm : wr.cell? ⟨g, m, none⟩ = some (.int .i64 y) := by rw [HO.out.cellAt m (by omega)]; simp [hy]
      have hfk := HO.out.frozenAt k
      have hfm := HO.out.frozenAt m
      have HS1 := Lib.hid (HO.out.stored k (.int .i64 y)).1
      have HS2 := Lib.hid (HS1.out.stored m (.int .i64 x)).1
      have HX := Lib.hid hx
      have HY := Lib.hid hy
      have HM := Lib.hid hm
      clear hx hy hm HS1
      rw [em]
      clear em
      go_wp2
      go_region
      go_wp2
      go_roundw
      case rel => exact ⟨grown_drew (grown_set (grown_set HG.out _ _) _ _), k + 1, by omega, by go_num, by have := HM.out; congr 1; omega, (zs.set k y).set m x, by simp [HL.out], by have h := HS2.out.drew; rwa [← List.map_set, ← List.map_set] at h, fun t ht => rv_step2 HM.out hkm HL.out HZ.out HX.out HY.out t ht⟩
      case measure => have := HM.out; first | (simp [intOf]; done) | (simp [intOf]; omega)
    · go_wp2
      go_end0
      refine ⟨rfl, ?_, HG.out⟩
      rw [← rv_end2 (by omega) (by omega) HL.out HZ.out]
      exact HO.out
end Go.Proofs.Ytdighfjoechbkaa

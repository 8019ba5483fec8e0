/- PeriodsOf and RootOf, of the program and of the reference, and their laws. -/
import Derived.Test.YtdighfjoechbkaaD1
namespace Go.Proofs.Ytdighfjoechbkaa
open Go.ChangeShapes Go.WideShapes Go.RowKit
set_option linter.unusedVariables false
set_option linter.unusedSimpArgs false
set_option maxHeartbeats 2000000
set_option maxRecDepth 100000
/-- p is a period -/
def pdB (s : ByteArray) (p : Nat) : Bool := (s.extract p s.size).toList == (s.extract 0 (s.size - p)).toList
/-- all periods less than k -/
def pdTo (s : ByteArray) : Nat → List Int
  | 0 => []
  | k + 1 => if k ≠ 0 ∧ pdB s k = true then pdTo s k ++ [(k : Int)] else pdTo s k
theorem pdTo_yes (s : ByteArray) (k : Nat) (h1 : 1 ≤ k) (h : pdB s k = true) : pdTo s (k + 1) = pdTo s k ++ [(k : Int)] := by
  rw [pdTo, if_pos ⟨by omega, h⟩]
theorem pdTo_no (s : ByteArray) (k : Nat) (h : pdB s k = false) : pdTo s (k + 1) = pdTo s k := by
  rw [pdTo, if_neg (by rw [h]; simp)]
theorem pdTo_len (s : ByteArray) : ∀ k, (pdTo s k).length ≤ k
  | 0 => by simp [pdTo]
  | k + 1 => by
    have := pdTo_len s k
    rw [pdTo]
    split <;> simp <;> omega
theorem bool_comm {a b : List UInt8} : (a == b) = (b == a) := by
  cases h : (b == a)
  · rw [beq_eq_false_iff_ne] at *
    exact fun e => h e.symm
  · rw [beq_iff_eq] at *
    exact h.symm
theorem bdTo_mem (s : ByteArray) : ∀ k, k ≤ s.size → ∀ b ∈ bdTo s k, 1 ≤ b ∧ b ≤ s.size
  | 0, _, b, h => by simp [bdTo] at h
  | k + 1, hk, b, h => by
    rw [bdTo] at h
    by_cases hc : k ≠ 0 ∧ ((s.extract 0 k).toList == (s.extract (s.size - k) s.size).toList) = true
    · rw [if_pos hc, List.mem_append] at h
      rcases h with h | h
      · exact bdTo_mem s k (by omega) b h
      · have := List.mem_singleton.1 h
        have := hc.1
        omega
    · rw [if_neg hc] at h
      exact bdTo_mem s k (by omega) b h
theorem per_ind (s : ByteArray) : ∀ k, 1 ≤ k → k ≤ s.size → pdTo s (s.size + 1 - k) ++ ((bdTo s k).map fun b => (s.size : Int) - b).reverse = pdTo s s.size
  | 0, h, _ => absurd h (by decide)
  | 1, _, h => by
    have e : bdTo s 1 = [] := by rw [bdTo, if_neg (fun h => h.1 rfl)]; rfl
    rw [e, Nat.add_sub_cancel]
    exact List.append_nil _
  | k + 2, _, h => by
    have ih := per_ind s (k + 1) (by omega) (by omega)
    rw [← ih]
    have e1 : s.size + 1 - (k + 2) = s.size - (k + 1) := by omega
    have e2 : s.size + 1 - (k + 1) = s.size - (k + 1) + 1 := by omega
    have e3 : s.size - (s.size - (k + 1)) = k + 1 := by omega
    have hb : pdB s (s.size - (k + 1)) = ((s.extract 0 (k + 1)).toList == (s.extract (s.size - (k + 1)) s.size).toList) := by
      unfold pdB; rw [e3, bool_comm]
    rw [e1, e2]
    cases hv : pdB s (s.size - (k + 1))
    · rw [pdTo_no _ _ hv, bdTo_no _ _ (by rw [← hb]; exact hv)]
    · rw [pdTo_yes _ _ (by omega) hv, bdTo_yes _ _ (by omega) (by rw [← hb]; exact hv)]
      simp only [List.map_append, List.map_cons, List.map_nil, List.reverse_append, List.reverse_cons, List.reverse_nil, List.nil_append, List.append_assoc, List.singleton_append]
      have : ((s.size - (k + 1) : Nat) : Int) = (s.size : Int) - ((k + 1 : Nat) : Int) := by omega
      rw [this]
theorem per_all (s : ByteArray) (h : 1 ≤ s.size) : ((bdTo s s.size).map fun b => (s.size : Int) - b).reverse ++ [(s.size : Int)] = pdTo s (s.size + 1) := by
  have h1 := per_ind s s.size h (Nat.le_refl _)
  have e : s.size + 1 - s.size = 1 := by omega
  rw [e] at h1
  have hp : pdB s s.size = true := by
    unfold pdB
    rw [Nat.sub_self]
    simp [ByteArray.toList_eq]
  rw [pdTo_yes _ _ h hp, ← h1]
  simp [pdTo]
theorem per_none (s : ByteArray) (h : s.size = 0) : pdTo s (s.size + 1) = [] ∧ bdTo s s.size = [] := by
  rw [h]; exact ⟨by simp [pdTo], by simp [bdTo]⟩
theorem owns_some {w : World} {base e n : Nat} {v : Value} {xs : List Value} (h : w.ownsRow base e 1 v (n + 1) xs) : ∃ g cap, v = .slice (some ⟨g, 0, none⟩) (n + 1) cap := by
  rcases owns_cases h with ⟨_, h0, _⟩ | ⟨g, cap, rfl, _⟩
  · omega
  · exact ⟨g, cap, rfl⟩
theorem i_borders2 (s : ByteArray) (w : World) (hs : s.size ≤ 1048576) : Calls Try.prog 81 #[.string s] w fun e w' => ∃ g cap, e = .returned (.slice (some ⟨g, 0, none⟩) (bdTo s s.size).length cap) ∧ Own64 w w' (.slice (some ⟨g, 0, none⟩) (bdTo s s.size).length cap) (bdTo s s.size) := by
  go_enter Try.func81, Try.ntmps81
  go_wp2
  go_loopw [3, 4] (fun v i wr => Below w.heap.size w wr ∧ ∃ k : Nat, 1 ≤ k ∧ (k ≤ s.size ∨ k = 1) ∧ i = .int .i64 k ∧ wr.ownsRow w.heap.size 2 1 v (bdTo s k).length ((bdTo s k).map (Value.int .i64)) ∧ ∃ g cap, v = .slice (some ⟨g, 0, none⟩) (bdTo s k).length cap) (fun _ i _ => s.size + 1 - (intOf i).toNat)
  case atStart => exact ⟨(Below.refl _ _).alloc (Nat.le_refl _) _, 1, by omega, by omega, rfl, World.ownsRow_made w #[] 0 (Nat.le_refl _) (by decide) (by simp), _, _, rfl⟩
  case round =>
    obtain ⟨hb, k, hk1, hk, rfl, hown, hnn⟩ := hrel
    have hsz := hb.size
    have hlen := bdTo_len s k
    have HE := Lib.hid (bdTo_end s k hk1 hk)
    have HNN := Lib.hid hnn
    clear hnn
    by_cases hlt : k < s.size
    · clear hk
      have ew : IntKind.i64.wrap ((s.size : Int) - k) = (s.size : Int) - k := IntWalk.i64_in _ (by omega)
      cases ht : ((s.extract 0 k).toList == (s.extract (s.size - k) s.size).toList)
      · have HN := Lib.hid (bdTo_no s k ht)
        go_wp2
        go_quiet (fail)
        go_wp2
        go_roundw
        case rel => exact ⟨below_drewN hb _, k + 1, by omega, by omega, by go_num, by rw [HN.out]; exact ownsRow_drewN hown _, by rw [HN.out]; exact HNN.out⟩
        case measure => first | (simp [intOf]; done) | (simp [intOf]; omega)
      · have HN := Lib.hid (bdTo_yes s k hk1 ht)
        go_wp2
        go_quiet (fail)
        have hown1 := ownsRow_drewN hown nq
        go_wp2_with (at_builtin; refine app_i64 rfl (.tmp 22) (.tmp 24) rfl w.heap.size _ _ _ _ _ _ rfl hown1 rfl (by simp) (by omega) (by simpa using hsz) ?_; intro v' w1 ho1 hb1 hsz1)
        go_roundw
        case rel =>
          refine ⟨(below_drewN hb _).trans hb1, k + 1, by omega, by omega, by go_num, owns_snoc ho1 HN.out, ?_⟩
          obtain ⟨g, cap, hv⟩ := owns_some ho1
          exact ⟨g, cap, by rw [hv, HN.out]; simp⟩
        case measure => first | (simp [intOf]; done) | (simp [intOf]; omega)
    · have HX := Lib.hid (HE.out hlt)
      clear hk
      obtain ⟨g, cap, hv⟩ := HNN.out
      subst hv
      have HO := Lib.hid hown
      clear hown
      go_wp2
      go_ret
      have h := HO.out
      rw [HX.out] at h
      exact ⟨g, cap, by rw [← HX.out]; rfl, h, hb⟩
theorem s_l01Periods (s : ByteArray) (w : World) (hs : s.size ≤ 2000) : Calls Try.prog 62 #[.string s] w fun e w' => ∃ g cap, e = .returned (.slice (some ⟨g, 0, none⟩) (pdTo s (s.size + 1)).length cap) ∧ Own64 w w' (.slice (some ⟨g, 0, none⟩) (pdTo s (s.size + 1)).length cap) (pdTo s (s.size + 1)) := by
  go_enter Try.func62, Try.ntmps62
  go_wp2
  go_loopw [3, 4] (fun v i wr => Below w.heap.size w wr ∧ ∃ k : Nat, 1 ≤ k ∧ k ≤ s.size + 1 ∧ i = .int .i64 k ∧ wr.ownsRow w.heap.size 2 1 v (pdTo s k).length ((pdTo s k).map (Value.int .i64)) ∧ ∃ g cap, v = .slice (some ⟨g, 0, none⟩) (pdTo s k).length cap) (fun _ i _ => s.size + 1 - (intOf i).toNat)
  case atStart => exact ⟨(Below.refl _ _).alloc (Nat.le_refl _) _, 1, by omega, by omega, rfl, World.ownsRow_made w #[] 0 (Nat.le_refl _) (by decide) (by simp), _, _, rfl⟩
  case round =>
    obtain ⟨hb, k, hk1, hk, rfl, hown, hnn⟩ := hrel
    have hsz := hb.size
    have hlen := pdTo_len s k
    have HNN := Lib.hid hnn
    clear hnn
    by_cases hlt : k ≤ s.size
    · have ew : IntKind.i64.wrap ((s.size : Int) - k) = (s.size : Int) - k := IntWalk.i64_in _ (by omega)
      cases ht : ((s.extract k s.size).toList == (s.extract 0 (s.size - k)).toList)
      · have HN := Lib.hid (pdTo_no s k ht)
        go_wp2
        go_quiet (fail)
        go_wp2
        go_roundw
        case rel => exact ⟨below_drewN hb _, k + 1, by omega, by omega, by go_num, by rw [HN.out]; exact ownsRow_drewN hown _, by rw [HN.out]; exact HNN.out⟩
        case measure => first | (simp [intOf]; done) | (simp [intOf]; omega)
      · have HN := Lib.hid (pdTo_yes s k hk1 ht)
        go_wp2
        go_quiet (fail)
        have hown1 := ownsRow_drewN hown nq
        go_wp2_with (at_builtin; refine app_i64 rfl (.tmp 22) (.tmp 24) rfl w.heap.size _ _ _ _ _ _ rfl hown1 rfl (by simp) (by omega) (by simpa using hsz) ?_; intro v' w1 ho1 hb1 hsz1)
        go_roundw
        case rel =>
          refine ⟨(below_drewN hb _).trans hb1, k + 1, by omega, by omega, by go_num, owns_snoc ho1 HN.out, ?_⟩
          obtain ⟨g, cap, hv⟩ := owns_some ho1
          exact ⟨g, cap, by rw [hv, HN.out]; simp⟩
        case measure => first | (simp [intOf]; done) | (simp [intOf]; omega)
    · have ek : k = s.size + 1 := by omega
      have HX : Hid (pdTo s k = pdTo s (s.size + 1)) := by show _ = _; rw [ek]
      clear ek
      obtain ⟨g, cap, hv⟩ := HNN.out
      subst hv
      have HO := Lib.hid hown
      clear hown
      go_wp2
      go_ret
      have h := HO.out
      rw [HX.out] at h
      exact ⟨g, cap, by rw [← HX.out]; rfl, h, hb⟩
theorem i_periods (s : ByteArray) (w : World) (hs : s.size ≤ 2000) : Calls Try.prog 63 #[.string s] w fun e w' => ∃ g cap, e = .returned (.slice (some ⟨g, 0, none⟩) (pdTo s (s.size + 1)).length cap) ∧ Own64 w w' (.slice (some ⟨g, 0, none⟩) (pdTo s (s.size + 1)).length cap) (pdTo s (s.size + 1)) := by
  have hbl := bdTo_len s s.size
  go_enter Try.func63, Try.ntmps63
  go_wp2_with fail
  refine (i_borders2 _ _ (by omega)).mono ?_
  rintro e w1 ⟨gb, cb, rfl, ho, hb⟩
  have HPA := Lib.hid (per_all s)
  have HPN := Lib.hid (per_none s)
  generalize hbd : bdTo s s.size = bs at *
  have HBD := Lib.hid hbd
  clear hbd
  have hsz1 := hb.size
  simp at hsz1
  have hgb : w.heap.size < gb := by
    rcases ho.2 with ⟨h, _⟩ | ⟨g', c', cur, h, hge, _⟩
    · cases h
    · injection h with h1; injection h1 with h2; injection h2 with h3; subst h3; have hge' : (w.alloc (.cells #[] 2)).heap.size ≤ gb := hge; simp at hge'; omega
  have h0 : w1.ownsRow w.heap.size 2 1 (.slice (some ⟨w.heap.size, 0, none⟩) 0 0) 0 [] := owns_after (World.ownsRow_made w #[] 0 (Nat.le_refl _) (by decide) (by simp)) hb
  have hbl0 : Below w.heap.size w w1 := ((Below.refl _ _).alloc (Nat.le_refl _) _).trans (hb.mono (by simp))
  have HB := Lib.hid hb
  have HO := Lib.hid (owns_weak ho (base' := w.heap.size) (by simp))
  clear ho hb
  have hlb : bs.length ≤ 2000 := by omega
  go_wp2
  go_loopw [3, 5, 10] (fun v _ i wr => Below w.heap.size w wr ∧ ∃ k : Nat, k ≤ bs.length ∧ i = .int .i64 k ∧ wr.ownsRow w.heap.size 2 1 v k (((bs.take k).map fun b => (s.size : Int) - b).map (Value.int .i64)) ∧ wr.ownsRow w.heap.size 2 1 (.slice (some ⟨gb, 0, none⟩) bs.length cb) bs.length (bs.map (Value.int .i64)) ∧ Apart2 (.slice (some ⟨gb, 0, none⟩) bs.length cb) v ∧ ∃ g cap, v = .slice (some ⟨g, 0, none⟩) k cap) (fun _ _ i _ => bs.length - (intOf i).toNat)
  case atStart => exact ⟨hbl0, 0, by omega, rfl, h0, HO.out, .inr (by simp [Value.ownBlock]; omega), _, _, rfl⟩
  case round =>
    obtain ⟨hb, k, hk, rfl, hown, hob, hap, hnn⟩ := hrel
    have hsz := hb.size
    have HNN := Lib.hid hnn
    have HAP := Lib.hid hap
    have HOB := Lib.hid hob
    clear hnn hap hob
    by_cases hlt : k < bs.length
    · obtain ⟨b, hbk⟩ : ∃ b, bs[k]? = some b := ⟨_, List.getElem?_eq_getElem hlt⟩
      have hcell : wr.cell? ⟨gb, k, none⟩ = some (.int .i64 b) := by rw [HOB.out.cellAt k (by omega)]; simp [hbk]
      have HT : Hid (bs.take (k + 1) = bs.take k ++ [b]) := by
        show _ = _
        rw [List.take_add_one, hbk]; rfl
      have hbb : 1 ≤ b ∧ b ≤ s.size := bdTo_mem s s.size (Nat.le_refl _) b (by rw [HBD.out]; exact List.mem_of_getElem? hbk)
      obtain ⟨hb1, hb2⟩ := hbb
      have hin : ((k : Nat) : Int) < bs.length := by omega
      clear hbk
      go_wp2_with (first | (go_at_call 64; refine (i_size _ _).mono ?_; rintro e w' ⟨rfl, rfl⟩) | (at_builtin; refine app2 rfl (.tmp 14) (.tmp 19) 22 rfl w.heap.size 2 (.int .i64 0) 1 8 Try.underlying22 info_i64 rfl (by decide) _ _ _ _ _ rfl hown [.int .i64 ((s.size : Int) - b)] rfl (by simp [Value.oneCell']) rfl (by simp) (by omega) (by decide) (by simpa using hsz) ?_; intro v' w1 ho1 hg1 hk1))
      go_roundw
      case rel =>
        refine ⟨hb.trans (below_of_grown hg1 hsz (fun t ht => (hown.lt t ht).1)), k + 1, by omega, by go_num, ?_, owns_other (base' := 0) (e' := 0) (size' := 0) (n' := 0) (xs' := []) HOB.out hg1 HAP.out, apart_step HOB.out HAP.out hk1, owns_some ho1⟩
        rw [HT.out]
        simpa using ho1
      case measure => first | (simp [intOf]; done) | (simp [intOf]; omega)
    · have ek : k = bs.length := by omega
      obtain ⟨g, cap, hv⟩ := HNN.out
      subst hv
      subst ek
      rw [List.take_length] at hown
      have hrl : (bs.map fun b => (s.size : Int) - b).length = bs.length := by simp
      have HO2 := Lib.hid hown
      clear hown
      go_wp2_with fail
      refine (f_Reverse2_int64 w.heap.size g _ cap (bs.map fun b => (s.size : Int) - b) _ (by simp) (by simp; omega) HO2.out).mono ?_
      rintro e w2 ⟨rfl, ho2, hg2⟩
      have hb2 : Below w.heap.size w w2 := hb.trans (below_of_grown hg2 hsz (fun t ht => by injection ht with ht; subst ht; exact (HO2.out.lt g rfl).1))
      have hsz2 := hb2.size
      have HB2 := Lib.hid hb2
      clear hb2 hg2 hrl hb
      have HO3 := Lib.hid ho2
      clear ho2
      by_cases hs0 : s.size = 0
      · have he : s.toList = [] := List.eq_nil_of_length_eq_zero (by rw [toList_size]; exact hs0)
        have HF : Hid (pdTo s (s.size + 1) = [] ∧ bs = []) := HPN.out hs0
        clear hs0
        go_wp2
        go_ret
        have h := HO3.out
        rw [HF.out.2] at h ⊢
        rw [HF.out.1]
        exact ⟨g, cap, rfl, h, HB2.out⟩
      · have he : s.toList.isEmpty = false := by
          cases h : s.toList with
          | nil => have := toList_size s; rw [h] at this; exact absurd this.symm hs0
          | cons a l => rfl
        have hne : ¬ s.toList = [] := by intro h; rw [h] at he; cases he
        have HF := Lib.hid (HPA.out (by omega))
        clear hs0
        go_wp2_with (first | (go_at_call 64; refine (i_size _ _).mono ?_; rintro e w' ⟨rfl, rfl⟩) | (at_builtin; refine app2 rfl (.tmp 26) (.tmp 29) 22 rfl w.heap.size 2 (.int .i64 0) 1 8 Try.underlying22 info_i64 rfl (by decide) _ _ _ _ _ rfl HO3.out [.int .i64 (s.size : Int)] rfl (by simp [Value.oneCell']) rfl (by simp) (by omega) (by decide) (by simpa using hsz2) ?_; intro v' w3 ho3 hg3 hk3))
        go_ret
        have hlen : (pdTo s (s.size + 1)).length = bs.length + 1 := by rw [← HF.out]; simp
        obtain ⟨g3, cap3, hv3⟩ := owns_some ho3
        subst hv3
        refine ⟨g3, cap3, by rw [hlen]; rfl, ?_, HB2.out.trans (below_of_grown hg3 hsz2 (fun t ht => (HO3.out.lt t ht).1))⟩
        rw [hlen, ← HF.out]
        simpa using ho3
theorem i_PeriodsOf (s : ByteArray) (w : World) (hs : s.size ≤ maxLen) : Calls Try.prog 26 #[.string s] w fun e w' => ∃ v, e = .returned (.tuple #[v, .int .i64 (okc (validB s))]) ∧ Own64 w w' v (ifl (validB s) (pdTo s (s.size + 1))) := by
  cases h1 : validB s
  · go_enter Try.func26, Try.ntmps26
    go_wp2_with (go_at_call 60; refine (i_ValidWord _ _ (by assumption)).mono ?_; rintro e w' ⟨rfl, rfl⟩)
    go_ret2
    exact ⟨_, rfl, own64_nil (Below.refl _ _)⟩
  · have hle := validB_le h1
    go_enter Try.func26, Try.ntmps26
    go_wp2_with (first | (go_at_call 60; refine (i_ValidWord _ _ (by assumption)).mono ?_; rintro e w' ⟨rfl, rfl⟩) | (go_at_call 63; refine (i_periods _ _ (by omega)).mono ?_; rintro e w' ⟨g, cap, rfl, ho⟩))
    go_ret2
    exact ⟨_, rfl, ho⟩
theorem s_PeriodsOf (s : ByteArray) (w : World) (hs : s.size ≤ maxLen) : Calls Try.prog 25 #[.string s] w fun e w' => ∃ v, e = .returned (.tuple #[v, .int .i64 (okc (validB s))]) ∧ Own64 w w' v (ifl (validB s) (pdTo s (s.size + 1))) := by
  cases h1 : validB s
  · go_enter Try.func25, Try.ntmps25
    go_wp2_with (go_at_call 58; refine (s_l01Ok _ _ (by assumption)).mono ?_; rintro e w' ⟨rfl, rfl⟩)
    go_ret2
    exact ⟨_, rfl, own64_empty _⟩
  · have hle := validB_le h1
    go_enter Try.func25, Try.ntmps25
    go_wp2_with (first | (go_at_call 58; refine (s_l01Ok _ _ (by assumption)).mono ?_; rintro e w' ⟨rfl, rfl⟩) | (go_at_call 62; refine (s_l01Periods _ _ (by omega)).mono ?_; rintro e w' ⟨g, cap, rfl, ho⟩))
    go_ret2
    exact ⟨_, rfl, ho⟩
theorem walk_FnExactPeriodsOf (s : ByteArray) (hs : s.size ≤ maxLen) (w : World) : Calls Try.prog 5 #[.string s] w fun e w' => e = .returned (.bool true) ∧ Below w.heap.size w w' := by
  have hs' : s.size ≤ 9223372036854775807 := by unfold maxLen at hs; omega
  by_cases hbig : 1048576 < s.size
  · go_enter Try.func5, Try.ntmps5
    go_wp2
    go_ret
    exact ⟨rfl, Below.refl _ _⟩
  have hlen : (ifl (validB s) (pdTo s (s.size + 1))).length ≤ 1048577 := by
    have := pdTo_len s (s.size + 1)
    unfold ifl; split <;> simp <;> omega
  -- FnExactPeriodsOf: the law; s w hs: args of the contracts, w the world; okc (validB s): the code; ifl (validB s) (pdTo s (s.size + 1)): the list; s_PeriodsOf i_PeriodsOf: the contracts
  have hS := fun w => s_PeriodsOf s w hs
  have hI := fun w => i_PeriodsOf s w hs
  generalize okc (validB s) = c at hS hI
  generalize ifl (validB s) (pdTo s (s.size + 1)) = l at hS hI hlen
  have HS := Lib.hid hS
  have HI := Lib.hid hI
  clear hS hI
  go_enter Try.func5, Try.ntmps5
  go_wp2_with fail
  refine (HS.out _).mono ?_
  rintro e w1 ⟨v1, rfl, ho1, hb1⟩
  go_wp2_with fail
  refine (HI.out _).mono ?_
  rintro e w2 ⟨v2, rfl, ho2, hb2⟩
  go_wp2_with fail
  refine (l_eqInt64S _ _ l l _ _ _ ho2 (owns_after ho1 hb2) (by omega) (by omega)).mono ?_
  rintro e w3 ⟨rfl, hq3⟩
  go_wp2_with fail
  refine (l_mark1 _ l.length _ _ _ (by omega) (owns_qt ho2 hq3)).mono ?_
  rintro e w4 ⟨rfl, ho4, hg4⟩
  go_wp2_with fail
  refine (l_held1 _ l.length _ _ (by omega) ho4).mono ?_
  rintro e w5 ⟨rfl, rfl⟩
  go_wp2_with fail
  refine (HI.out _).mono ?_
  rintro e w6 ⟨v6, rfl, ho6, hb6⟩
  have hk1 := keep1 ho1 ho2 hb2 hq3 hg4
  go_wp2_with fail
  refine (l_eqInt64S _ _ l l _ _ _ ho6 (owns_after hk1 hb6) (by omega) (by omega)).mono ?_
  rintro e w7 ⟨rfl, hq7⟩
  go_wp2_with fail
  refine (l_held1 _ l.length _ _ (by omega) (owns_qt (owns_after ho4 hb6) hq7)).mono ?_
  rintro e w8 ⟨rfl, rfl⟩
  go_wp2
  go_ret
  exact ⟨rfl, chain hb1 hb2 hq3 ho2 hg4 hb6 hq7⟩
end Go.Proofs.Ytdighfjoechbkaa

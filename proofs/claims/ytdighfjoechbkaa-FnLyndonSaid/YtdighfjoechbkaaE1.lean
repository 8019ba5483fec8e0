/- ShiftTo, of the program and of the reference, and its law. -/
import Derived.Test.YtdighfjoechbkaaW3
import Derived.Test.YtdighfjoechbkaaShelf
import Derived.Shelf.Vars
namespace Go.Proofs.Ytdighfjoechbkaa
open Go.ChangeShapes Go.WideShapes Go.RowKit
set_option linter.unusedVariables false
set_option linter.unusedSimpArgs false
set_option maxHeartbeats 4000000
set_option maxRecDepth 100000
theorem shf_list (s : ByteArray) (k : Nat) : (shf s k).toList = s.data.toList.drop k ++ s.data.toList.take k := by
  unfold shf
  rw [ByteArray.toList_eq, ByteArray.data_append, Array.toList_append, Lib.extract_data, Lib.extract_data]
  rw [List.take_of_length_le (by simp), List.drop_zero, Nat.sub_zero]
theorem occ_shf (u v : ByteArray) (k : Nat) (hs : v.size = u.size) (hk : k ≤ u.size) : Lib.occAt (u ++ u).data.toList v.data.toList k = ((shf u k).toList == v.toList) := by
  rw [shf_list, Bool.eq_iff_iff]
  unfold Lib.occAt
  rw [List.isPrefixOf_iff_prefix, List.prefix_iff_eq_take, beq_iff_eq, ByteArray.toList_eq v, ByteArray.data_append, Array.toList_append]
  have hl : v.data.toList.length = u.data.toList.length := by simpa using hs
  have hk' : k ≤ u.data.toList.length := by simpa using hk
  rw [List.drop_append_of_le_length hk', hl, List.take_append]
  have e1 : (u.data.toList.drop k).take u.data.toList.length = u.data.toList.drop k := List.take_of_length_le (by simp)
  have e2 : u.data.toList.length - (u.data.toList.drop k).length = k := by simp; omega
  rw [e1, e2]
  exact eq_comm
theorem shf_size (s : ByteArray) (k : Nat) (hk : k ≤ s.size) : (shf s k).toList.length = s.size := by
  rw [shf_list]; simp; omega
theorem shf_zero (s : ByteArray) : (shf s 0).toList = s.toList := by
  rw [shf_list, ByteArray.toList_eq]; simp
theorem shf_full (s : ByteArray) : (shf s s.size).toList = s.toList := by
  rw [shf_list, ByteArray.toList_eq]
  have : s.size = s.data.toList.length := by simp
  rw [this, List.drop_length, List.take_length]; rfl
/-- where v begins in u twice -/
def stI (u v : ByteArray) : Int := Lib.index (u ++ u).data.toList v.data.toList
def stV (u v : ByteArray) : Int := if (validB u && validB v) = true then if u.size = v.size ∧ 0 ≤ stI u v then stI u v else 0 else 0
def stC (u v : ByteArray) : Int := if (validB u && validB v) = true then if u.size = v.size ∧ 0 ≤ stI u v then 0 else 6 else 1
theorem st_bad {u v : ByteArray} (h : (validB u && validB v) = false) : stV u v = 0 ∧ stC u v = 1 := by simp only [stV, stC, h]; exact ⟨rfl, rfl⟩
theorem st_no {u v : ByteArray} (h : (validB u && validB v) = true) (h2 : ¬ (u.size = v.size ∧ 0 ≤ stI u v)) : stV u v = 0 ∧ stC u v = 6 := by
  exact ⟨by rw [stV, if_pos h, if_neg h2], by rw [stC, if_pos h, if_neg h2]⟩
theorem st_yes {u v : ByteArray} (h : (validB u && validB v) = true) (h2 : u.size = v.size ∧ 0 ≤ stI u v) : stV u v = stI u v ∧ stC u v = 0 := by
  exact ⟨by rw [stV, if_pos h, if_pos h2], by rw [stC, if_pos h, if_pos h2]⟩
theorem st_hit {u v : ByteArray} {k : Nat} (hs : v.size = u.size) (hk : k ≤ u.size) (h : ((shf u k).toList == v.toList) = true) (hno : ∀ j, j < k → ((shf u j).toList == v.toList) = false) : stI u v = k := by
  refine Lib.index_first (by simp; omega) (by rw [occ_shf u v k hs hk]; exact h) ?_
  intro j hj
  rw [occ_shf u v j hs (by omega)]; exact hno j hj
theorem st_miss {u v : ByteArray} (hs : v.size = u.size) (h0 : 0 < u.size) (hno : ∀ j, j < u.size → ((shf u j).toList == v.toList) = false) : stI u v = -1 := by
  refine Lib.index_none ?_
  intro j hj
  by_cases h1 : j < u.size
  · rw [occ_shf u v j hs (by omega)]; exact hno j h1
  · by_cases h2 : j = u.size
    · rw [h2, occ_shf u v _ hs (Nat.le_refl _), shf_full, ← shf_zero]; exact hno 0 h0
    · unfold Lib.occAt
      rw [Bool.eq_false_iff, Ne, List.isPrefixOf_iff_prefix]
      intro hp
      have := hp.length_le
      simp at this
      have e1 : u.data.size = u.size := rfl
      have e2 : v.data.size = v.size := rfl
      omega
theorem shf_ne {u v : ByteArray} {k : Nat} (hs : v.size ≠ u.size) (hk : k ≤ u.size) : ((shf u k).toList == v.toList) = false := by
  rw [beq_eq_false_iff_ne]
  intro h
  have := congrArg List.length h
  rw [shf_size u k hk, ByteArray.toList_eq] at this
  exact hs (by rw [this]; simp)
theorem i_ShiftTo (u v : ByteArray) (w : World) (m : Int) (hm : w.cell? ⟨0, 0, none⟩ = some (.int .i64 m)) (hu : u.size ≤ maxLen) (hv : v.size ≤ maxLen) : Calls Try.prog 38 #[.string u, .string v] w fun e w' => e = .returned (.tuple #[.int .i64 (stV u v), .int .i64 (stC u v)]) ∧ w = w' := by
  have HM := Lib.hid hm
  clear hm
  cases h1 : validB u <;> cases h2 : validB v
  case true.true =>
    have hle := validB_le h1
    have hle2 := validB_le h2
    have hb : (validB u && validB v) = true := by rw [h1, h2]; rfl
    have HN := Lib.hid (st_no hb)
    have HY := Lib.hid (st_yes hb)
    have hlt : (u ++ u).size < 4294967281 := by rw [ByteArray.size_append]; omega
    have HI : Hid (∀ w, w.cell? ⟨0, 0, none⟩ = some (.int .i64 m) → Calls Try.prog 69 #[.string (u ++ u), .string v] w fun e w' => e = .returned (.int .i64 (stI u v)) ∧ w' = w) := fun w h => Try.strings_Index _ _ m w hlt h
    clear hlt
    generalize stI u v = i at *
    by_cases hs : u.size = v.size
    · have hs1 : ((u.size : Int) != (v.size : Int)) = false := by simp [hs]
      by_cases hi : 0 ≤ i
      · have H := Lib.hid (HY.out ⟨hs, hi⟩)
        have HS := Lib.hid hs
        clear hs
        go_enter Try.func38, Try.ntmps38
        go_wp2_with (first | (go_at_call 60; refine (i_ValidWord _ _ (by assumption)).mono ?_; rintro e w' ⟨rfl, rfl⟩) | (go_at_call 69; refine (HI.out _ HM.out).mono ?_; rintro e w' ⟨rfl, rfl⟩))
        go_ret2
        exact ⟨ret_ii H.out.1.symm H.out.2.symm, rfl⟩
      · have H := Lib.hid (HN.out (fun h => hi h.2))
        have HS := Lib.hid hs
        clear hs
        have hi2 : i < 0 := by omega
        go_enter Try.func38, Try.ntmps38
        go_wp2_with (first | (go_at_call 60; refine (i_ValidWord _ _ (by assumption)).mono ?_; rintro e w' ⟨rfl, rfl⟩) | (go_at_call 69; refine (HI.out _ HM.out).mono ?_; rintro e w' ⟨rfl, rfl⟩))
        go_ret2
        exact ⟨ret_ii H.out.1.symm H.out.2.symm, rfl⟩
    · have H := Lib.hid (HN.out (fun h => hs h.1))
      have hs1 : ((u.size : Int) != (v.size : Int)) = true := by simp; omega
      go_enter Try.func38, Try.ntmps38
      go_wp2_with (first | (go_at_call 60; refine (i_ValidWord _ _ (by assumption)).mono ?_; rintro e w' ⟨rfl, rfl⟩) | (go_at_call 69; refine (HI.out _ HM.out).mono ?_; rintro e w' ⟨rfl, rfl⟩))
      go_ret2
      exact ⟨ret_ii H.out.1.symm H.out.2.symm, rfl⟩
  all_goals
    have H : Hid (stV u v = 0 ∧ stC u v = 1) := st_bad (by rw [h1, h2]; rfl)
    go_enter Try.func38, Try.ntmps38
    go_wp2_with (go_at_call 60; refine (i_ValidWord _ _ (by assumption)).mono ?_; rintro e w' ⟨rfl, rfl⟩)
    go_ret2
    exact ⟨ret_ii H.out.1.symm H.out.2.symm, rfl⟩
theorem s_ShiftTo (u v : ByteArray) (w : World) (hu : u.size ≤ maxLen) (hv : v.size ≤ maxLen) : Calls Try.prog 37 #[.string u, .string v] w fun e w' => e = .returned (.tuple #[.int .i64 (stV u v), .int .i64 (stC u v)]) ∧ Qt w w' := by
  cases h1 : validB u <;> cases h2 : validB v
  case true.true =>
    have hle := validB_le h1
    have hle2 := validB_le h2
    have hb : (validB u && validB v) = true := by rw [h1, h2]; rfl
    have HN := Lib.hid (st_no hb)
    have HY := Lib.hid (st_yes hb)
    have HHIT := Lib.hid (fun k => st_hit (u := u) (v := v) (k := k))
    have HMISS := Lib.hid (st_miss (u := u) (v := v))
    have HNE := Lib.hid (fun k => shf_ne (u := u) (v := v) (k := k))
    cases heq : (u.toList == v.toList)
    · have hne0 : Hid (((shf u 0).toList == v.toList) = false) := by show _ = _; rw [shf_zero]; exact heq
      have hpos : Hid (v.size = u.size → 0 < u.size) := by
        intro hs
        rcases Nat.eq_zero_or_pos u.size with h0 | h0
        · exfalso
          have e1 : u.toList = [] := List.eq_nil_of_length_eq_zero (by rw [ByteArray.toList_eq]; simpa using h0)
          have e2 : v.toList = [] := List.eq_nil_of_length_eq_zero (by rw [ByteArray.toList_eq]; simpa [hs] using h0)
          rw [e1, e2] at heq
          cases heq
        · exact h0
      go_enter Try.func37, Try.ntmps37
      go_wp2_with (go_at_call 58; refine (s_l01Ok _ _ (by assumption)).mono ?_; rintro e w' ⟨rfl, rfl⟩)
      go_loopw [6] (fun i wr => Qt w wr ∧ ∃ k : Nat, 1 ≤ k ∧ (k ≤ u.size ∨ k = 1) ∧ i = .int .i64 k ∧ ∀ j, j < k → j ≤ u.size → ((shf u j).toList == v.toList) = false) (fun i _ => u.size + 1 - (intOf i).toNat)
      case atStart =>
        refine ⟨Qt.refl _, 1, by omega, by omega, rfl, fun j hj _ => ?_⟩
        have e0 : j = 0 := by omega
        rw [e0]
        exact hne0.out
      case round =>
        obtain ⟨hq, k, hk1, hk, rfl, hall⟩ := hrel
        have HA := Lib.hid hall
        have HQ := Lib.hid hq
        clear hall hq
        by_cases hlt : k < u.size
        · clear hk
          cases ht : ((shf u k).toList == v.toList)
          · have HNX : Hid (∀ j, j < k + 1 → j ≤ u.size → ((shf u j).toList == v.toList) = false) := by
              intro j hj hju
              by_cases he : j = k
              · subst he; exact ht
              · exact HA.out j (by omega) hju
            go_wp2_with (go_at_call 68; refine (s_l01Shift _ _ _ (by assumption) (by omega)).mono ?_; rintro e w' ⟨rfl, hq⟩)
            go_roundw
            case rel => exact ⟨HQ.out.trans (by assumption), k + 1, by omega, by omega, by go_num, HNX.out⟩
            case measure => first | (simp [intOf]; done) | (simp [intOf]; omega)
          · have HF : Hid (stV u v = k ∧ stC u v = 0) := by
              have hs : v.size = u.size := by
                by_cases hs : v.size = u.size
                · exact hs
                · have := HNE.out k hs (by omega)
                  rw [ht] at this; cases this
              have hi := HHIT.out k hs (by omega) ht (fun j hj => HA.out j hj (by omega))
              have := HY.out ⟨hs.symm, by rw [hi]; omega⟩
              rw [hi] at this
              exact this
            go_wp2_with (go_at_call 68; refine (s_l01Shift _ _ _ (by assumption) (by omega)).mono ?_; rintro e w' ⟨rfl, hq⟩)
            go_ret2
            exact ⟨ret_ii HF.out.1.symm HF.out.2.symm, HQ.out.trans (by assumption)⟩
        · have HF : Hid (stV u v = 0 ∧ stC u v = 6) := by
            refine HN.out (fun h => ?_)
            have hp := hpos.out h.1.symm
            have hi := HMISS.out h.1.symm hp (fun j hj => HA.out j (by omega) (by omega))
            have := h.2
            rw [hi] at this
            exact absurd this (by decide)
          clear hk
          go_wp2
          go_ret2
          exact ⟨ret_ii HF.out.1.symm HF.out.2.symm, HQ.out⟩
    · have HF : Hid (stV u v = 0 ∧ stC u v = 0) := by
        have hs : v.size = u.size := by
          have h := beq_iff_eq.1 heq
          have h2 := congrArg List.length h
          rw [ByteArray.toList_eq, ByteArray.toList_eq] at h2
          simpa using h2.symm
        have hi := HHIT.out 0 hs (by omega) (by rw [shf_zero]; exact heq) (fun j hj => absurd hj (Nat.not_lt_zero _))
        have := HY.out ⟨hs.symm, by rw [hi]; omega⟩
        rw [hi] at this
        exact this
      go_enter Try.func37, Try.ntmps37
      go_wp2_with (go_at_call 58; refine (s_l01Ok _ _ (by assumption)).mono ?_; rintro e w' ⟨rfl, rfl⟩)
      go_ret2
      exact ⟨ret_ii HF.out.1.symm HF.out.2.symm, Qt.refl _⟩
  all_goals
    have H : Hid (stV u v = 0 ∧ stC u v = 1) := st_bad (by rw [h1, h2]; rfl)
    go_enter Try.func37, Try.ntmps37
    go_wp2_with (go_at_call 58; refine (s_l01Ok _ _ (by assumption)).mono ?_; rintro e w' ⟨rfl, rfl⟩)
    go_ret2
    exact ⟨ret_ii H.out.1.symm H.out.2.symm, Qt.refl _⟩
/-- the library's own variable holds some integer -/
theorem maxlen_cell {w : World} (h : w.ShapedOpen Try.prog) : ∃ m, w.cell? ⟨0, 0, none⟩ = some (.int .i64 m) :=
  Go.Proofs.cell_of_shapedOpen_int (P := Try.prog) (g := 0) (t := 3) (zero := #[.int .i64 0]) h (of_decide_eq_true (by kernel_rfl)) (by kernel_rfl) rfl (by kernel_rfl) (by kernel_rfl) Try.underlying3
theorem qt_cell {w w' : World} (h : Qt w w') (a : Addr) : w'.cell? a = w.cell? a := by
  obtain ⟨q, rfl⟩ := h; simp
theorem walk_FnExactShiftTo (u v : ByteArray) (hu : u.size ≤ maxLen) (hv : v.size ≤ maxLen) (w : World) (hsh : w.ShapedOpen Try.prog) : Calls Try.prog 8 #[.string u, .string v] w fun e w' => e = .returned (.bool true) ∧ Below w.heap.size w w' := by
  have hu' : u.size ≤ 9223372036854775807 := by unfold maxLen at hu; omega
  have hv' : v.size ≤ 9223372036854775807 := by unfold maxLen at hv; omega
  obtain ⟨m, hm⟩ := maxlen_cell hsh
  have HM := Lib.hid hm
  clear hm hsh
  by_cases hbig : 1048576 < u.size
  · go_enter Try.func8, Try.ntmps8
    go_wp2
    go_ret
    exact ⟨rfl, Below.refl _ _⟩
  by_cases hbig2 : 1048576 < v.size
  · go_enter Try.func8, Try.ntmps8
    go_wp2
    go_ret
    exact ⟨rfl, Below.refl _ _⟩
  go_enter Try.func8, Try.ntmps8
  go_wp2_with (first | (go_at_call 37; refine (s_ShiftTo _ _ _ (by assumption) (by assumption)).mono ?_; rintro e w1 ⟨rfl, hq1⟩) | (go_at_call 38; refine (i_ShiftTo _ _ _ m (by rw [qt_cell hq1]; exact HM.out) (by assumption) (by assumption)).mono ?_; rintro e w' ⟨rfl, rfl⟩))
  go_ret
  exact ⟨rfl, hq1.below _⟩
end Go.Proofs.Ytdighfjoechbkaa

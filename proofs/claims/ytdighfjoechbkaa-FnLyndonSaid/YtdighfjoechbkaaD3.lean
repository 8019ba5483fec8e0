/- RootOf, of the program and of the reference, and its law. -/
import Derived.Test.YtdighfjoechbkaaD2
namespace Go.Proofs.Ytdighfjoechbkaa
open Go.ChangeShapes Go.WideShapes Go.RowKit
set_option linter.unusedVariables false
set_option linter.unusedSimpArgs false
set_option maxHeartbeats 2000000
set_option maxRecDepth 100000
theorem ret_sii {a b : ByteArray} {c d e f : Int} (h : a = b) (h' : c = d) (h'' : e = f) : Ending.returned (.tuple #[.string a, .int .i64 c, .int .i64 e]) = .returned (.tuple #[.string b, .int .i64 d, .int .i64 f]) := by rw [h, h', h'']
theorem i_size_same (s : ByteArray) (w : World) : Calls Try.prog 64 #[.string s] w fun e w' => e = .returned (.int .i64 s.size) ∧ w' = w :=
  (i_size s w).mono fun e w' ⟨h, h'⟩ => ⟨h, h'.symm⟩
theorem pdTo_mem (s : ByteArray) : ∀ k, k ≤ s.size + 1 → ∀ b ∈ pdTo s k, 1 ≤ b ∧ b ≤ s.size
  | 0, _, b, h => by simp [pdTo] at h
  | k + 1, hk, b, h => by
    rw [pdTo] at h
    by_cases hc : k ≠ 0 ∧ pdB s k = true
    · rw [if_pos hc, List.mem_append] at h
      rcases h with h | h
      · exact pdTo_mem s k (by omega) b h
      · have := List.mem_singleton.1 h
        have := hc.1
        omega
    · rw [if_neg hc] at h
      exact pdTo_mem s k (by omega) b h
/-- the first period that divides the length -/
def rtP (s : ByteArray) : Option Int := (pdTo s (s.size + 1)).find? fun p => (s.size : Int) % p == 0
def rtS (s : ByteArray) : ByteArray := if validB s = true then match rtP s with | some p => s.extract 0 p.toNat | none => ⟨#[]⟩ else ⟨#[]⟩
def rtK (s : ByteArray) : Int := if validB s = true then match rtP s with | some p => (s.size : Int) / p | none => 0 else 0
def rtC (s : ByteArray) : Int := if validB s = true then match rtP s with | some p => 0 | none => 4 else 1
theorem rt_bad {s : ByteArray} (h : validB s = false) : rtS s = ⟨#[]⟩ ∧ rtK s = 0 ∧ rtC s = 1 := by simp [rtS, rtK, rtC, h]
theorem rt_none {s : ByteArray} (h : validB s = true) (h2 : rtP s = none) : rtS s = ⟨#[]⟩ ∧ rtK s = 0 ∧ rtC s = 4 := by simp [rtS, rtK, rtC, h, h2]
theorem rt_some {s : ByteArray} {p : Nat} (h : validB s = true) (h2 : rtP s = some (p : Int)) : rtS s = s.extract 0 p ∧ rtK s = (s.size : Int) / p ∧ rtC s = 0 := by simp [rtS, rtK, rtC, h, h2]
theorem find_at {l : List Int} {f : Int → Bool} {k : Nat} {x : Int} (h : ∀ t, t < k → ∀ y, l[t]? = some y → f y = false) (hk : l[k]? = some x) (hx : f x = true) : l.find? f = some x := by
  induction l generalizing k with
  | nil => simp at hk
  | cons a l ih =>
    cases k with
    | zero => simp at hk; subst hk; simp [List.find?, hx]
    | succ k =>
      have h0 := h 0 (by omega) a rfl
      rw [List.find?_cons, h0]
      exact ih (k := k) (fun t ht y hy => h (t + 1) (Nat.succ_lt_succ ht) y (by simpa using hy)) (by simpa using hk)
theorem find_end {l : List Int} {f : Int → Bool} (h : ∀ t, t < l.length → ∀ y, l[t]? = some y → f y = false) : l.find? f = none := by
  rw [List.find?_eq_none]
  intro x hx
  obtain ⟨t, ht, rfl⟩ := List.getElem_of_mem hx
  rw [h t ht _ (List.getElem?_eq_getElem ht)]; decide
theorem rt_ex {s : ByteArray} (h : 1 ≤ s.size) : rtP s ≠ none := by
  intro hn
  unfold rtP at hn
  rw [List.find?_eq_none] at hn
  have hm : (s.size : Int) ∈ pdTo s (s.size + 1) := by rw [← per_all s h]; simp
  have := hn _ hm
  simp at this
theorem s_RootOf (s : ByteArray) (w : World) (hs : s.size ≤ maxLen) : Calls Try.prog 23 #[.string s] w fun e w' => e = .returned (.tuple #[.string (rtS s), .int .i64 (rtK s), .int .i64 (rtC s)]) ∧ Below w.heap.size w w' := by
  cases h1 : validB s
  · have H := Lib.hid (rt_bad h1)
    go_enter Try.func23, Try.ntmps23
    go_wp2_with (go_at_call 58; refine (s_l01Ok _ _ (by assumption)).mono ?_; rintro e w' ⟨rfl, rfl⟩)
    go_ret3
    exact ⟨ret_sii H.out.1.symm H.out.2.1.symm H.out.2.2.symm, Below.refl _ _⟩
  have hle := validB_le h1
  by_cases h0 : s.size = 0
  · have H : Hid (rtS s = ⟨#[]⟩ ∧ rtK s = 0 ∧ rtC s = 4) := rt_none h1 (by unfold rtP; rw [(per_none s h0).1]; rfl)
    have hb : ((s.size : Int) == 0) = true := by rw [beq_iff_eq]; omega
    clear h0
    go_enter Try.func23, Try.ntmps23
    go_wp2_with (go_at_call 58; refine (s_l01Ok _ _ (by assumption)).mono ?_; rintro e w' ⟨rfl, rfl⟩)
    go_ret3
    exact ⟨ret_sii H.out.1.symm H.out.2.1.symm H.out.2.2.symm, Below.refl _ _⟩
  have hb : ((s.size : Int) == 0) = false := by rw [beq_eq_false_iff_ne]; omega
  have HEX := Lib.hid (rt_ex (s := s) (by omega))
  have HSOME := Lib.hid (fun p => rt_some (p := p) h1)
  have HMEM := Lib.hid (pdTo_mem s (s.size + 1) (Nat.le_refl _))
  have hpl := pdTo_len s (s.size + 1)
  have HP : Hid (rtP s = (pdTo s (s.size + 1)).find? fun p => (s.size : Int) % p == 0) := rfl
  go_enter Try.func23, Try.ntmps23
  go_wp2_with (first | (go_at_call 58; refine (s_l01Ok _ _ (by assumption)).mono ?_; rintro e w' ⟨rfl, rfl⟩) | (go_at_call 62; refine (s_l01Periods _ _ (by omega)).mono ?_; rintro e w1 ⟨g, cap, rfl, ho, hbel⟩))
  generalize pdTo s (s.size + 1) = ps at *
  have HO := Lib.hid ho
  clear ho
  go_loop [6] (fun i => ∃ k : Nat, k ≤ ps.length ∧ i = .int .i64 k ∧ ∀ t, t < k → ∀ y, ps[t]? = some y → ((s.size : Int) % y == 0) = false) (fun i => ps.length - (intOf i).toNat)
  case atStart => exact ⟨0, by omega, rfl, fun t ht => by omega⟩
  case round =>
    obtain ⟨k, hk, rfl, hall⟩ := hrel
    have HA := Lib.hid hall
    clear hall
    by_cases hlt : k < ps.length
    · obtain ⟨b, hbk⟩ : ∃ b, ps[k]? = some b := ⟨_, List.getElem?_eq_getElem hlt⟩
      have hcell : w1.cell? ⟨g, k, none⟩ = some (.int .i64 b) := by rw [HO.out.cellAt k (by omega)]; simp [hbk]
      obtain ⟨hb1, hb2⟩ := HMEM.out b (List.mem_of_getElem? hbk)
      obtain ⟨p, rfl⟩ := Int.eq_ofNat_of_zero_le (show 0 ≤ b by omega)
      have hin : ((k : Nat) : Int) < ps.length := by omega
      have hq1 : 0 ≤ (s.size : Int) / (p : Int) := Int.ediv_nonneg (by omega) (by omega)
      have hq2 : (s.size : Int) / (p : Int) ≤ 2000 := Int.le_trans (Int.ediv_le_self _ (by omega)) (by omega)
      have HBK := Lib.hid hbk
      clear hbk
      cases ht : ((s.size : Int) % (p : Int) == 0)
      · have HN : Hid (∀ t, t < k + 1 → ∀ y, ps[t]? = some y → ((s.size : Int) % y == 0) = false) := by
          intro t hlt2 y hy
          by_cases he : t = k
          · subst he
            have := HBK.out.symm.trans hy
            injection this with this
            subst this
            exact ht
          · exact HA.out t (by omega) y hy
        go_wp2
        go_round
        case rel => exact ⟨k + 1, by omega, by go_num, HN.out⟩
        case measure => first | (simp [intOf]; done) | (simp [intOf]; omega)
      · have HF := Lib.hid (HSOME.out p (by rw [HP.out]; exact find_at HA.out HBK.out ht))
        go_wp2
        go_quiet (fail)
        go_wp2
        go_ret3
        exact ⟨ret_sii HF.out.1.symm HF.out.2.1.symm HF.out.2.2.symm, below_drewN hbel _⟩
    · have ek : k = ps.length := by omega
      subst ek
      exact absurd (by rw [HP.out]; exact find_end HA.out) HEX.out
theorem i_RootOf (s : ByteArray) (w : World) (hs : s.size ≤ maxLen) : Calls Try.prog 24 #[.string s] w fun e w' => e = .returned (.tuple #[.string (rtS s), .int .i64 (rtK s), .int .i64 (rtC s)]) ∧ Below w.heap.size w w' := by
  cases h1 : validB s
  · have H := Lib.hid (rt_bad h1)
    go_enter Try.func24, Try.ntmps24
    go_wp2_with (go_at_call 60; refine (i_ValidWord _ _ (by assumption)).mono ?_; rintro e w' ⟨rfl, rfl⟩)
    go_ret3
    exact ⟨ret_sii H.out.1.symm H.out.2.1.symm H.out.2.2.symm, Below.refl _ _⟩
  have hle := validB_le h1
  have HNONE := Lib.hid (rt_none h1)
  have HSOME := Lib.hid (fun p => rt_some (p := p) h1)
  have HMEM := Lib.hid (pdTo_mem s (s.size + 1) (Nat.le_refl _))
  have hpl := pdTo_len s (s.size + 1)
  have HP : Hid (rtP s = (pdTo s (s.size + 1)).find? fun p => (s.size : Int) % p == 0) := rfl
  go_enter Try.func24, Try.ntmps24
  go_wp2_with (first | (go_at_call 60; refine (i_ValidWord _ _ (by assumption)).mono ?_; rintro e w' ⟨rfl, rfl⟩) | (go_at_call 63; refine (i_periods _ _ (by omega)).mono ?_; rintro e w1 ⟨g, cap, rfl, ho, hbel⟩))
  generalize pdTo s (s.size + 1) = ps at *
  have HO := Lib.hid ho
  clear ho
  go_loop [6, 13] (fun _ i => ∃ k : Nat, k ≤ ps.length ∧ i = .int .i64 k ∧ ∀ t, t < k → ∀ y, ps[t]? = some y → ((s.size : Int) % y == 0) = false) (fun _ i => ps.length - (intOf i).toNat)
  case atStart => exact ⟨0, by omega, rfl, fun t ht => by omega⟩
  case round =>
    obtain ⟨k, hk, rfl, hall⟩ := hrel
    have HA := Lib.hid hall
    clear hall
    by_cases hlt : k < ps.length
    · obtain ⟨b, hbk⟩ : ∃ b, ps[k]? = some b := ⟨_, List.getElem?_eq_getElem hlt⟩
      have hcell : w1.cell? ⟨g, k, none⟩ = some (.int .i64 b) := by rw [HO.out.cellAt k (by omega)]; simp [hbk]
      obtain ⟨hb1, hb2⟩ := HMEM.out b (List.mem_of_getElem? hbk)
      obtain ⟨p, rfl⟩ := Int.eq_ofNat_of_zero_le (show 0 ≤ b by omega)
      have hin : ((k : Nat) : Int) < ps.length := by omega
      have hq1 : 0 ≤ (s.size : Int) / (p : Int) := Int.ediv_nonneg (by omega) (by omega)
      have hq2 : (s.size : Int) / (p : Int) ≤ 2000 := Int.le_trans (Int.ediv_le_self _ (by omega)) (by omega)
      have HBK := Lib.hid hbk
      clear hbk
      cases ht : ((s.size : Int) % (p : Int) == 0)
      · have HN : Hid (∀ t, t < k + 1 → ∀ y, ps[t]? = some y → ((s.size : Int) % y == 0) = false) := by
          intro t hlt2 y hy
          by_cases he : t = k
          · subst he
            have := HBK.out.symm.trans hy
            injection this with this
            subst this
            exact ht
          · exact HA.out t (by omega) y hy
        go_wp2_with (go_at_call 64; refine (i_size _ _).mono ?_; rintro e w' ⟨rfl, rfl⟩)
        go_round
        case rel => exact ⟨k + 1, by omega, by go_num, HN.out⟩
        case measure => first | (simp [intOf]; done) | (simp [intOf]; omega)
      · have HF := Lib.hid (HSOME.out p (by rw [HP.out]; exact find_at HA.out HBK.out ht))
        go_wp2_with (go_at_call 64; refine (i_size _ _).mono ?_; rintro e w' ⟨rfl, rfl⟩)
        go_quiet ((go_at_call 64; exact Calls.quiet_of_same (i_size_same _ _)))
        go_wp2
        go_ret3
        exact ⟨ret_sii HF.out.1.symm HF.out.2.1.symm HF.out.2.2.symm, below_drewN hbel _⟩
    · have ek : k = ps.length := by omega
      have HF := Lib.hid (HNONE.out (by rw [HP.out]; subst ek; exact find_end HA.out))
      clear ek
      go_wp2
      go_ret3
      exact ⟨ret_sii HF.out.1.symm HF.out.2.1.symm HF.out.2.2.symm, hbel⟩
theorem walk_FnExactRootOf (s : ByteArray) (hs : s.size ≤ maxLen) (w : World) : Calls Try.prog 4 #[.string s] w fun e w' => e = .returned (.bool true) ∧ Below w.heap.size w w' := by
  have hs' : s.size ≤ 9223372036854775807 := by unfold maxLen at hs; omega
  by_cases hbig : 1048576 < s.size
  · go_enter Try.func4, Try.ntmps4
    go_wp2
    go_ret
    exact ⟨rfl, Below.refl _ _⟩
  · go_enter Try.func4, Try.ntmps4
    go_wp2_with (first | (go_at_call 23; refine (s_RootOf _ _ hs).mono ?_; rintro e w' ⟨rfl, hq1⟩) | (go_at_call 24; refine (i_RootOf _ _ hs).mono ?_; rintro e w' ⟨rfl, hq2⟩))
    go_ret
    exact ⟨rfl, hq1.trans (hq2.mono hq1.size)⟩
end Go.Proofs.Ytdighfjoechbkaa

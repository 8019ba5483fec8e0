/- WordOfRuns, of the program and of the reference, and its law. -/
import Derived.Test.YtdighfjoechbkaaM1
import Derived.Test.YtdighfjoechbkaaE2
namespace Go.Proofs.Ytdighfjoechbkaa
open Go.ChangeShapes Go.WideShapes Go.RowKit
set_option linter.unusedVariables false
set_option linter.unusedSimpArgs false
set_option maxHeartbeats 4000000
set_option maxRecDepth 100000
/-- a run whose text is no letter; a run with a count below 1 -/
def p1B (r : ByteArray × Int) : Bool := !(decide (r.1.size = 1) && validB r.1)
def p2B (r : ByteArray × Int) : Bool := decide (r.2 < 1)
theorem p1_size {a : ByteArray} {x : Int} (h : a.size ≠ 1) : p1B (a, x) = true := by simp [p1B, h]
theorem p1_one {a : ByteArray} {x : Int} (h : a.size = 1) (h0 : 0 < a.size) : p1B (a, x) = !(letB (a[0].toNat : Int)) := by
  have hl : a.data.toList.length = 1 := by simpa using h
  have e : a.data.toList = [a[0]] := by
    cases hd : a.data.toList with
    | nil => rw [hd] at hl; cases hl
    | cons c r =>
      rw [hd] at hl
      have hr : r = [] := List.eq_nil_of_length_eq_zero (by simpa using hl)
      subst hr
      have := get_opt a 0 h0
      rw [hd] at this
      simpa using this
  have hle : a.size ≤ 2000 := by omega
  unfold p1B
  rw [allL_le _ hle, allL, e]
  simp [h]
theorem i_WordOfRuns_1 (a : ByteArray) (x : Int) (w : World) (hs : a.size ≤ 9223372036854775807) : Calls Try.prog 75 #[.agg #[.string a, .int .i64 x]] w fun e w' => e = .returned (.bool (p1B (a, x))) ∧ Below w.heap.size w w' := by
  by_cases h : a.size = 1
  · have h0 : 0 < a.size := by omega
    have HP := Lib.hid (p1_one (x := x) h h0)
    have hb : ((a.size : Int) != 1) = false := by simp [h]
    have h00 : (0 : Int) < a.size := by omega
    clear h
    go_enter Try.func75, Try.ntmps75
    go_wp2_with (go_at_call 76; refine (i_isLetter _ _).mono ?_; rintro e w' ⟨rfl, rfl⟩)
    go_ret
    exact ⟨ret_bool HP.out.symm, (by repeat (first | exact Below.refl _ _ | assumption | apply Below.drew | (refine Below.alloc ?_ (by first | (simp; done) | (simp; omega)) _) | (refine Below.setCell ?_ (by first | (simp; done) | (simp; omega)) _)))⟩
  · have HP := Lib.hid (p1_size (x := x) h)
    have hb : ((a.size : Int) != 1) = true := by simp; omega
    go_enter Try.func75, Try.ntmps75
    go_wp2
    go_ret
    exact ⟨ret_bool HP.out.symm, (by repeat (first | exact Below.refl _ _ | assumption | apply Below.drew | (refine Below.alloc ?_ (by first | (simp; done) | (simp; omega)) _) | (refine Below.setCell ?_ (by first | (simp; done) | (simp; omega)) _)))⟩
theorem i_WordOfRuns_2 (a : ByteArray) (x : Int) (w : World) (hs : a.size ≤ 9223372036854775807) : Calls Try.prog 77 #[.agg #[.string a, .int .i64 x]] w fun e w' => e = .returned (.bool (p2B (a, x))) ∧ Below w.heap.size w w' := by
  go_enter Try.func77, Try.ntmps77
  go_wp2
  go_ret
  exact ⟨rfl, (by repeat (first | exact Below.refl _ _ | assumption | apply Below.drew | (refine Below.alloc ?_ (by first | (simp; done) | (simp; omega)) _) | (refine Below.setCell ?_ (by first | (simp; done) | (simp; omega)) _)))⟩
theorem f_IndexFunc_1 (l : List (ByteArray × Int)) (g cap base : Nat) (w : World) (hn : l.length ≤ 1048576) (hsz : ∀ r ∈ l, r.1.size ≤ 9223372036854775807) (ho : w.ownsRow base 66 2 (.slice (some ⟨g, 0, none⟩) l.length cap) l.length (rnV l)) :
    Calls Try.prog 97 #[.slice (some ⟨g, 0, none⟩) l.length cap, .func (.func 75) #[] #[]] w fun e w' => (∃ n : Int, e = .returned (.int .i64 n) ∧ decide (0 ≤ n) = l.any p1B) ∧ Below w.heap.size w w' := by
  have hgl := (ho.lt g rfl).2
  have HO := Lib.hid ho
  have HSZ := Lib.hid hsz
  clear ho hsz
  go_enter Try.func97, Try.ntmps97
  go_wp2
  go_loopw [5, 8] (fun _ i wr => Below w.heap.size w wr ∧ ∃ k : Nat, k ≤ l.length ∧ i = .int .i64 k ∧ ∀ t, t < k → p1B (l.getD t (⟨#[]⟩, 0)) = false) (fun _ i _ => l.length - (intOf i).toNat)
  case atStart => exact ⟨Below.refl _ _, 0, by omega, rfl, fun t ht => by omega⟩
  case round =>
    obtain ⟨hb, k, hk, rfl, hall⟩ := hrel
    have HA := Lib.hid hall
    clear hall
    by_cases hlt : k < l.length
    · have hown := owns_below HO.out hb (fun j hj => by injection hj with hj; subst hj; exact hgl)
      have hc0 : wr.cell? ⟨g, k * 2, none⟩ = some (.string (l.getD k (⟨#[]⟩, 0)).1) := by rw [hown.cellAt _ (by omega)]; exact rnV_0 l k hlt
      have hc1 : wr.cell? ⟨g, k * 2 + 1, none⟩ = some (.int .i64 (l.getD k (⟨#[]⟩, 0)).2) := by rw [hown.cellAt _ (by omega)]; exact rnV_1 l k hlt
      have hs1 : (l.getD k (⟨#[]⟩, 0)).1.size ≤ 9223372036854775807 := by
        rw [List.getD, List.getElem?_eq_getElem hlt]; exact HSZ.out _ (List.getElem_mem hlt)
      have HP := Lib.hid (fun w => i_WordOfRuns_1 (l.getD k (⟨#[]⟩, 0)).1 (l.getD k (⟨#[]⟩, 0)).2 w hs1)
      have HB := Lib.hid hb
      have hin : ((k : Nat) : Int) < l.length := by omega
      clear hown hb
      cases hp : p1B (l.getD k (⟨#[]⟩, 0))
      · have HN : Hid (∀ t, t < k + 1 → p1B (l.getD t (⟨#[]⟩, 0)) = false) := by
          intro t ht
          by_cases he : t = k
          · subst he; exact hp
          · exact HA.out t (by omega)
        have HP2 : Hid (∀ w, Calls Try.prog 75 #[.agg #[.string (l.getD k (⟨#[]⟩, 0)).1, .int .i64 (l.getD k (⟨#[]⟩, 0)).2]] w fun e w' => e = .returned (.bool false) ∧ Below w.heap.size w w') := by
          intro w
          have h := HP.out w
          rwa [show ((l.getD k (⟨#[]⟩, 0)).1, (l.getD k (⟨#[]⟩, 0)).2) = l.getD k (⟨#[]⟩, 0) from rfl, hp] at h
        clear HP hp
        generalize (l.getD k (⟨#[]⟩, 0)).1 = x1 at *
        generalize (l.getD k (⟨#[]⟩, 0)).2 = x2 at *
        go_wp2_with (go_at_call 75; refine (HP2.out _).mono ?_; rintro e w2 ⟨rfl, hb4⟩)
        go_roundw
        case rel => exact ⟨HB.out.trans (hb4.mono HB.out.size), k + 1, by omega, by go_num, HN.out⟩
        case measure => first | (simp [intOf]; done) | (simp [intOf]; omega)
      · have HF : Hid (decide (0 ≤ (k : Int)) = l.any p1B) := by
          show _ = _
          rw [List.any_eq_true.2 ⟨l.getD k (⟨#[]⟩, 0), by rw [List.getD, List.getElem?_eq_getElem hlt]; exact List.getElem_mem hlt, hp⟩]
          simp
        have HP2 : Hid (∀ w, Calls Try.prog 75 #[.agg #[.string (l.getD k (⟨#[]⟩, 0)).1, .int .i64 (l.getD k (⟨#[]⟩, 0)).2]] w fun e w' => e = .returned (.bool true) ∧ Below w.heap.size w w') := by
          intro w
          have h := HP.out w
          rwa [show ((l.getD k (⟨#[]⟩, 0)).1, (l.getD k (⟨#[]⟩, 0)).2) = l.getD k (⟨#[]⟩, 0) from rfl, hp] at h
        clear HP hp
        generalize (l.getD k (⟨#[]⟩, 0)).1 = x1 at *
        generalize (l.getD k (⟨#[]⟩, 0)).2 = x2 at *
        go_wp2_with (go_at_call 75; refine (HP2.out _).mono ?_; rintro e w2 ⟨rfl, hb4⟩)
        go_ret
        exact ⟨⟨_, rfl, HF.out⟩, HB.out.trans (hb4.mono HB.out.size)⟩
    · have HF : Hid (decide (0 ≤ (-1 : Int)) = l.any p1B) := by
        show _ = _
        rw [show l.any p1B = false by
          rw [List.any_eq_false]
          intro r hr
          obtain ⟨t, ht, rfl⟩ := List.getElem_of_mem hr
          have := HA.out t (by omega)
          rw [List.getD, List.getElem?_eq_getElem ht] at this
          rw [show (some l[t]).getD (⟨#[]⟩, 0) = l[t] from rfl] at this
          rw [this]; decide]
        decide
      go_wp2
      go_ret
      exact ⟨⟨_, rfl, HF.out⟩, hb⟩
theorem f_ContainsFunc_1 (l : List (ByteArray × Int)) (g cap base : Nat) (w : World) (hn : l.length ≤ 1048576) (hsz : ∀ r ∈ l, r.1.size ≤ 9223372036854775807) (ho : w.ownsRow base 66 2 (.slice (some ⟨g, 0, none⟩) l.length cap) l.length (rnV l)) :
    Calls Try.prog 74 #[.slice (some ⟨g, 0, none⟩) l.length cap, .func (.func 75) #[] #[]] w fun e w' => e = .returned (.bool (l.any p1B)) ∧ Below w.heap.size w w' := by
  have HI := Lib.hid (f_IndexFunc_1 l g cap base w hn hsz ho)
  clear ho hsz
  go_enter Try.func74, Try.ntmps74
  go_wp2_with (go_at_call 97; refine (HI.out).mono ?_; rintro e w2 ⟨⟨n, rfl, hn2⟩, hb4⟩)
  go_ret
  exact ⟨ret_bool rfl, hb4⟩
theorem f_IndexFunc_2 (l : List (ByteArray × Int)) (g cap base : Nat) (w : World) (hn : l.length ≤ 1048576) (hsz : ∀ r ∈ l, r.1.size ≤ 9223372036854775807) (ho : w.ownsRow base 66 2 (.slice (some ⟨g, 0, none⟩) l.length cap) l.length (rnV l)) :
    Calls Try.prog 97 #[.slice (some ⟨g, 0, none⟩) l.length cap, .func (.func 77) #[] #[]] w fun e w' => (∃ n : Int, e = .returned (.int .i64 n) ∧ decide (0 ≤ n) = l.any p2B) ∧ Below w.heap.size w w' := by
  have hgl := (ho.lt g rfl).2
  have HO := Lib.hid ho
  have HSZ := Lib.hid hsz
  clear ho hsz
  go_enter Try.func97, Try.ntmps97
  go_wp2
  go_loopw [5, 8] (fun _ i wr => Below w.heap.size w wr ∧ ∃ k : Nat, k ≤ l.length ∧ i = .int .i64 k ∧ ∀ t, t < k → p2B (l.getD t (⟨#[]⟩, 0)) = false) (fun _ i _ => l.length - (intOf i).toNat)
  case atStart => exact ⟨Below.refl _ _, 0, by omega, rfl, fun t ht => by omega⟩
  case round =>
    obtain ⟨hb, k, hk, rfl, hall⟩ := hrel
    have HA := Lib.hid hall
    clear hall
    by_cases hlt : k < l.length
    · have hown := owns_below HO.out hb (fun j hj => by injection hj with hj; subst hj; exact hgl)
      have hc0 : wr.cell? ⟨g, k * 2, none⟩ = some (.string (l.getD k (⟨#[]⟩, 0)).1) := by rw [hown.cellAt _ (by omega)]; exact rnV_0 l k hlt
      have hc1 : wr.cell? ⟨g, k * 2 + 1, none⟩ = some (.int .i64 (l.getD k (⟨#[]⟩, 0)).2) := by rw [hown.cellAt _ (by omega)]; exact rnV_1 l k hlt
      have hs1 : (l.getD k (⟨#[]⟩, 0)).1.size ≤ 9223372036854775807 := by
        rw [List.getD, List.getElem?_eq_getElem hlt]; exact HSZ.out _ (List.getElem_mem hlt)
      have HP := Lib.hid (fun w => i_WordOfRuns_2 (l.getD k (⟨#[]⟩, 0)).1 (l.getD k (⟨#[]⟩, 0)).2 w hs1)
      have HB := Lib.hid hb
      have hin : ((k : Nat) : Int) < l.length := by omega
      clear hown hb
      cases hp : p2B (l.getD k (⟨#[]⟩, 0))
      · have HN : Hid (∀ t, t < k + 1 → p2B (l.getD t (⟨#[]⟩, 0)) = false) := by
          intro t ht
          by_cases he : t = k
          · subst he; exact hp
          · exact HA.out t (by omega)
        have HP2 : Hid (∀ w, Calls Try.prog 77 #[.agg #[.string (l.getD k (⟨#[]⟩, 0)).1, .int .i64 (l.getD k (⟨#[]⟩, 0)).2]] w fun e w' => e = .returned (.bool false) ∧ Below w.heap.size w w') := by
          intro w
          have h := HP.out w
          rwa [show ((l.getD k (⟨#[]⟩, 0)).1, (l.getD k (⟨#[]⟩, 0)).2) = l.getD k (⟨#[]⟩, 0) from rfl, hp] at h
        clear HP hp
        generalize (l.getD k (⟨#[]⟩, 0)).1 = x1 at *
        generalize (l.getD k (⟨#[]⟩, 0)).2 = x2 at *
        go_wp2_with (go_at_call 77; refine (HP2.out _).mono ?_; rintro e w2 ⟨rfl, hb4⟩)
        go_roundw
        case rel => exact ⟨HB.out.trans (hb4.mono HB.out.size), k + 1, by omega, by go_num, HN.out⟩
        case measure => first | (simp [intOf]; done) | (simp [intOf]; omega)
      · have HF : Hid (decide (0 ≤ (k : Int)) = l.any p2B) := by
          show _ = _
          rw [List.any_eq_true.2 ⟨l.getD k (⟨#[]⟩, 0), by rw [List.getD, List.getElem?_eq_getElem hlt]; exact List.getElem_mem hlt, hp⟩]
          simp
        have HP2 : Hid (∀ w, Calls Try.prog 77 #[.agg #[.string (l.getD k (⟨#[]⟩, 0)).1, .int .i64 (l.getD k (⟨#[]⟩, 0)).2]] w fun e w' => e = .returned (.bool true) ∧ Below w.heap.size w w') := by
          intro w
          have h := HP.out w
          rwa [show ((l.getD k (⟨#[]⟩, 0)).1, (l.getD k (⟨#[]⟩, 0)).2) = l.getD k (⟨#[]⟩, 0) from rfl, hp] at h
        clear HP hp
        generalize (l.getD k (⟨#[]⟩, 0)).1 = x1 at *
        generalize (l.getD k (⟨#[]⟩, 0)).2 = x2 at *
        go_wp2_with (go_at_call 77; refine (HP2.out _).mono ?_; rintro e w2 ⟨rfl, hb4⟩)
        go_ret
        exact ⟨⟨_, rfl, HF.out⟩, HB.out.trans (hb4.mono HB.out.size)⟩
    · have HF : Hid (decide (0 ≤ (-1 : Int)) = l.any p2B) := by
        show _ = _
        rw [show l.any p2B = false by
          rw [List.any_eq_false]
          intro r hr
          obtain ⟨t, ht, rfl⟩ := List.getElem_of_mem hr
          have := HA.out t (by omega)
          rw [List.getD, List.getElem?_eq_getElem ht] at this
          rw [show (some l[t]).getD (⟨#[]⟩, 0) = l[t] from rfl] at this
          rw [this]; decide]
        decide
      go_wp2
      go_ret
      exact ⟨⟨_, rfl, HF.out⟩, hb⟩
theorem f_ContainsFunc_2 (l : List (ByteArray × Int)) (g cap base : Nat) (w : World) (hn : l.length ≤ 1048576) (hsz : ∀ r ∈ l, r.1.size ≤ 9223372036854775807) (ho : w.ownsRow base 66 2 (.slice (some ⟨g, 0, none⟩) l.length cap) l.length (rnV l)) :
    Calls Try.prog 74 #[.slice (some ⟨g, 0, none⟩) l.length cap, .func (.func 77) #[] #[]] w fun e w' => e = .returned (.bool (l.any p2B)) ∧ Below w.heap.size w w' := by
  have HI := Lib.hid (f_IndexFunc_2 l g cap base w hn hsz ho)
  clear ho hsz
  go_enter Try.func74, Try.ntmps74
  go_wp2_with (go_at_call 97; refine (HI.out).mono ?_; rintro e w2 ⟨⟨n, rfl, hn2⟩, hb4⟩)
  go_ret
  exact ⟨ret_bool rfl, hb4⟩
/-- the run with a number -/
def rnA (l : List (ByteArray × Int)) (k : Nat) : ByteArray × Int := l.getD k (⟨#[]⟩, 0)
/-- two runs beside each other among the first k have the same letter -/
def dupT (l : List (ByteArray × Int)) : Nat → Bool
  | 0 => false
  | 1 => false
  | k + 2 => dupT l (k + 1) || ((rnA l (k + 1)).1.toList == (rnA l k).1.toList)
theorem dupT_hit {l : List (ByteArray × Int)} {k : Nat} (h : dupT l k = true) : ∀ d, dupT l (k + d) = true
  | 0 => h
  | d + 1 => by
    have ih := dupT_hit h d
    cases hk : k + d with
    | zero => rw [hk] at ih; cases ih
    | succ m =>
      rw [hk] at ih
      show dupT l (k + (d + 1)) = true
      rw [show k + (d + 1) = m + 2 by omega, dupT, ih]; rfl
/-- the word of the first k runs, if it isn't too long -/
def wrT (l : List (ByteArray × Int)) : Nat → Option ByteArray
  | 0 => some ⟨#[]⟩
  | k + 1 => match wrT l k with
    | some acc => if 2000 - (acc.size : Int) < (rnA l k).2 then none else some (acc ++ repS (rnA l k).1 (rnA l k).2.toNat)
    | none => none
theorem wrT_none {l : List (ByteArray × Int)} {k : Nat} (h : wrT l k = none) : ∀ d, wrT l (k + d) = none
  | 0 => h
  | d + 1 => by
    have ih := wrT_none h d
    show wrT l (k + d + 1) = none
    rw [wrT, ih]
theorem wrT_bad {l : List (ByteArray × Int)} {k : Nat} {acc : ByteArray} (h : wrT l k = some acc) (h2 : 2000 - (acc.size : Int) < (rnA l k).2) : wrT l (k + 1) = none := by
  rw [wrT, h]; exact if_pos h2
theorem wrT_ok {l : List (ByteArray × Int)} {k : Nat} {acc : ByteArray} (h : wrT l k = some acc) (h2 : ¬ 2000 - (acc.size : Int) < (rnA l k).2) : wrT l (k + 1) = some (acc ++ repS (rnA l k).1 (rnA l k).2.toNat) := by
  rw [wrT, h]; exact if_neg h2
def wrC (l : List (ByteArray × Int)) : Int := if l.any p1B = true then 1 else if l.any p2B = true then 2 else if dupT l l.length = true then 4 else if wrT l l.length = none then 3 else 0
def wrW (l : List (ByteArray × Int)) : ByteArray := if l.any p1B = true then ⟨#[]⟩ else if l.any p2B = true then ⟨#[]⟩ else if dupT l l.length = true then ⟨#[]⟩ else (wrT l l.length).getD ⟨#[]⟩
theorem wr1 {l : List (ByteArray × Int)} (h : l.any p1B = true) : wrW l = ⟨#[]⟩ ∧ wrC l = 1 := by simp only [wrW, wrC, h, if_true, and_self]
theorem wr2 {l : List (ByteArray × Int)} (h : l.any p1B = false) (h2 : l.any p2B = true) : wrW l = ⟨#[]⟩ ∧ wrC l = 2 := by simp only [wrW, wrC, h, h2, if_true, Bool.false_eq_true, if_false, and_self]
theorem wr4 {l : List (ByteArray × Int)} (h : l.any p1B = false) (h2 : l.any p2B = false) (h3 : dupT l l.length = true) : wrW l = ⟨#[]⟩ ∧ wrC l = 4 := by simp only [wrW, wrC, h, h2, h3, if_true, Bool.false_eq_true, if_false, and_self]
theorem wr3 {l : List (ByteArray × Int)} (h : l.any p1B = false) (h2 : l.any p2B = false) (h3 : dupT l l.length = false) (h4 : wrT l l.length = none) : wrW l = ⟨#[]⟩ ∧ wrC l = 3 := by simp only [wrW, wrC, h, h2, h3, h4, if_true, Bool.false_eq_true, if_false, Option.getD_none, and_self]
theorem wr0 {l : List (ByteArray × Int)} {acc : ByteArray} (h : l.any p1B = false) (h2 : l.any p2B = false) (h3 : dupT l l.length = false) (h4 : wrT l l.length = some acc) : wrW l = acc ∧ wrC l = 0 := by simp only [wrW, wrC, h, h2, h3, h4, Bool.false_eq_true, if_false, Option.getD_some, reduceCtorEq, and_self]
theorem any_at {l : List (ByteArray × Int)} {f : ByteArray × Int → Bool} (h : l.any f = false) {k : Nat} (hk : k < l.length) : f (rnA l k) = false := by
  rw [List.any_eq_false] at h
  have := h (rnA l k) (by rw [rnA, List.getD, List.getElem?_eq_getElem hk]; exact List.getElem_mem hk)
  simpa using this
theorem any_hit {l : List (ByteArray × Int)} {f : ByteArray × Int → Bool} {k : Nat} (hk : k < l.length) (h : f (rnA l k) = true) : l.any f = true :=
  List.any_eq_true.2 ⟨rnA l k, by rw [rnA, List.getD, List.getElem?_eq_getElem hk]; exact List.getElem_mem hk, h⟩
theorem any_none {l : List (ByteArray × Int)} {f : ByteArray × Int → Bool} (h : ∀ t, t < l.length → f (rnA l t) = false) : l.any f = false := by
  rw [List.any_eq_false]
  intro r hr
  obtain ⟨t, ht, rfl⟩ := List.getElem_of_mem hr
  have := h t ht
  rw [rnA, List.getD, List.getElem?_eq_getElem ht] at this
  rw [show (some l[t]).getD (⟨#[]⟩, 0) = l[t] from rfl] at this
  rw [this]; decide
theorem i_size_same (s : ByteArray) (w : World) : Calls Try.prog 64 #[.string s] w fun e w' => e = .returned (.int .i64 s.size) ∧ w' = w :=
  (i_size s w).mono fun e w' ⟨h, h'⟩ => ⟨h, h'.symm⟩
theorem p1_f {r : ByteArray × Int} (h : p1B r = false) : r.1.size = 1 ∧ validB r.1 = true := by
  simpa [p1B] using h
theorem p2_f {r : ByteArray × Int} (h : p2B r = false) : 1 ≤ r.2 := by
  simp [p2B] at h; omega
theorem repS_size (a : ByteArray) (t : Nat) : (repS a t).size = t * a.size := by
  show (Lib.repeatL a.data.toList t).toArray.size = _
  rw [List.size_toArray, rep_len]
theorem cell_0 {w : World} {base e g cap : Nat} {l : List (ByteArray × Int)} (h : w.ownsRow base e 2 (.slice (some ⟨g, 0, none⟩) l.length cap) l.length (rnV l)) {k : Nat} (hk : k < l.length) : w.cell? ⟨g, k * 2, none⟩ = some (.string (rnA l k).1) := by
  rw [h.cellAt _ (by omega)]; exact rnV_0 l k hk
theorem cell_1 {w : World} {base e g cap : Nat} {l : List (ByteArray × Int)} (h : w.ownsRow base e 2 (.slice (some ⟨g, 0, none⟩) l.length cap) l.length (rnV l)) {k : Nat} (hk : k < l.length) : w.cell? ⟨g, k * 2 + 1, none⟩ = some (.int .i64 (rnA l k).2) := by
  rw [h.cellAt _ (by omega)]; exact rnV_1 l k hk
theorem i_WordOfRuns (l : List (ByteArray × Int)) (g cap base : Nat) (w : World) (hn : l.length ≤ 1048576) (hsz : ∀ r ∈ l, r.1.size ≤ 1048576) (ho : w.ownsRow base 66 2 (.slice (some ⟨g, 0, none⟩) l.length cap) l.length (rnV l)) :
    Calls Try.prog 44 #[.slice (some ⟨g, 0, none⟩) l.length cap] w fun e w' => e = .returned (.tuple #[.string (wrW l), .int .i64 (wrC l)]) ∧ Below w.heap.size w w' := by
  have hgl := (ho.lt g rfl).2
  have hsz' : ∀ r ∈ l, r.1.size ≤ 9223372036854775807 := fun r hr => by have := hsz r hr; omega
  have H1 := Lib.hid (fun base w => f_ContainsFunc_1 l g cap base w hn hsz')
  have H2 := Lib.hid (fun base w => f_ContainsFunc_2 l g cap base w hn hsz')
  have HO := Lib.hid ho
  clear hsz' hsz ho
  cases h1 : l.any p1B
  case true =>
    have HF := Lib.hid (wr1 h1)
    rw [h1] at H1
    clear h1
    go_enter Try.func44, Try.ntmps44
    go_wp2_with fail
    refine (H1.out _ _ HO.out).mono ?_
    rintro e w1 ⟨rfl, hb1⟩
    go_wp2
    go_ret2
    exact ⟨ret_si HF.out.1.symm HF.out.2.symm, hb1⟩
  cases h2 : l.any p2B
  case true =>
    have HF := Lib.hid (wr2 h1 h2)
    rw [h1] at H1
    rw [h2] at H2
    clear h1 h2
    go_enter Try.func44, Try.ntmps44
    go_wp2_with fail
    refine (H1.out _ _ HO.out).mono ?_
    rintro e w1 ⟨rfl, hb1⟩
    go_wp2_with fail
    refine (H2.out _ _ (owns_after HO.out hb1)).mono ?_
    rintro e w2 ⟨rfl, hb2⟩
    go_wp2
    go_ret2
    exact ⟨ret_si HF.out.1.symm HF.out.2.symm, hb1.trans (hb2.mono hb1.size)⟩
  have HA1 := Lib.hid (fun k => any_at (k := k) h1)
  have HA2 := Lib.hid (fun k => any_at (k := k) h2)
  have HW4 := Lib.hid (wr4 h1 h2)
  have HW3 := Lib.hid (wr3 h1 h2)
  have HW0 := Lib.hid (fun acc => wr0 (acc := acc) h1 h2)
  rw [h1] at H1
  rw [h2] at H2
  clear h1 h2
  go_enter Try.func44, Try.ntmps44
  go_wp2_with fail
  refine (H1.out _ _ HO.out).mono ?_
  rintro e w1 ⟨rfl, hb1⟩
  go_wp2_with fail
  refine (H2.out _ _ (owns_after HO.out hb1)).mono ?_
  rintro e w2 ⟨rfl, hb2⟩
  have hb3 := hb1.trans (hb2.mono hb1.size)
  have HB3 := Lib.hid hb3
  clear hb1 hb2 hb3 H1 H2
  go_wp2
  go_loopw [4] (fun i wr => Below w.heap.size w wr ∧ ∃ k : Nat, 1 ≤ k ∧ (k ≤ l.length ∨ k = 1) ∧ i = .int .i64 k ∧ dupT l k = false) (fun i _ => l.length + 1 - (intOf i).toNat)
  case atStart => exact ⟨HB3.out, 1, by omega, by omega, rfl, rfl⟩
  case round =>
    obtain ⟨hb, k, hk1, hk, rfl, hdup⟩ := hrel
    have HD := Lib.hid hdup
    clear hdup
    by_cases hlt : k < l.length
    · obtain ⟨j, rfl⟩ : ∃ j, k = j + 1 := ⟨k - 1, by omega⟩
      have hown := owns_below HO.out hb (fun j hj => by injection hj with hj; subst hj; exact hgl)
      have hc1 := cell_0 hown hlt
      have hc0 := cell_0 hown (show j < l.length by omega)
      have HS : Hid (dupT l (j + 1 + 1) = (dupT l (j + 1) || ((rnA l (j + 1)).1.toList == (rnA l j).1.toList))) := rfl
      have HB := Lib.hid hb
      have hin : ((j + 1 : Nat) : Int) < l.length := by omega
      have hin2 : (j : Int) + 1 < l.length := by omega
      have hin3 : (j : Int) < l.length := by omega
      have hin4 : (0 : Int) ≤ (j : Int) + 1 := by omega
      clear hown hb hk hk1
      cases he : ((rnA l (j + 1)).1.toList == (rnA l j).1.toList)
      · have HN : Hid (dupT l (j + 1 + 1) = false) := by show _ = _; rw [HS.out, HD.out, he]; rfl
        clear HS
        generalize (rnA l (j + 1)).1 = x1 at *
        generalize (rnA l j).1 = x0 at *
        go_wp2
        go_quiet (fail)
        go_wp2
        go_roundw
        case rel => exact ⟨below_drewN HB.out _, j + 1 + 1, by omega, by omega, by go_num, HN.out⟩
        case measure => first | (simp [intOf]; done) | (simp [intOf]; omega)
      · have HF : Hid (wrW l = ⟨#[]⟩ ∧ wrC l = 4) := by
          apply HW4.out
          have h : dupT l (j + 1 + 1) = true := by rw [HS.out, HD.out, he]; rfl
          have h2 := dupT_hit h (l.length - (j + 1 + 1))
          rwa [show j + 1 + 1 + (l.length - (j + 1 + 1)) = l.length by omega] at h2
        clear HS
        generalize (rnA l (j + 1)).1 = x1 at *
        generalize (rnA l j).1 = x0 at *
        go_wp2
        go_quiet (fail)
        go_wp2
        go_ret2
        exact ⟨ret_si HF.out.1.symm HF.out.2.symm, below_drewN HB.out _⟩
    · have HD2 : Hid (dupT l l.length = false) := by
        show _ = _
        by_cases h : k = l.length
        · rw [← h]; exact HD.out
        · have : l.length = 0 := by omega
          rw [this]; rfl
      have hlt0 : ¬ (k : Int) < l.length := by omega
      have HB := Lib.hid hb
      clear hb hk
      go_wp2
      go_loopw [5, 7, 32] (fun out _ i wr => Below w.heap.size w wr ∧ ∃ (k : Nat) (acc : ByteArray), k ≤ l.length ∧ i = .int .i64 k ∧ out = .string acc ∧ acc.size ≤ 2000 ∧ wrT l k = some acc) (fun _ _ i _ => l.length - (intOf i).toNat)
      case atStart => exact ⟨HB.out, 0, ⟨#[]⟩, by omega, rfl, rfl, by show 0 ≤ 2000; omega, rfl⟩
      case round =>
        obtain ⟨hb, t, acc, ht, rfl, rfl, hacc, hwr⟩ := hrel
        have HWR := Lib.hid hwr
        clear hwr
        by_cases hlt : t < l.length
        · have hown := owns_below HO.out hb (fun j hj => by injection hj with hj; subst hj; exact hgl)
          have hc0 := cell_0 hown hlt
          have hc1 := cell_1 hown hlt
          have hp1 := p1_f (HA1.out t hlt)
          have hp2 := p2_f (HA2.out t hlt)
          have HBAD := Lib.hid (wrT_bad HWR.out)
          have HOK := Lib.hid (wrT_ok HWR.out)
          have hrs := repS_size (rnA l t).1 (rnA l t).2.toNat
          have hin : ((t : Nat) : Int) < l.length := by omega
          have HB2 := Lib.hid hb
          have hsz2 := hb.size
          have HP1 := Lib.hid hp1.1
          clear hown hb hp1
          obtain ⟨m, hm⟩ := Int.eq_ofNat_of_zero_le (show 0 ≤ (rnA l t).2 by omega)
          rw [hm] at hc1 hp2 HBAD HOK hrs
          rw [HP1.out, Nat.mul_one] at hrs
          simp only [Int.toNat_natCast] at hrs HOK
          have HR := Lib.hid (fun w (h : m ≤ 2000) => Try.strings_Repeat (rnA l t).1 m w (by omega) (by rw [HP1.out]; omega))
          clear hm HP1
          have HRR : Hid (repS (rnA l t).1 m = ⟨(Lib.repeatL (rnA l t).1.data.toList m).toArray⟩) := rfl
          by_cases hbad : (2000 : Int) - acc.size < m
          · have HF : Hid (wrW l = ⟨#[]⟩ ∧ wrC l = 3) := by
              refine HW3.out HD2.out ?_
              have h2 := wrT_none (HBAD.out hbad) (l.length - (t + 1))
              rwa [show t + 1 + (l.length - (t + 1)) = l.length by omega] at h2
            clear HBAD HOK hrs HR HRR
            generalize (rnA l t).1 = x1 at *
            go_wp2
            go_quiet ((go_at_call 64; exact Calls.quiet_of_same (i_size_same _ _)))
            go_wp2
            go_ret2
            exact ⟨ret_si HF.out.1.symm HF.out.2.symm, below_drewN (HB2.out.alloc hsz2 _) _⟩
          · have hm2 : m ≤ 2000 := by omega
            have HN := Lib.hid (HOK.out hbad)
            have HR2 : Hid (∀ w, Calls Try.prog 71 #[.string (rnA l t).1, .int .i64 m] w fun e w' => e = .returned (.string (repS (rnA l t).1 m)) ∧ Below w.heap.size w w') := fun w => HR.out w hm2
            have hbad2 : (m : Int) ≤ 2000 - acc.size := by omega
            clear HBAD HOK HR HRR
            generalize repS (rnA l t).1 m = rr at *
            generalize (rnA l t).1 = x1 at *
            have hsum : (acc ++ rr).size = acc.size + rr.size := by rw [ByteArray.size_append]
            have HSUM : Hid ((acc ++ rr).size ≤ 2000) := by show _ ≤ _; rw [hsum, hrs]; omega
            have hrr : rr.size ≤ 2000 := by omega
            clear hsum hrs
            go_wp2
            go_quiet ((go_at_call 64; exact Calls.quiet_of_same (i_size_same _ _)))
            go_wp2_with (go_at_call 71; refine (HR2.out _).mono ?_; rintro e w5 ⟨rfl, hb5⟩)
            go_roundw
            case rel => exact ⟨(below_drewN (HB2.out.alloc hsz2 _) _).trans (hb5.mono (by simp; omega)), t + 1, _, by omega, by go_num, rfl, HSUM.out, HN.out⟩
            case measure => first | (simp [intOf]; done) | (simp [intOf]; omega)
        · have et : t = l.length := by omega
          have HF : Hid (wrW l = acc ∧ wrC l = 0) := HW0.out acc HD2.out (by rw [← et]; exact HWR.out)
          clear et
          go_wp2
          go_ret2
          exact ⟨ret_si HF.out.1.symm HF.out.2.symm, hb⟩
end Go.Proofs.Ytdighfjoechbkaa

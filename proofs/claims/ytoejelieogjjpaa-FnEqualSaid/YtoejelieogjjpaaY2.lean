/- Rules of grammars: their cells; what the laws do with a grammar that comes in: its size, its copy, its comparison. -/
import Derived.Test.YtoejelieogjjpaaY1
namespace Go.Proofs.Ytoejelieogjjpaa
open Go.ChangeShapes Go.WideShapes Go.RowKit
set_option linter.unusedVariables false
set_option linter.unusedSimpArgs false
set_option maxHeartbeats 4000000
set_option maxRecDepth 100000
/-- a rule: its letter, its numbers -/
abbrev Ru := ByteArray × Int × Int
def ruV (l : List Ru) : List Value := l.flatMap fun r => [.string r.1, .int .i64 r.2.1, .int .i64 r.2.2]
def ruA (l : List Ru) (k : Nat) : Ru := l.getD k (⟨#[]⟩, 0, 0)
theorem ruV_len : ∀ l, (ruV l).length = l.length * 3
  | [] => rfl
  | a :: l => by
    have := ruV_len l
    simp [ruV] at *; omega
theorem ruV_at : ∀ (l : List Ru) (k : Nat), k < l.length → (ruV l)[k * 3]? = some (.string (ruA l k).1) ∧ (ruV l)[k * 3 + 1]? = some (.int .i64 (ruA l k).2.1) ∧ (ruV l)[k * 3 + 2]? = some (.int .i64 (ruA l k).2.2)
  | [], k, h => by simp at h
  | a :: l, 0, h => ⟨rfl, rfl, rfl⟩
  | a :: l, k + 1, h => by
    have := ruV_at l k (by simpa using h)
    simp only [ruV, List.flatMap_cons, ruA] at *
    rw [show (k + 1) * 3 = k * 3 + 1 + 1 + 1 by omega]
    simpa using this
theorem ruA_mem {l : List Ru} {k : Nat} (h : k < l.length) : ruA l k ∈ l := by
  rw [ruA, List.getD, List.getElem?_eq_getElem h]; exact List.getElem_mem h
/-- a slice of rules that lies somewhere and reads as a list -/
def InRu (w : World) (v : Value) (l : List Ru) : Prop := InRow w v l.length 3 (ruV l)
theorem inRu_sl {w : World} {v : Value} {l : List Ru} (h : InRu w v l) : ∃ a cap, v = .slice a l.length cap := by
  rcases h with ⟨h0, _, a, cap, rfl⟩ | ⟨b, off, cap, rfl, _⟩
  · exact ⟨a, cap, by rw [h0]⟩
  · exact ⟨_, _, rfl⟩
theorem inRu_below {w w' : World} {v : Value} {l : List Ru} (h : InRu w v l) (hb : Below w.heap.size w w') : InRu w' v l := inRow_below h hb
theorem inRu_from {w w' : World} {B : Nat} {v : Value} {l : List Ru} (h : InRu w v l) (hB : w.heap.size ≤ B) (hb : Below B w w') : InRu w' v l := inRow_below h (hb.mono hB)
theorem inRu_at {w : World} {a : Option Addr} {cap : Nat} {l : List Ru} (h : InRu w (.slice a l.length cap) l) {k : Nat} (hk : k < l.length) :
    ∃ b off, a = some ⟨b, off, none⟩ ∧ b < w.heap.size ∧ w.cell? ⟨b, off + k * 3, none⟩ = some (.string (ruA l k).1) ∧ w.cell? ⟨b, off + k * 3 + 1, none⟩ = some (.int .i64 (ruA l k).2.1) ∧ w.cell? ⟨b, off + k * 3 + 2, none⟩ = some (.int .i64 (ruA l k).2.2) := by
  rcases h with ⟨h0, _, _⟩ | ⟨b, off, cap', hv, hb, _, _, hc⟩
  · omega
  · injection hv with h1 h2 h3
    subst h1
    obtain ⟨e0, e1, e2⟩ := ruV_at l k hk
    refine ⟨b, off, rfl, hb, ?_, ?_, ?_⟩
    · rw [hc (k * 3) (by omega), e0]
    · rw [Nat.add_assoc, hc (k * 3 + 1) (by omega), e1]
    · rw [Nat.add_assoc, hc (k * 3 + 2) (by omega), e2]
theorem inRu_drewN {w : World} {v : Value} {l : List Ru} (h : InRu w v l) (q : Nat) : InRu (w.drewN q) v l := inRow_below h (below_drewN (Below.refl _ _) q)
theorem inRu_own {w : World} {base g n cap : Nat} {l : List Ru} (hl : n = l.length) (h : w.ownsRow base 59 3 (.slice (some ⟨g, 0, none⟩) n cap) n (ruV l)) : InRu w (.slice (some ⟨g, 0, none⟩) n cap) l := by
  subst hl
  obtain ⟨h1, h2⟩ := id h
  rcases h2 with ⟨hv, hn⟩ | ⟨g', cap', cur, hv, hb, hh, hn, hm, _, _⟩
  · cases hv
  · injection hv with e1 e2 e3
    injection e1 with e1
    injection e1 with e1
    subst e1 e3
    refine .inr ⟨g, 0, cap, rfl, (h.lt g rfl).2, hn, hm, fun j hj => ?_⟩
    rw [Nat.zero_add]; exact h.cellAt j (by omega)
end Go.Proofs.Ytoejelieogjjpaa

/- Copies of a grammar, comparisons, marks. -/
namespace Go.Proofs.Ytoejelieogjjpaa
open Go.ChangeShapes Go.WideShapes Go.RowKit
set_option linter.unusedVariables false
set_option linter.unusedSimpArgs false
set_option maxHeartbeats 4000000
set_option maxRecDepth 100000
end Go.Proofs.Ytoejelieogjjpaa

/- The lengths of a grammar's rules: plain law. -/
namespace Go.Proofs.Ytoejelieogjjpaa
open Go.ChangeShapes Go.WideShapes Go.RowKit
set_option linter.unusedVariables false
set_option linter.unusedSimpArgs false
set_option maxHeartbeats 4000000
set_option maxRecDepth 100000
/-- the length of a rule's word, if the rule is right behind rules with these lengths -/
def ruP (ls : List Int) (r : Ru) : Option Int :=
  if r.1.size = 0 then
    if 0 ≤ r.2.1 ∧ r.2.1 < ls.length ∧ 0 ≤ r.2.2 ∧ r.2.2 < ls.length then
      if ls.getD r.2.1.toNat 0 + ls.getD r.2.2.toNat 0 ≤ 1000000000000000 then some (ls.getD r.2.1.toNat 0 + ls.getD r.2.2.toNat 0) else none
    else none
  else if r.1.size = 1 ∧ validB r.1 = true ∧ r.2.1 = 0 ∧ r.2.2 = 0 then some 1 else none
/-- the lengths of the first k rules, if they are right -/
def lnT (l : List Ru) : Nat → Option (List Int)
  | 0 => some []
  | k + 1 => match lnT l k with
    | some ls => match ruP ls (ruA l k) with
      | some n => some (ls ++ [n])
      | none => none
    | none => none
def gOk (l : List Ru) : Bool := decide (l.length ≤ 400) && (lnT l l.length).isSome
def gLn (l : List Ru) : List Int := (lnT l l.length).getD []
theorem lnT_step {l : List Ru} {k : Nat} {ls : List Int} {n : Int} (h : lnT l k = some ls) (h2 : ruP ls (ruA l k) = some n) : lnT l (k + 1) = some (ls ++ [n]) := by
  rw [lnT, h]; simp only [h2]
theorem lnT_bad {l : List Ru} {k : Nat} {ls : List Int} (h : lnT l k = some ls) (h2 : ruP ls (ruA l k) = none) : lnT l (k + 1) = none := by
  rw [lnT, h]; simp only [h2]
theorem lnT_none {l : List Ru} {k : Nat} (h : lnT l k = none) : ∀ d, lnT l (k + d) = none
  | 0 => h
  | d + 1 => by
    show lnT l (k + d + 1) = none
    rw [lnT, lnT_none h d]
theorem lnT_end {l : List Ru} {k : Nat} (hk : k ≤ l.length) (h : lnT l k = none) : gOk l = false ∧ gLn l = [] ∧ (lnT l l.length).isSome = false := by
  have h2 := lnT_none h (l.length - k)
  rw [show k + (l.length - k) = l.length by omega] at h2
  refine ⟨?_, ?_, ?_⟩
  · simp [gOk, h2]
  · simp [gLn, h2]
  · rw [h2]; rfl
theorem lnT_all {l : List Ru} {ls : List Int} (h : lnT l l.length = some ls) : gOk l = decide (l.length ≤ 400) ∧ gLn l = ls ∧ (lnT l l.length).isSome = true := by
  refine ⟨?_, ?_, ?_⟩
  · simp [gOk, h]
  · simp [gLn, h]
  · rw [h]; rfl
theorem ruP_bd {ls : List Int} {r : Ru} {n : Int} (hall : ∀ x ∈ ls, 1 ≤ x ∧ x ≤ 1000000000000000) (h : ruP ls r = some n) : 1 ≤ n ∧ n ≤ 1000000000000000 := by
  unfold ruP at h
  by_cases h0 : r.1.size = 0
  · rw [if_pos h0] at h
    by_cases h1 : 0 ≤ r.2.1 ∧ r.2.1 < ls.length ∧ 0 ≤ r.2.2 ∧ r.2.2 < ls.length
    · rw [if_pos h1] at h
      by_cases h2 : ls.getD r.2.1.toNat 0 + ls.getD r.2.2.toNat 0 ≤ 1000000000000000
      · rw [if_pos h2] at h
        have e : ∀ k, k < ls.length → 1 ≤ ls.getD k 0 := fun k hk => by
          rw [List.getD, List.getElem?_eq_getElem hk]
          exact (hall _ (List.getElem_mem hk)).1
        have a := e r.2.1.toNat (by omega)
        have b := e r.2.2.toNat (by omega)
        injection h with h
        omega
      · rw [if_neg h2] at h; cases h
    · rw [if_neg h1] at h; cases h
  · rw [if_neg h0] at h
    by_cases h1 : r.1.size = 1 ∧ validB r.1 = true ∧ r.2.1 = 0 ∧ r.2.2 = 0
    · rw [if_pos h1] at h; injection h with h; omega
    · rw [if_neg h1] at h; cases h
theorem lnT_bd {l : List Ru} : ∀ {k : Nat} {ls : List Int}, lnT l k = some ls → ls.length = k ∧ ∀ x ∈ ls, 1 ≤ x ∧ x ≤ 1000000000000000
  | 0, ls, h => by injection h with h; subst h; exact ⟨rfl, fun x hx => by cases hx⟩
  | k + 1, ls, h => by
    rw [lnT] at h
    cases h1 : lnT l k with
    | none => rw [h1] at h; cases h
    | some ls0 =>
      rw [h1] at h
      simp only at h
      obtain ⟨e1, e2⟩ := lnT_bd h1
      cases h2 : ruP ls0 (ruA l k) with
      | none => rw [h2] at h; cases h
      | some n =>
        rw [h2] at h
        injection h with h
        subst h
        refine ⟨by simp [e1], fun x hx => ?_⟩
        rcases List.mem_append.1 hx with hx | hx
        · exact e2 x hx
        · rw [List.mem_singleton] at hx; subst hx; exact ruP_bd e2 h2
theorem ruP_pair {ls : List Int} {r : Ru} (h0 : r.1.size = 0) (h1 : 0 ≤ r.2.1 ∧ r.2.1 < ls.length ∧ 0 ≤ r.2.2 ∧ r.2.2 < ls.length) (h2 : ls.getD r.2.1.toNat 0 + ls.getD r.2.2.toNat 0 ≤ 1000000000000000) : ruP ls r = some (ls.getD r.2.1.toNat 0 + ls.getD r.2.2.toNat 0) := by
  rw [ruP, if_pos h0, if_pos h1, if_pos h2]
theorem ruP_long {ls : List Int} {r : Ru} (h0 : r.1.size = 0) (h1 : 0 ≤ r.2.1 ∧ r.2.1 < ls.length ∧ 0 ≤ r.2.2 ∧ r.2.2 < ls.length) (h2 : ¬ ls.getD r.2.1.toNat 0 + ls.getD r.2.2.toNat 0 ≤ 1000000000000000) : ruP ls r = none := by
  rw [ruP, if_pos h0, if_pos h1, if_neg h2]
theorem ruP_out {ls : List Int} {r : Ru} (h0 : r.1.size = 0) (h1 : ¬ (0 ≤ r.2.1 ∧ r.2.1 < ls.length ∧ 0 ≤ r.2.2 ∧ r.2.2 < ls.length)) : ruP ls r = none := by
  rw [ruP, if_pos h0, if_neg h1]
theorem ruP_let {ls : List Int} {r : Ru} (h0 : r.1.size = 1) (h1 : validB r.1 = true) (h2 : r.2.1 = 0) (h3 : r.2.2 = 0) : ruP ls r = some 1 := by
  rw [ruP, if_neg (by omega), if_pos ⟨h0, h1, h2, h3⟩]
theorem ruP_bad {ls : List Int} {r : Ru} (h0 : r.1.size ≠ 0) (h1 : ¬ (r.1.size = 1 ∧ validB r.1 = true ∧ r.2.1 = 0 ∧ r.2.2 = 0)) : ruP ls r = none := by
  rw [ruP, if_neg h0, if_neg h1]
theorem valid_one {a : ByteArray} (h : a.size = 1) (h0 : 0 < a.size) : validB a = letB (a[0].toNat : Int) := by
  have hl : a.data.toList.length = 1 := by simpa using h
  have e : a.data.toList = [a[0]] := by
    cases hc : a.data.toList with
    | nil => rw [hc] at hl; cases hl
    | cons x r =>
      rw [hc] at hl
      have hr : r = [] := List.eq_nil_of_length_eq_zero (by simpa using hl)
      subst hr
      have := get_opt a 0 h0
      rw [hc] at this
      simp at this
      rw [this]
  rw [validB, e]
  simp [allL, h]
/-- what is known of a right grammar -/
theorem gOk_some {l : List Ru} (h : gOk l = true) : l.length ≤ 400 ∧ lnT l l.length = some (gLn l) ∧ (gLn l).length = l.length ∧ ∀ x ∈ gLn l, 1 ≤ x ∧ x ≤ 1000000000000000 := by
  simp only [gOk, Bool.and_eq_true, decide_eq_true_eq] at h
  cases h2 : lnT l l.length with
  | none => rw [h2] at h; simp at h
  | some ls =>
    have e : gLn l = ls := by simp [gLn, h2]
    rw [e]
    exact ⟨h.1, rfl, lnT_bd h2⟩
end Go.Proofs.Ytoejelieogjjpaa

/- Walks: the lengths of a grammar's rules, of the program and of the reference. -/
namespace Go.Proofs.Ytoejelieogjjpaa
open Go.ChangeShapes Go.WideShapes Go.RowKit
set_option linter.unusedVariables false
set_option linter.unusedSimpArgs false
set_option maxHeartbeats 2000000
set_option maxRecDepth 100000
theorem size_zero {a : ByteArray} (h : a.size = 0) : a = ⟨#[]⟩ := by
  apply ByteArray.ext
  exact Array.eq_empty_of_size_eq_zero h
theorem not_empty {a : ByteArray} (h : a.size ≠ 0) : a.toList.isEmpty = false := by
  rw [List.isEmpty_eq_false_iff, ByteArray.toList_eq]
  intro e
  have : a.data.toList.length = a.size := by simp
  rw [e] at this
  exact h this.symm
theorem neq_empty {a : ByteArray} (h : a.size ≠ 0) : (a.toList == []) = false := by
  rw [beq_eq_false_iff_ne]
  intro e
  have := not_empty h
  rw [e] at this; cases this
theorem i_isPair (a : ByteArray) (x y : Int) (w : World) : Calls Try.prog 38 #[.agg #[.string a, .int .i64 x, .int .i64 y]] w fun e w' => e = .returned (.bool (decide (a.size = 0))) ∧ Below w.heap.size w w' := by
  by_cases h : a.size = 0
  · have e := size_zero h
    subst e
    go_enter Try.func38, Try.ntmps38
    go_wp2
    go_ret
    exact ⟨rfl, (by repeat (first | exact Below.refl _ _ | assumption | apply Below.drew | (refine Below.alloc ?_ (by first | (simp; done) | (simp; omega)) _) | (refine Below.setCell ?_ (by first | (simp; done) | (simp; omega)) _)))⟩
  · have e := not_empty h
    have e2 := neq_empty h
    have e3 : decide (a.size = 0) = false := by simpa using h
    rw [e3]
    go_enter Try.func38, Try.ntmps38
    go_wp2
    go_ret
    exact ⟨by simp [e, e2], (by repeat (first | exact Below.refl _ _ | assumption | apply Below.drew | (refine Below.alloc ?_ (by first | (simp; done) | (simp; omega)) _) | (refine Below.setCell ?_ (by first | (simp; done) | (simp; omega)) _)))⟩
theorem own_box (w : World) (o : Obj) : ((w.alloc o).alloc (.cells #[] 2)).ownsRow (w.heap.size + 1) 2 1 (.slice (some ⟨w.heap.size + 1, 0, none⟩) 0 0) ([] : List Int).length (([] : List Int).map (Value.int .i64)) := by
  have h := World.ownsRow_made (e := 2) (size := 1) (w.alloc o) #[] 0 (show w.heap.size + 1 ≤ (w.alloc o).heap.size by simp) (by decide) (by simp)
  simp only [World.size_alloc] at h
  exact h
theorem i_lengths (v : Value) (l : List Ru) (w : World) (hn : l.length ≤ 1048576) (hsz : ∀ r ∈ l, r.1.size ≤ 1048576) (hin : InRu w v l) :
    Calls Try.prog 36 #[.agg #[v]] w fun e w' => ∃ v', e = .returned (.tuple #[v', .bool (gOk l)]) ∧ Own64 w w' v' (gLn l) := by
  obtain ⟨a, cap, rfl⟩ := inRu_sl hin
  have HIN := Lib.hid (inRu_below hin ((Below.refl _ _).alloc (Nat.le_refl _) (.cells #[.slice a l.length cap] 26)))
  have HSZ := Lib.hid hsz
  clear hin hsz
  go_enter Try.func36, Try.ntmps36
  go_wp2
  go_loopw [4, 5, 6, 7, 12] (fun o _ _ _ i wr => Below (w.heap.size + 1) (w.alloc (.cells #[.slice a l.length cap] 26)) wr ∧ ∃ (k : Nat) (ls : List Int), k ≤ l.length ∧ i = .int .i64 k ∧ lnT l k = some ls ∧ wr.ownsRow (w.heap.size + 1) 2 1 o ls.length (ls.map (Value.int .i64))) (fun _ _ _ _ i _ => l.length - (intOf i).toNat)
  case atStart => exact ⟨(Below.refl _ _).alloc (by simp) _, 0, [], by omega, rfl, rfl, own_box _ _⟩
  case round =>
    obtain ⟨hb, k, ls, hk, rfl, hln, hown⟩ := hrel
    have HB := Lib.hid hb
    have HOWN := Lib.hid hown
    have HBW : Hid (∀ w', Below wr.heap.size wr w' → Below w.heap.size w w') := fun w' h => by
      have s1 := hb.size
      have h2 : Below (w.heap.size + 1) (w.alloc (.cells #[.slice a l.length cap] 26)) w' := hb.trans (h.mono (by simpa using s1))
      exact below_box (h2.mono (by simp))
    obtain ⟨hlen, hbd⟩ := lnT_bd hln
    subst hlen
    by_cases hlt : ls.length < l.length
    · obtain ⟨b, off, rfl, hbl, hc0, hc1, hc2⟩ := inRu_at (inRu_from HIN.out (by simp) hb) hlt
      have hin : ((ls.length : Nat) : Int) < l.length := by omega
      have hs1 : (ruA l ls.length).1.size ≤ 1048576 := HSZ.out _ (ruA_mem hlt)
      have HEND : Hid (ruP ls (ruA l ls.length) = none → gOk l = false ∧ gLn l = []) := fun h => by
        have := lnT_end (by omega) (lnT_bad hln h)
        exact ⟨this.1, this.2.1⟩
      have HSTEP : Hid (∀ n, ruP ls (ruA l ls.length) = some n → lnT l (ls.length + 1) = some (ls ++ [n])) := fun n h => lnT_step hln h
      clear hb hown hln
      by_cases hz : (ruA l ls.length).1.size = 0
      · have HPa := Lib.hid (ruP_pair (ls := ls) hz)
        have HPl := Lib.hid (ruP_long (ls := ls) hz)
        have HPo := Lib.hid (ruP_out (ls := ls) hz)
        have hd : decide ((ruA l ls.length).1.size = 0) = true := by simpa using hz
        generalize ruP ls (ruA l ls.length) = rp at *
        generalize (ruA l ls.length).1 = x1 at *
        generalize (ruA l ls.length).2.1 = x2 at *
        generalize (ruA l ls.length).2.2 = x3 at *
        have HIS := Lib.hid (fun w => i_isPair x1 x2 x3 w)
        rw [hd] at HIS
        go_wp2_with fail
        refine (HIS.out _).mono ?_
        rintro e w2 ⟨rfl, hb2⟩
        have hb3 := below_box hb2
        have r0 : w2.cell? ⟨wr.heap.size, 0, none⟩ = some (.string x1) := by rw [hb2.cell (by simp)]; simp [go_sem]
        have r1 : w2.cell? ⟨wr.heap.size, 1, none⟩ = some (.int .i64 x2) := by rw [hb2.cell (by simp)]; simp [go_sem]
        have r2 : w2.cell? ⟨wr.heap.size, 2, none⟩ = some (.int .i64 x3) := by rw [hb2.cell (by simp)]; simp [go_sem]
        have HB3 := Lib.hid hb3
        clear hb2 hb3 hc0 hc1 hc2 HIS
        by_cases hr2 : 0 ≤ x2 ∧ x2 < ls.length
        · have HW2 := Lib.hid (fun w => i_within_r x2 0 ((ls.length : Int) - 1) true (by simp; omega) w)
          by_cases hr3 : 0 ≤ x3 ∧ x3 < ls.length
          · have HW3 := Lib.hid (fun w => i_within_r x3 0 ((ls.length : Int) - 1) true (by simp; omega) w)
            have hr : 0 ≤ x2 ∧ x2 < ls.length ∧ 0 ≤ x3 ∧ x3 < ls.length := ⟨hr2.1, hr2.2, hr3.1, hr3.2⟩
            have HPa2 := Lib.hid (HPa.out hr)
            have HPl2 := Lib.hid (fun h => HPl.out hr h)
            obtain ⟨p, rfl⟩ := Int.eq_ofNat_of_zero_le hr2.1
            obtain ⟨q, rfl⟩ := Int.eq_ofNat_of_zero_le hr3.1
            have hp : p < ls.length := by omega
            have hq : q < ls.length := by omega
            have hown2 := owns_after HOWN.out HB3.out
            obtain ⟨ao, co, rfl, hsome, -⟩ := owns_sl3 hown2
            obtain ⟨g, rfl⟩ := hsome (by omega)
            have hcp : w2.cell? ⟨g, p, none⟩ = some (.int .i64 (ls.getD p 0)) := by rw [hown2.cellAt p (by omega)]; simp [List.getD, hp]
            have hcq : w2.cell? ⟨g, q, none⟩ = some (.int .i64 (ls.getD q 0)) := by rw [hown2.cellAt q (by omega)]; simp [List.getD, hq]
            have hbp : 1 ≤ ls.getD p 0 ∧ ls.getD p 0 ≤ 1000000000000000 := by rw [List.getD, List.getElem?_eq_getElem hp]; exact hbd _ (List.getElem_mem hp)
            have hbq : 1 ≤ ls.getD q 0 ∧ ls.getD q 0 ≤ 1000000000000000 := by rw [List.getD, List.getElem?_eq_getElem hq]; exact hbd _ (List.getElem_mem hq)
            simp only [Int.toNat_natCast] at HPa2 HPl2
            have HO2 := Lib.hid hown2
            have hpi : (p : Int) < ls.length := by omega
            have hqi : (q : Int) < ls.length := by omega
            clear hr hr2 hr3 hown2 hbd HPa HPl HPo HOWN
            generalize ls.getD p 0 = np at *
            generalize ls.getD q 0 = nq0 at *
            obtain ⟨hbp1, hbp2⟩ := hbp
            obtain ⟨hbq1, hbq2⟩ := hbq
            go_wp2_with fail
            refine (HW2.out _).mono ?_
            rintro e w3 ⟨rfl, rfl⟩
            go_wp2_with fail
            refine (HW3.out _).mono ?_
            rintro e w3 ⟨rfl, rfl⟩
            by_cases hsum : np + nq0 ≤ 1000000000000000
            · have HN := Lib.hid (HSTEP.out _ (HPa2.out hsum))
              have hsum2 : ¬ 1000000000000000 < np + nq0 := by omega
              clear HW2 HW3 HPa2 HPl2 HSTEP HEND
              go_wp2
              go_big_quiet (fail)
              have hown3 := ownsRow_drewN HO2.out nq
              go_wp2_with (at_builtin; refine app_i64 rfl (.tmp 67) (.tmp 69) rfl (w.heap.size + 1) _ _ _ _ _ _ rfl hown3 rfl (by simp) (by omega) (by have := HB.out.size; have := HB3.out.size; simp at *; omega) ?_; intro v' w4 ho4 hb4 hsz4)
              go_roundw
              case rel =>
                have e := HN.out
                refine ⟨(HB.out.trans ((below_drewN HB3.out nq).mono (by have := HB.out.size; simpa using this))).trans hb4, ls.length + 1, ls ++ [np + nq0], by omega, by go_num, e, ?_⟩
                simpa using ho4
              case measure => first | (simp [intOf]; done) | (simp [intOf]; omega)
            · have HF := Lib.hid (HEND.out (HPl2.out (by omega)))
              have hsum2 : 1000000000000000 < np + nq0 := by omega
              clear HW2 HW3 HPa2 HPl2 HSTEP HEND
              go_wp2
              go_big_quiet (fail)
              go_wp2
              go_ret2
              exact ⟨_, by rw [HF.out.1]; rfl, by rw [HF.out.2]; exact own64_nil (HBW.out _ (below_drewN HB3.out _))⟩
          · have HW3 := Lib.hid (fun w => i_within_r x3 0 ((ls.length : Int) - 1) false (by simp; omega) w)
            have HF := Lib.hid (HEND.out (HPo.out (by omega)))
            clear HPa HPl HPo HSTEP HEND
            go_wp2_with fail
            refine (HW2.out _).mono ?_
            rintro e w3 ⟨rfl, rfl⟩
            go_wp2_with fail
            refine (HW3.out _).mono ?_
            rintro e w3 ⟨rfl, rfl⟩
            go_wp2
            go_ret2
            exact ⟨_, by rw [HF.out.1]; rfl, by rw [HF.out.2]; exact own64_nil (HBW.out _ HB3.out)⟩
        · have HW2 := Lib.hid (fun w => i_within_r x2 0 ((ls.length : Int) - 1) false (by simp; omega) w)
          have HF := Lib.hid (HEND.out (HPo.out (by omega)))
          clear HPa HPl HPo HSTEP HEND
          go_wp2_with fail
          refine (HW2.out _).mono ?_
          rintro e w3 ⟨rfl, rfl⟩
          go_wp2
          go_ret2
          exact ⟨_, by rw [HF.out.1]; rfl, by rw [HF.out.2]; exact own64_nil (HBW.out _ HB3.out)⟩
      · have HPb := Lib.hid (ruP_bad (ls := ls) hz)
        have HPl := Lib.hid (ruP_let (ls := ls) (r := ruA l ls.length))
        have hd : decide ((ruA l ls.length).1.size = 0) = false := by simpa using hz
        generalize ruP ls (ruA l ls.length) = rp at *
        generalize (ruA l ls.length).1 = x1 at *
        generalize (ruA l ls.length).2.1 = x2 at *
        generalize (ruA l ls.length).2.2 = x3 at *
        have HIS := Lib.hid (fun w => i_isPair x1 x2 x3 w)
        rw [hd] at HIS
        have HX0 := Lib.hid hz
        clear hd hz
        go_wp2_with fail
        refine (HIS.out _).mono ?_
        rintro e w2 ⟨rfl, hb2⟩
        have hb3 := below_box hb2
        have r0 : w2.cell? ⟨wr.heap.size, 0, none⟩ = some (.string x1) := by rw [hb2.cell (by simp)]; simp [go_sem]
        have r1 : w2.cell? ⟨wr.heap.size, 1, none⟩ = some (.int .i64 x2) := by rw [hb2.cell (by simp)]; simp [go_sem]
        have r2 : w2.cell? ⟨wr.heap.size, 2, none⟩ = some (.int .i64 x3) := by rw [hb2.cell (by simp)]; simp [go_sem]
        have HB3 := Lib.hid hb3
        clear hb2 hb3 hc0 hc1 hc2 HIS
        have hs2 : (x1.size : Int) ≤ 9223372036854775807 := by omega
        by_cases h1 : x1.size = 1
        · have hpos : 0 < x1.size := by omega
          have hvo := valid_one h1 hpos
          have h1i : ((x1.size : Int) != 1) = false := by rw [h1]; rfl
          have h1j : (x1.size : Int) = 1 := by omega
          by_cases hlb : letB (x1[0].toNat : Int) = true
          · have HL := Lib.hid (fun w => i_isLetter (x1[0].toNat : Int) w)
            rw [hlb] at HL
            by_cases hx2 : x2 = 0
            · by_cases hx3 : x3 = 0
              · have HN := Lib.hid (HSTEP.out _ (HPl.out h1 (by rw [hvo, hlb]) hx2 hx3))
                subst hx2 hx3
                have hown3 := owns_after HOWN.out HB3.out
                obtain ⟨ao, co, rfl, hsome, -⟩ := owns_sl3 hown3
                clear hvo hlb HPb HPl HSTEP HEND HOWN hbd hsome
                go_wp2_with fail
                refine (HL.out _).mono ?_
                rintro e w3 ⟨rfl, rfl⟩
                go_wp2_with (at_builtin; refine app_i64 rfl (.tmp 67) (.tmp 69) rfl (w.heap.size + 1) _ _ _ _ _ _ rfl hown3 rfl (by simp) (by omega) (by have := HB.out.size; have := HB3.out.size; simp at *; omega) ?_; intro v' w4 ho4 hb4 hsz4)
                go_roundw
                case rel =>
                  have e := HN.out
                  refine ⟨(HB.out.trans (HB3.out.mono (by have := HB.out.size; simpa using this))).trans hb4, ls.length + 1, ls ++ [1], by omega, by go_num, e, ?_⟩
                  simpa using ho4
                case measure => first | (simp [intOf]; done) | (simp [intOf]; omega)
              · have HF := Lib.hid (HEND.out (HPb.out (by omega)))
                have hx3b : (x3 != 0) = true := by simpa using hx3
                clear hvo hlb HPb HPl HSTEP HEND
                subst hx2
                go_wp2_with fail
                refine (HL.out _).mono ?_
                rintro e w3 ⟨rfl, rfl⟩
                go_wp2
                go_ret2
                exact ⟨_, by rw [HF.out.1]; rfl, by rw [HF.out.2]; exact own64_nil (HBW.out _ HB3.out)⟩
            · have HF := Lib.hid (HEND.out (HPb.out (by omega)))
              have hx2b : (x2 != 0) = true := by simpa using hx2
              clear hvo hlb HPb HPl HSTEP HEND
              go_wp2_with fail
              refine (HL.out _).mono ?_
              rintro e w3 ⟨rfl, rfl⟩
              go_wp2
              go_ret2
              exact ⟨_, by rw [HF.out.1]; rfl, by rw [HF.out.2]; exact own64_nil (HBW.out _ HB3.out)⟩
          · have hlf : letB (x1[0].toNat : Int) = false := by simpa using hlb
            have HL := Lib.hid (fun w => i_isLetter (x1[0].toNat : Int) w)
            rw [hlf] at HL
            have HF := Lib.hid (HEND.out (HPb.out (by rw [hvo, hlf]; simp)))
            clear hvo hlb hlf HPb HPl HSTEP HEND
            go_wp2_with fail
            refine (HL.out _).mono ?_
            rintro e w3 ⟨rfl, rfl⟩
            go_wp2
            go_ret2
            exact ⟨_, by rw [HF.out.1]; rfl, by rw [HF.out.2]; exact own64_nil (HBW.out _ HB3.out)⟩
        · have HF := Lib.hid (HEND.out (HPb.out (by omega)))
          have h1i : ((x1.size : Int) != 1) = true := by
            simp only [bne_iff_ne, ne_eq]; omega
          clear HPb HPl HSTEP HEND
          go_wp2
          go_ret2
          exact ⟨_, by rw [HF.out.1]; rfl, by rw [HF.out.2]; exact own64_nil (HBW.out _ HB3.out)⟩
    · have ek : ls.length = l.length := by omega
      rw [ek] at hln
      have HF := Lib.hid (lnT_all hln)
      have hbox : wr.cell? ⟨w.heap.size, 0, none⟩ = some (.slice a l.length cap) := by
        rw [HB.out.cell (by simp)]; simp [go_sem]
      have HB0 := Lib.hid (HBW.out wr (Below.refl _ _))
      clear hb hown hln ek hbd
      go_wp2
      go_big_quiet (fail)
      go_wp2
      go_ret2
      have hdc : decide (l.length ≤ 400) = decide ((l.length : Int) ≤ 400) := decide_eq_decide.2 (by omega)
      refine ⟨_, by rw [HF.out.1, hdc]; rfl, ?_, below_drewN HB0.out _⟩
      rw [HF.out.2.1]
      exact owns_weak (base := w.heap.size + 1) (ownsRow_drewN HOWN.out _) (by omega)
end Go.Proofs.Ytoejelieogjjpaa

/- Walks of the reference: rules, the lengths of a grammar's rules. -/
namespace Go.Proofs.Ytoejelieogjjpaa
open Go.ChangeShapes Go.WideShapes Go.RowKit
set_option linter.unusedVariables false
set_option linter.unusedSimpArgs false
set_option maxHeartbeats 2000000
set_option maxRecDepth 100000
/-- a rule is right at a place -/
def ruB (k : Nat) (r : Ru) : Bool := if r.1.size = 0 then decide (0 ≤ r.2.1 ∧ r.2.1 < k ∧ 0 ≤ r.2.2 ∧ r.2.2 < k) else decide (r.1.size = 1 ∧ validB r.1 = true ∧ r.2.1 = 0 ∧ r.2.2 = 0)
theorem s_l02Rule (b o k : Nat) (x1 : ByteArray) (x2 x3 : Int) (w : World) (hk : k ≤ 1048576) (hs : x1.size ≤ 1048576) (h0 : w.cell? ⟨b, o, none⟩ = some (.string x1)) (h1 : w.cell? ⟨b, o + 1, none⟩ = some (.int .i64 x2)) (h2 : w.cell? ⟨b, o + 2, none⟩ = some (.int .i64 x3)) :
    Calls Try.prog 67 #[.pointer (some ⟨b, o, none⟩), .int .i64 k] w fun e w' => e = .returned (.bool (ruB k (x1, x2, x3))) ∧ w = w' := by
  by_cases hz : x1.size = 0
  · have e := size_zero hz
    subst e
    have HR : Hid (ruB k (⟨#[]⟩, x2, x3) = decide (0 ≤ x2 ∧ x2 < k ∧ 0 ≤ x3 ∧ x3 < k)) := by show _ = _; unfold ruB; exact if_pos rfl
    by_cases hr2 : 0 ≤ x2 ∧ x2 < k
    · have HW2 := Lib.hid (fun w => s_l00In_r x2 0 ((k : Int) - 1) true (by simp; omega) w)
      by_cases hr3 : 0 ≤ x3 ∧ x3 < k
      · have HW3 := Lib.hid (fun w => s_l00In_r x3 0 ((k : Int) - 1) true (by simp; omega) w)
        have HF : Hid (ruB k (⟨#[]⟩, x2, x3) = true) := by show _ = _; rw [HR.out, decide_eq_true_eq]; exact ⟨hr2.1, hr2.2, hr3.1, hr3.2⟩
        clear hr2 hr3
        go_enter Try.func67, Try.ntmps67
        go_wp2_with fail
        refine (HW2.out _).mono ?_
        rintro e w3 ⟨rfl, rfl⟩
        go_wp2_with fail
        refine (HW3.out _).mono ?_
        rintro e w3 ⟨rfl, rfl⟩
        go_wp2
        go_ret
        exact ⟨ret_bool HF.out.symm, rfl⟩
      · have HW3 := Lib.hid (fun w => s_l00In_r x3 0 ((k : Int) - 1) false (by simp; omega) w)
        have HF : Hid (ruB k (⟨#[]⟩, x2, x3) = false) := by show _ = _; rw [HR.out, decide_eq_false_iff_not]; omega
        clear hr2 hr3
        go_enter Try.func67, Try.ntmps67
        go_wp2_with fail
        refine (HW2.out _).mono ?_
        rintro e w3 ⟨rfl, rfl⟩
        go_wp2_with fail
        refine (HW3.out _).mono ?_
        rintro e w3 ⟨rfl, rfl⟩
        go_wp2
        go_ret
        exact ⟨ret_bool HF.out.symm, rfl⟩
    · have HW2 := Lib.hid (fun w => s_l00In_r x2 0 ((k : Int) - 1) false (by simp; omega) w)
      have HF : Hid (ruB k (⟨#[]⟩, x2, x3) = false) := by show _ = _; rw [HR.out, decide_eq_false_iff_not]; omega
      clear hr2
      go_enter Try.func67, Try.ntmps67
      go_wp2_with fail
      refine (HW2.out _).mono ?_
      rintro e w3 ⟨rfl, rfl⟩
      go_wp2
      go_ret
      exact ⟨ret_bool HF.out.symm, rfl⟩
  · have HR : Hid (ruB k (x1, x2, x3) = decide (x1.size = 1 ∧ validB x1 = true ∧ x2 = 0 ∧ x3 = 0)) := by show _ = _; unfold ruB; exact if_neg hz
    have hne := neq_empty hz
    have hne2 := not_empty hz
    by_cases h1' : x1.size = 1
    · have h1i : ((x1.size : Int) == 1) = true := by rw [h1']; rfl
      have HL := Lib.hid (fun w => s_l01Ok x1 w (by unfold maxLen; omega))
      cases hv : validB x1
      · have HF : Hid (ruB k (x1, x2, x3) = false) := by show _ = _; rw [HR.out, decide_eq_false_iff_not, hv]; simp
        rw [hv] at HL
        clear hz h1' hv
        go_enter Try.func67, Try.ntmps67
        go_wp2_with fail
        refine (HL.out _).mono ?_
        rintro e w3 ⟨rfl, rfl⟩
        go_wp2
        go_ret
        exact ⟨ret_bool HF.out.symm, rfl⟩
      · have HF : Hid (ruB k (x1, x2, x3) = (x2 == 0 && x3 == 0)) := by show _ = _; rw [HR.out, hv]; by_cases ha : x2 = 0 <;> by_cases hc : x3 = 0 <;> simp [h1', ha, hc]
        rw [hv] at HL
        clear hz h1' hv
        cases hx2 : (x2 == 0)
        all_goals
          rw [hx2] at HF
          go_enter Try.func67, Try.ntmps67
          go_wp2_with fail
          refine (HL.out _).mono ?_
          rintro e w3 ⟨rfl, rfl⟩
          go_wp2
          go_ret
          exact ⟨ret_bool HF.out.symm, rfl⟩
    · have h1i : ((x1.size : Int) == 1) = false := by rw [beq_eq_false_iff_ne]; omega
      have HF : Hid (ruB k (x1, x2, x3) = false) := by show _ = _; rw [HR.out, decide_eq_false_iff_not]; omega
      clear hz h1'
      go_enter Try.func67, Try.ntmps67
      go_wp2
      go_ret
      exact ⟨ret_bool HF.out.symm, rfl⟩
theorem ruP_ruB {ls : List Int} {r : Ru} (h : ruB ls.length r = false) : ruP ls r = none := by
  unfold ruB at h
  by_cases hz : r.1.size = 0
  · rw [if_pos hz, decide_eq_false_iff_not] at h
    exact ruP_out hz h
  · rw [if_neg hz, decide_eq_false_iff_not] at h
    exact ruP_bad hz h
theorem s_l02SizesX (bq oq cap : Nat) (a : Option Addr) (l : List Ru) (w : World) (hn : l.length ≤ 1048576) (hsz : ∀ r ∈ l, r.1.size ≤ 1048576) (hcell : w.cell? ⟨bq, oq, none⟩ = some (.slice a l.length cap)) (hin : InRu w (.slice a l.length cap) l) :
    Calls Try.prog 54 #[.pointer (some ⟨bq, oq, none⟩)] w fun e w' => ∃ v' ls', e = .returned (.tuple #[v', .bool (lnT l l.length).isSome]) ∧ Below w.heap.size w w' ∧ ls'.length ≤ l.length ∧ w'.ownsRow w.heap.size 2 1 v' ls'.length (ls'.map (Value.int .i64)) ∧ ((lnT l l.length).isSome = true → ls' = gLn l) := by
  have HIN := Lib.hid hin
  have HSZ := Lib.hid hsz
  have hbq := World.block_lt_of_cell? _ _ hcell
  have HC := Lib.hid hcell
  clear hin hsz
  go_enter Try.func54, Try.ntmps54
  go_wp2
  go_loopw [4, 5, 6, 7] (fun o i _ _ wr => Below w.heap.size w wr ∧ ∃ (k : Nat) (ls : List Int), k ≤ l.length ∧ i = .int .i64 k ∧ lnT l k = some ls ∧ wr.ownsRow w.heap.size 2 1 o ls.length (ls.map (Value.int .i64))) (fun _ i _ _ _ => l.length - (intOf i).toNat)
  case atStart => exact ⟨(Below.refl _ _).alloc (Nat.le_refl _) _, 0, [], by omega, rfl, rfl, World.ownsRow_made w #[] 0 (Nat.le_refl _) (by decide) (by simp)⟩
  case round =>
    obtain ⟨hb, k, ls, hk, rfl, hln, hown⟩ := hrel
    have HB := Lib.hid hb
    have HOWN := Lib.hid hown
    have hcw : wr.cell? ⟨bq, oq, none⟩ = some (.slice a l.length cap) := by rw [hb.cell (p := ⟨bq, oq, none⟩) hbq]; exact HC.out
    obtain ⟨hlen, hbd⟩ := lnT_bd hln
    subst hlen
    by_cases hlt : ls.length < l.length
    · obtain ⟨b, off, rfl, hbl, hc0, hc1, hc2⟩ := inRu_at (inRu_below HIN.out hb) hlt
      have hin : ((ls.length : Nat) : Int) < l.length := by omega
      have hs1 : (ruA l ls.length).1.size ≤ 1048576 := HSZ.out _ (ruA_mem hlt)
      have HEND : Hid (ruP ls (ruA l ls.length) = none → (lnT l l.length).isSome = false) := fun h => (lnT_end (by omega) (lnT_bad hln h)).2.2
      have HSTEP : Hid (∀ n, ruP ls (ruA l ls.length) = some n → lnT l (ls.length + 1) = some (ls ++ [n])) := fun n h => lnT_step hln h
      have HRU := Lib.hid (s_l02Rule b (off + ls.length * 3) ls.length (ruA l ls.length).1 (ruA l ls.length).2.1 (ruA l ls.length).2.2 wr (by omega) hs1 hc0 hc1 hc2)
      clear hb hown hln
      cases hrb : ruB ls.length (ruA l ls.length)
      · have HF := Lib.hid (HEND.out (ruP_ruB hrb))
        rw [show ((ruA l ls.length).1, (ruA l ls.length).2.1, (ruA l ls.length).2.2) = ruA l ls.length from rfl, hrb] at HRU
        clear HEND HSTEP hrb hc0 hc1 hc2
        go_wp2_with fail
        refine HRU.out.mono ?_
        rintro e w2 ⟨rfl, rfl⟩
        go_wp2
        go_ret2
        exact ⟨_, ls, by rw [HF.out]; rfl, HB.out, by omega, HOWN.out, fun h => by rw [HF.out] at h; cases h⟩
      · rw [show ((ruA l ls.length).1, (ruA l ls.length).2.1, (ruA l ls.length).2.2) = ruA l ls.length from rfl, hrb] at HRU
        by_cases hz : (ruA l ls.length).1.size = 0
        · have hr : 0 ≤ (ruA l ls.length).2.1 ∧ (ruA l ls.length).2.1 < ls.length ∧ 0 ≤ (ruA l ls.length).2.2 ∧ (ruA l ls.length).2.2 < ls.length := by
            rw [ruB, if_pos hz, decide_eq_true_eq] at hrb; exact hrb
          have HPa := Lib.hid (ruP_pair (ls := ls) hz hr)
          have HPl := Lib.hid (ruP_long (ls := ls) hz hr)
          clear hrb
          generalize ruP ls (ruA l ls.length) = rp at *
          generalize (ruA l ls.length).1 = x1 at *
          generalize (ruA l ls.length).2.1 = x2 at *
          generalize (ruA l ls.length).2.2 = x3 at *
          have ex := size_zero hz
          subst ex
          obtain ⟨hr1, hr2, hr3, hr4⟩ := hr
          obtain ⟨p, rfl⟩ := Int.eq_ofNat_of_zero_le hr1
          obtain ⟨q, rfl⟩ := Int.eq_ofNat_of_zero_le hr3
          have hp : p < ls.length := by omega
          have hq : q < ls.length := by omega
          have hown2 := HOWN.out
          obtain ⟨ao, co, rfl, hsome, -⟩ := owns_sl3 hown2
          obtain ⟨g, rfl⟩ := hsome (by omega)
          have hcp : wr.cell? ⟨g, p, none⟩ = some (.int .i64 (ls.getD p 0)) := by rw [hown2.cellAt p (by omega)]; simp [List.getD, hp]
          have hcq : wr.cell? ⟨g, q, none⟩ = some (.int .i64 (ls.getD q 0)) := by rw [hown2.cellAt q (by omega)]; simp [List.getD, hq]
          have hbp : 1 ≤ ls.getD p 0 ∧ ls.getD p 0 ≤ 1000000000000000 := by rw [List.getD, List.getElem?_eq_getElem hp]; exact hbd _ (List.getElem_mem hp)
          have hbq' : 1 ≤ ls.getD q 0 ∧ ls.getD q 0 ≤ 1000000000000000 := by rw [List.getD, List.getElem?_eq_getElem hq]; exact hbd _ (List.getElem_mem hq)
          simp only [Int.toNat_natCast] at HPa HPl
          clear hown2 hbd hsome hz hs1 hr1 hr3
          generalize ls.getD p 0 = np at *
          generalize ls.getD q 0 = nq0 at *
          obtain ⟨hbp1, hbp2⟩ := hbp
          obtain ⟨hbq1, hbq2⟩ := hbq'
          go_wp2_with fail
          refine HRU.out.mono ?_
          rintro e w2 ⟨rfl, rfl⟩
          by_cases hsum : np + nq0 ≤ 1000000000000000
          · have HN := Lib.hid (HSTEP.out _ (HPa.out hsum))
            have hsum2 : ¬ 1000000000000000 < np + nq0 := by omega
            clear HPa HPl HSTEP HEND HRU
            go_wp2
            go_big_quiet (fail)
            have hown3 := ownsRow_drewN HOWN.out nq
            go_wp2_with (at_builtin; refine app_i64 rfl (.tmp 52) (.tmp 54) rfl w.heap.size _ _ _ _ _ _ rfl hown3 rfl (by simp) (by omega) (by have := HB.out.size; simp at *; omega) ?_; intro v' w4 ho4 hb4 hsz4)
            go_roundw
            case rel =>
              have e := HN.out
              refine ⟨(below_drewN HB.out nq).trans hb4, ls.length + 1, ls ++ [np + nq0], by omega, by go_num, e, ?_⟩
              simpa using ho4
            case measure => first | (simp [intOf]; done) | (simp [intOf]; omega)
          · have HF := Lib.hid (HEND.out (HPl.out (by omega)))
            have hsum2 : 1000000000000000 < np + nq0 := by omega
            clear HPa HPl HSTEP HEND HRU
            go_wp2
            go_big_quiet (fail)
            go_wp2
            go_ret2
            exact ⟨_, ls, by rw [HF.out]; rfl, below_drewN HB.out _, by omega, ownsRow_drewN HOWN.out _, fun h => by rw [HF.out] at h; cases h⟩
        · have hr : (ruA l ls.length).1.size = 1 ∧ validB (ruA l ls.length).1 = true ∧ (ruA l ls.length).2.1 = 0 ∧ (ruA l ls.length).2.2 = 0 := by
            rw [ruB, if_neg hz, decide_eq_true_eq] at hrb; exact hrb
          have HN := Lib.hid (HSTEP.out _ (ruP_let (ls := ls) (r := ruA l ls.length) hr.1 hr.2.1 hr.2.2.1 hr.2.2.2))
          have hne := neq_empty hz
          have hne2 := not_empty hz
          clear hrb hr hz HSTEP HEND hbd
          generalize (ruA l ls.length).1 = x1 at *
          have hown3 := HOWN.out
          obtain ⟨ao, co, rfl, hsome, -⟩ := owns_sl3 hown3
          clear hsome
          go_wp2_with fail
          refine HRU.out.mono ?_
          rintro e w2 ⟨rfl, rfl⟩
          go_wp2_with (at_builtin; refine app_i64 rfl (.tmp 52) (.tmp 54) rfl w.heap.size _ _ _ _ _ _ rfl hown3 rfl (by simp) (by omega) (by have := HB.out.size; simp at *; omega) ?_; intro v' w4 ho4 hb4 hsz4)
          go_roundw
          case rel =>
            have e := HN.out
            refine ⟨HB.out.trans hb4, ls.length + 1, ls ++ [1], by omega, by go_num, e, ?_⟩
            simpa using ho4
          case measure => first | (simp [intOf]; done) | (simp [intOf]; omega)
    · have ek : ls.length = l.length := by omega
      rw [ek] at hln
      have HF := Lib.hid (lnT_all hln)
      clear hb hown hln ek hbd
      go_wp2
      go_ret2
      exact ⟨_, ls, by rw [HF.out.2.2]; rfl, HB.out, hk, HOWN.out, fun _ => HF.out.2.1.symm⟩
theorem s_l02Sizes (bq oq cap : Nat) (a : Option Addr) (l : List Ru) (w : World) (hn : l.length ≤ 1048576) (hsz : ∀ r ∈ l, r.1.size ≤ 1048576) (hcell : w.cell? ⟨bq, oq, none⟩ = some (.slice a l.length cap)) (hin : InRu w (.slice a l.length cap) l) :
    Calls Try.prog 54 #[.pointer (some ⟨bq, oq, none⟩)] w fun e w' => ∃ v', e = .returned (.tuple #[v', .bool (lnT l l.length).isSome]) ∧ Below w.heap.size w w' ∧ ((lnT l l.length).isSome = true → w'.ownsRow w.heap.size 2 1 v' (gLn l).length ((gLn l).map (Value.int .i64))) := by
  refine (s_l02SizesX bq oq cap a l w hn hsz hcell hin).mono ?_
  rintro e w' ⟨v', ls', h1, h2, h3, h4, h5⟩
  exact ⟨v', h1, h2, fun h => by rw [← h5 h]; exact h4⟩
end Go.Proofs.Ytoejelieogjjpaa

/- ValidGrammar, LengthOf, LengthsOf, of the program and of the reference, and their laws. -/
namespace Go.Proofs.Ytoejelieogjjpaa
open Go.ChangeShapes Go.WideShapes Go.RowKit
set_option linter.unusedVariables false
set_option linter.unusedSimpArgs false
set_option maxHeartbeats 2000000
set_option maxRecDepth 100000
theorem s_l02Lengths (bq oq cap : Nat) (a : Option Addr) (l : List Ru) (w : World) (hn : l.length ≤ 1048576) (hsz : ∀ r ∈ l, r.1.size ≤ 1048576) (hcell : w.cell? ⟨bq, oq, none⟩ = some (.slice a l.length cap)) (hin : InRu w (.slice a l.length cap) l) :
    Calls Try.prog 53 #[.pointer (some ⟨bq, oq, none⟩)] w fun e w' => ∃ v', e = .returned (.tuple #[v', .bool (gOk l)]) ∧ Below w.heap.size w w' ∧ (gOk l = true → w'.ownsRow w.heap.size 2 1 v' (gLn l).length ((gLn l).map (Value.int .i64))) := by
  by_cases hbig : 400 < l.length
  · have HF : Hid (gOk l = false) := by show _ = _; simp [gOk]; omega
    have hb2 : (400 : Int) < l.length := by omega
    clear hsz hin
    go_enter Try.func53, Try.ntmps53
    go_wp2
    go_ret2
    exact ⟨_, by rw [HF.out]; rfl, (Below.refl _ _).alloc (Nat.le_refl _) _, fun h => by rw [HF.out] at h; cases h⟩
  · have HS := Lib.hid (s_l02Sizes bq oq cap a l w hn hsz hcell hin)
    have HF : Hid (gOk l = (lnT l l.length).isSome) := by show _ = _; simp [gOk]; omega
    have hb2 : ¬ (400 : Int) < l.length := by omega
    clear hsz hin
    go_enter Try.func53, Try.ntmps53
    go_wp2_with fail
    refine HS.out.mono ?_
    rintro e w2 ⟨v', rfl, hb2, ho2⟩
    have HO := Lib.hid ho2
    clear ho2
    go_wp2
    go_ret2
    exact ⟨_, by rw [HF.out]; rfl, hb2, fun h => HO.out (by rw [← HF.out]; exact h)⟩
theorem s_l02Ok (bq oq cap : Nat) (a : Option Addr) (l : List Ru) (w : World) (hn : l.length ≤ 1048576) (hsz : ∀ r ∈ l, r.1.size ≤ 1048576) (hcell : w.cell? ⟨bq, oq, none⟩ = some (.slice a l.length cap)) (hin : InRu w (.slice a l.length cap) l) :
    Calls Try.prog 33 #[.pointer (some ⟨bq, oq, none⟩)] w fun e w' => e = .returned (.bool (gOk l)) ∧ Below w.heap.size w w' := by
  have HS := Lib.hid (s_l02Lengths bq oq cap a l w hn hsz hcell hin)
  clear hsz hin
  go_enter Try.func33, Try.ntmps33
  go_wp2_with fail
  refine HS.out.mono ?_
  rintro e w2 ⟨v', rfl, hb2, ho2⟩
  clear ho2
  go_wp2
  go_ret
  exact ⟨rfl, hb2⟩
theorem inRu_box {w : World} {v : Value} {l : List Ru} {o : Obj} (h : InRu w v l) : InRu (w.alloc o) v l := inRu_below h ((Below.refl _ _).alloc (Nat.le_refl _) _)
/-- the law's argument -/
def GrIn (w : World) (v : Value) (l : List Ru) : Prop := ∃ u, v = .agg #[u] ∧ InRu w u l
end Go.Proofs.Ytoejelieogjjpaa

/- LengthOf and LengthsOf, of the program and of the reference; the law of LengthOf. -/
namespace Go.Proofs.Ytoejelieogjjpaa
open Go.ChangeShapes Go.WideShapes Go.RowKit
set_option linter.unusedVariables false
set_option linter.unusedSimpArgs false
set_option maxHeartbeats 2000000
set_option maxRecDepth 100000
def lastI (ls : List Int) : Int := if ls.length = 0 then 0 else ls.getD (ls.length - 1) 0
theorem lastI_nil {ls : List Int} (h : ls.length = 0) : lastI ls = 0 := by rw [lastI, if_pos h]
theorem lastI_at {ls : List Int} (h : ls.length ≠ 0) : lastI ls = ls.getD (ls.length - 1) 0 := by rw [lastI, if_neg h]
def gLen (l : List Ru) : Int := if gOk l then lastI (gLn l) else 0
def gC (l : List Ru) : Int := if gOk l then 0 else 1
def gLs (l : List Ru) : List Int := if gOk l then gLn l else []
theorem g_bad {l : List Ru} (h : gOk l = false) : gLen l = 0 ∧ gC l = 1 ∧ gLs l = [] := by simp [gLen, gC, gLs, h]
theorem g_ok {l : List Ru} (h : gOk l = true) : gLen l = lastI (gLn l) ∧ gC l = 0 ∧ gLs l = gLn l := by simp [gLen, gC, gLs, h]
theorem i_last (v : Value) (ls : List Int) (base : Nat) (w : World) (hl : ls.length ≤ 1048576) (ho : w.ownsRow base 2 1 v ls.length (ls.map (Value.int .i64))) :
    Calls Try.prog 51 #[v] w fun e w' => e = .returned (.int .i64 (lastI ls)) ∧ Qt w w' := by
  obtain ⟨a, cap, rfl, hsome, -⟩ := owns_sl3 ho
  by_cases h0 : ls.length = 0
  · have HF := Lib.hid (lastI_nil h0)
    clear ho hsome
    have h0i : ((ls.length : Int) == 0) = true := by rw [h0]; rfl
    go_enter Try.func51, Try.ntmps51
    go_wp2
    go_ret
    exact ⟨ret_int HF.out.symm, Qt.refl _⟩
  · obtain ⟨g, rfl⟩ := hsome h0
    obtain ⟨n, hn⟩ : ∃ n, ls.length = n + 1 := ⟨ls.length - 1, by omega⟩
    have hc : w.cell? ⟨g, n, none⟩ = some (.int .i64 (lastI ls)) := by
      rw [ho.cellAt n (by omega), lastI_at h0, hn]
      simp [List.getD, show n < ls.length by omega]
    have h0i : ((ls.length : Int) == 0) = false := by rw [beq_eq_false_iff_ne]; omega
    have hni : (ls.length : Int) - 1 = (n : Int) := by omega
    have hn2 : (n : Int) < ls.length := by omega
    clear ho hsome h0 hn
    generalize lastI ls = x at *
    generalize ls.length = m at *
    go_enter Try.func51, Try.ntmps51
    go_wp2
    go_ret
    exact ⟨rfl, by first | exact Qt.refl _ | exact ⟨_, rfl⟩⟩
theorem s_l02Length (bq oq cap : Nat) (a : Option Addr) (l : List Ru) (w : World) (hn : l.length ≤ 1048576) (hsz : ∀ r ∈ l, r.1.size ≤ 1048576) (hcell : w.cell? ⟨bq, oq, none⟩ = some (.slice a l.length cap)) (hin : InRu w (.slice a l.length cap) l) (hok : (lnT l l.length).isSome = true) :
    Calls Try.prog 34 #[.pointer (some ⟨bq, oq, none⟩)] w fun e w' => e = .returned (.int .i64 (lastI (gLn l))) ∧ Below w.heap.size w w' := by
  have HS := Lib.hid (s_l02Sizes bq oq cap a l w hn hsz hcell hin)
  rw [hok] at HS
  have hl : (gLn l).length ≤ 1048576 := by
    cases h : lnT l l.length with
    | none => rw [h] at hok; cases hok
    | some ls => have e : gLn l = ls := by simp [gLn, h]
                 rw [e, (lnT_bd h).1]; exact hn
  clear hsz hin
  generalize gLn l = ls at *
  go_enter Try.func34, Try.ntmps34
  go_wp2_with fail
  refine HS.out.mono ?_
  rintro e w2 ⟨v', rfl, hb2, ho2⟩
  have ho := by first | exact ho2 rfl | exact ho2 trivial
  obtain ⟨a', cap', rfl, hsome, -⟩ := owns_sl3 ho
  by_cases h0 : ls.length = 0
  · have HF := Lib.hid (lastI_nil h0)
    clear ho ho2 hsome
    have h0i : ((ls.length : Int) == 0) = true := by rw [h0]; rfl
    go_wp2
    go_ret
    exact ⟨ret_int HF.out.symm, hb2⟩
  · obtain ⟨g, rfl⟩ := hsome h0
    obtain ⟨n, hnn⟩ : ∃ n, ls.length = n + 1 := ⟨ls.length - 1, by omega⟩
    have hc : w2.cell? ⟨g, n, none⟩ = some (.int .i64 (lastI ls)) := by
      rw [ho.cellAt n (by omega), lastI_at h0, hnn]
      simp [List.getD, show n < ls.length by omega]
    have h0i : ((ls.length : Int) == 0) = false := by rw [beq_eq_false_iff_ne]; omega
    have hni : (ls.length : Int) - 1 = (n : Int) := by omega
    have hn2 : (n : Int) < ls.length := by omega
    obtain ⟨x, hx⟩ : ∃ x, lastI ls = x := ⟨_, rfl⟩
    rw [hx] at hc
    have HX := Lib.hid hx
    clear ho ho2 hsome h0 hnn HS hx
    go_wp2
    go_ret
    exact ⟨ret_int HX.out.symm, by first | exact hb2 | exact below_drewN hb2 _⟩
end Go.Proofs.Ytoejelieogjjpaa

/- DepthOf, of the program and of the reference, and its law. -/
namespace Go.Proofs.Ytoejelieogjjpaa
open Go.ChangeShapes Go.WideShapes Go.RowKit
set_option linter.unusedVariables false
set_option linter.unusedSimpArgs false
set_option maxHeartbeats 2000000
set_option maxRecDepth 100000
theorem getD_mem {ds : List Int} {k : Nat} (h : k < ds.length) : ds.getD k 0 ∈ ds := by
  rw [List.getD, List.getElem?_eq_getElem h]; exact List.getElem_mem h
theorem lnT_pre {l : List Ru} : ∀ {n k : Nat}, k ≤ n → lnT l n ≠ none → ∃ ls, lnT l k = some ls
  | n, k, hk, h => by
    cases h2 : lnT l k with
    | some ls => exact ⟨ls, rfl⟩
    | none =>
      have := lnT_none h2 (n - k)
      rw [show k + (n - k) = n by omega] at this
      exact absurd this h
/-- what is known of a rule of a right grammar -/
theorem gOk_rule {l : List Ru} (h : gOk l = true) {k : Nat} (hk : k < l.length) : ((ruA l k).1.size = 0 → 0 ≤ (ruA l k).2.1 ∧ (ruA l k).2.1 < k ∧ 0 ≤ (ruA l k).2.2 ∧ (ruA l k).2.2 < k) ∧ ((ruA l k).1.size ≠ 0 → (ruA l k).1.size = 1 ∧ validB (ruA l k).1 = true ∧ (ruA l k).2.1 = 0 ∧ (ruA l k).2.2 = 0) := by
  obtain ⟨_, h2, _, _⟩ := gOk_some h
  obtain ⟨ls, h3⟩ := lnT_pre (show k + 1 ≤ l.length by omega) (by rw [h2]; simp)
  obtain ⟨ls0, h4⟩ := lnT_pre (show k ≤ l.length by omega) (by rw [h2]; simp)
  have hl := (lnT_bd h4).1
  have hne : ruP ls0 (ruA l k) ≠ none := by
    intro e
    rw [lnT_bad h4 e] at h3; cases h3
  constructor
  · intro hz
    apply Classical.byContradiction
    intro hc
    exact hne (ruP_out hz (by rw [hl]; exact hc))
  · intro hz
    apply Classical.byContradiction
    intro hc
    exact hne (ruP_bad hz hc)
end Go.Proofs.Ytoejelieogjjpaa

/- Marks of rules; the law of LengthsOf. -/
namespace Go.Proofs.Ytoejelieogjjpaa
open Go.ChangeShapes Go.WideShapes Go.RowKit
set_option linter.unusedVariables false
set_option linter.unusedSimpArgs false
set_option maxHeartbeats 4000000
set_option maxRecDepth 100000
end Go.Proofs.Ytoejelieogjjpaa

/- UsesOf, of the program and of the reference, and its law. -/
namespace Go.Proofs.Ytoejelieogjjpaa
open Go.ChangeShapes Go.WideShapes Go.RowKit
set_option linter.unusedVariables false
set_option linter.unusedSimpArgs false
set_option maxHeartbeats 2000000
set_option maxRecDepth 100000
end Go.Proofs.Ytoejelieogjjpaa

/- Tables of the call's own that grow; which letter a rule has. -/
import Derived.Test.YtimfbnjgodbgoaaHG
import Derived.Test.YtimfbnjgodbgoaaY2
import Derived.Deep.AppendLies
import Derived.Deep.RegionHeld3
import Derived.Deep.DrawnRows
namespace Go.Proofs.Ytimfbnjgodbgoaa
open Go.ChangeShapes Go.WideShapes Go.RowKit
set_option linter.unusedVariables false
set_option linter.unusedSimpArgs false
set_option maxHeartbeats 2000000
set_option maxRecDepth 100000
theorem auOk_facts {a : Au} (h : auOk a = true) : (1 ≤ a.st ∧ a.st ≤ 24) ∧ (0 ≤ a.sa ∧ a.sa ≤ a.st - 1) ∧ riOk (a.st - 1) a.fi = true ∧ (a.nx.length : Int) = a.st ∧ ∀ s, s < a.nx.length → roP (a.st - 1) (tA a.nx s) := by
  simp only [auOk, nxOk, Bool.and_eq_true, decide_eq_true_eq] at h
  obtain ⟨⟨⟨h1, h2⟩, h3⟩, h4, h5⟩ := h
  exact ⟨h1, h2, h3, h5, h4⟩
theorem ownT_nil {w : World} {base : Nat} (h : base ≤ w.heap.size) : OwnT base (w.alloc (.cells #[] 28)) (.slice (some ⟨w.heap.size, 0, none⟩) 0 0) [] := by
  refine ⟨[], rfl, ?_, fun k hk => absurd hk (by simp), fun i j _ hj => absurd hj (by simp), fun i b hi => absurd hi (by simp)⟩
  exact World.ownsRow_made w #[] 0 h (by decide) (by simp)
theorem own_nil64 {w : World} {base : Nat} (h : base ≤ w.heap.size) : (w.alloc (.cells #[] 2)).ownsRow base 2 1 (.slice (some ⟨w.heap.size, 0, none⟩) 0 0) ([] : List Int).length (iv []) :=
  World.ownsRow_made w #[] 0 h (by decide) (by simp)
theorem inT_all {w : World} {a : Option Addr} {cap : Nat} {t : Tb} (h : InT w (.slice a t.length cap) t) (h0 : 0 < t.length) :
    ∃ b off, a = some ⟨b, off, none⟩ ∧ b < w.heap.size ∧ ∀ k, k < t.length → ∃ r c, w.cell? ⟨b, off + k, none⟩ = some (.slice r (tA t k).length c) ∧ InI w (.slice r (tA t k).length c) (tA t k) := by
  obtain ⟨b, off, _, _, e, hb, _, _⟩ := inT_at h h0
  refine ⟨b, off, e, hb, fun k hk => ?_⟩
  obtain ⟨b', off', r, c, e', _, h1, h2⟩ := inT_at h hk
  rw [e] at e'
  injection e' with e'; injection e' with e1 e2
  subst e1 e2
  exact ⟨r, c, h1, h2⟩
theorem tA_app {t : Tb} {xs : List Int} {k : Nat} (h : k < t.length) : tA (t ++ [xs]) k = tA t k := by
  rw [tA, tA, List.getD, List.getD, List.getElem?_append_left h]
theorem tA_last {t : Tb} {xs : List Int} : tA (t ++ [xs]) t.length = xs := by
  rw [tA, List.getD, List.getElem?_append_right (Nat.le_refl _)]; simp
/-- a row that has just been made goes behind a table of the call's own -/
theorem appT {ops : Array Oper} {rest : List Oper} {o : Oper} {a : Act} {Q : Exit → Act → World → Prop} (hgd : o.guard = none) (s x : Operand)
    (ho : o.op = .call { callee := .builtin .append, args := #[s, x], argTypes := #[41, 41] })
    (base : Nat) (w0 wr : World) (g : Nat) (v r : Value) (t : Tb) (xs : List Int) (hs : a.eval s = v) (h : OwnT base w0 v t) (hb : Below w0.heap.size w0 wr) (hr : wr.ownsRow w0.heap.size 2 1 r xs.length (iv xs))
    (hx : a.eval x = .slice (some ⟨g, 0, none⟩) 1 1) (hg : g = wr.heap.size) (hn : t.length + 1 ≤ 1099511627776) (hbase : base ≤ w0.heap.size)
    (K : ∀ v' w', OwnT base w' v' (t ++ [xs]) → Below base wr w' → wr.heap.size ≤ w'.heap.size → wpList Try.prog ops Q rest (a.put o.dst v') w') :
    wpList Try.prog ops Q (o :: rest) a (wr.alloc (.cells #[r] 28)) := by
  obtain ⟨vs, hl, hv, hrows, hd1, hd2⟩ := h
  obtain ⟨ra, rc, hrs, -, -⟩ := owns_sl3 hr
  have hv' := owns_after hv hb
  refine app2 hgd s x 41 ho base 28 (.slice none 0 0) 1 24 Try.underlying41 info_row rfl (by decide) wr g v t.length vs hs hv' [r] rfl ?_ hx hg hn (by decide) (Nat.le_trans hbase hb.size) ?_
  · intro u hu
    simp at hu
    subst hu; subst hrs; rfl
  · intro v' w' ho' hgr hblk
    have hbel : Below base wr w' := below_of_grown hgr (Nat.le_trans hbase hb.size) (fun k hk => (hv.lt k hk).1)
    have rowlt : ∀ i b, i < t.length → (vs.getD i undef).ownBlock = some b → b < w0.heap.size := fun i b hi e => ((hrows i hi).lt b e).2
    have rnew : ∀ b, r.ownBlock = some b → w0.heap.size ≤ b ∧ b < wr.heap.size := fun b e => hr.lt b e
    have vlt : ∀ b, v.ownBlock = some b → b < w0.heap.size := fun b e => (hv.lt b e).2
    refine K v' w' ⟨vs ++ [r], by simp [hl], by simpa using ho', ?_, ?_, ?_⟩ hbel hgr.size
    · intro k hk
      simp at hk
      by_cases he : k < t.length
      · rw [tA_app he, List.getD, List.getElem?_append_left (by omega)]
        refine World.ownsRow.kept (owns_after (hrows k he) hb) hgr ?_
        cases hq : (vs.getD k undef).ownBlock with
        | none => exact .inl hq
        | some b =>
          right
          show (vs.getD k undef).ownBlock ≠ _
          rw [hq]; exact fun e => hd2 k b he hq e.symm
      · have e : k = t.length := by omega
        subst e
        rw [tA_last, List.getD, List.getElem?_append_right (by omega)]
        simp only [hl, Nat.sub_self, List.getElem?_cons_zero, Option.getD_some]
        refine owns_weak (base := w0.heap.size) (World.ownsRow.kept hr hgr ?_) hbase
        cases hq : r.ownBlock with
        | none => exact .inl rfl
        | some b =>
          right
          intro e
          have := vlt b e.symm
          have := (rnew b hq).1
          omega
    · intro i j hij hj b h1 h2
      simp at hj
      rw [List.getD, List.getElem?_append_left (by omega)] at h1
      by_cases he : j < t.length
      · rw [List.getD, List.getElem?_append_left (by omega)] at h2
        exact hd1 i j hij he b h1 h2
      · have e : j = t.length := by omega
        subst e
        rw [List.getD, List.getElem?_append_right (by omega)] at h2
        simp only [hl, Nat.sub_self, List.getElem?_cons_zero, Option.getD_some] at h2
        have := rowlt i b hij h1
        have := (rnew b h2).1
        omega
    · intro i b hi h1 h2
      simp at hi
      have hb1 : b < wr.heap.size ∧ v.ownBlock ≠ some b := by
        by_cases he : i < t.length
        · rw [List.getD, List.getElem?_append_left (by omega)] at h1
          refine ⟨?_, hd2 i b he h1⟩
          have := rowlt i b he h1
          have := hb.size
          omega
        · have e : i = t.length := by omega
          subst e
          rw [List.getD, List.getElem?_append_right (by omega)] at h1
          simp only [hl, Nat.sub_self, List.getElem?_cons_zero, Option.getD_some] at h1
          obtain ⟨q1, q2⟩ := rnew b h1
          exact ⟨q2, fun e => by have := vlt b e; omega⟩
      rcases hblk with hblk | ⟨k, hk, hk2⟩
      · rw [hblk] at h2; exact hb1.2 h2
      · rw [hk] at h2; injection h2 with h2; omega
/-- append of an integer, at a step of a region that draws its order -/
theorem step_app_i64 {ops : Array Oper} {o : Oper} {a : Act} {K : Act → World → Prop} {Q : Exit → Act → World → Prop} {E : Prop} (hgd : o.guard = none) (s x : Operand)
    (ho : o.op = .call { callee := .builtin .append, args := #[s, x], argTypes := #[28, 28] })
    (base : Nat) (w : World) (v : Value) (n : Nat) (xs : List Value) (y : Int) (hs : a.eval s = v) (hown : w.ownsRow base 2 1 v n xs)
    (B : Nat) (hx : a.eval x = .slice (some ⟨B, 0, none⟩) 1 1) (hcell : w.cell? ⟨B, 0, none⟩ = some (.int .i64 y)) (hn : n + 1 ≤ 1099511627776) (hbase : base ≤ w.heap.size)
    (h : ∀ v' w', w'.ownsRow base 2 1 v' (n + 1) (xs ++ [.int .i64 y]) → Below base w w' → w.heap.size ≤ w'.heap.size → w.grownBy w' v.ownBlock → K (a.put o.dst v') w') :
    if Region.wanted o (yielded ops a.tmps) = true then Oper.wp Try.prog o a w K Q else E := by
  obtain ⟨i0, hi, hz0, hz1, hz2⟩ := info_parts info_i64
  have hlt := hown.lt
  refine step_append_lies w hgd s x 28 ho base 2 i0 (.int .i64 0) 1 8 Try.underlying28 hi hz0 hz1 hz2 rfl (by decide) v n xs hs hown ⟨B, 0, none⟩ 1 1 [.int .i64 y] hx rfl ?_ ?_ (by decide) ?_ ?_ hbase _ rfl ?_
  · intro j u hj
    cases j with
    | zero =>
      simp at hj; subst hj
      have : (⟨B, 0, none⟩ : Addr).add 0 = ⟨B, 0, none⟩ := by unfold Addr.add; split <;> simp_all
      rw [this]; exact hcell
    | succ j => simp at hj
  · simp [Value.oneCell']
  · unfold maxLen; omega
  · omega
  · intro g cap w1 ho1 hg _ hl1
    have hb : Below base w w1 := Below.grown (Below.refl _ _) hg hbase (fun k hk => (hlt k hk).1)
    exact h _ w1 ho1 hb hb.size hg
theorem st_far {w : World} {b o b' o' : Nat} {v : Value} (h : b ≠ b') : (w.setCell ⟨b, o, none⟩ v).cell? ⟨b', o', none⟩ = w.cell? ⟨b', o', none⟩ := cell_st_ne v h
theorem st7 {w : World} {b b' o' : Nat} {v0 v1 v2 v3 v4 v5 v6 : Value} (h : b ≠ b') : (((((((w.setCell ⟨b, 0, none⟩ v0).setCell ⟨b, 1, none⟩ v1).setCell ⟨b, 2, none⟩ v2).setCell ⟨b, 3, none⟩ v3).setCell ⟨b, 4, none⟩ v4).setCell ⟨b, 5, none⟩ v5).setCell ⟨b, 6, none⟩ v6).cell? ⟨b', o', none⟩ = w.cell? ⟨b', o', none⟩ := by
  rw [st_far h, st_far h, st_far h, st_far h, st_far h, st_far h, st_far h]
/-- seven cells of a box are written -/
def set7 (w : World) (b : Nat) (v0 v1 v2 v3 v4 v5 v6 : Value) : World := (((((((w.setCell ⟨b, 0, none⟩ v0).setCell ⟨b, 1, none⟩ v1).setCell ⟨b, 2, none⟩ v2).setCell ⟨b, 3, none⟩ v3).setCell ⟨b, 4, none⟩ v4).setCell ⟨b, 5, none⟩ v5).setCell ⟨b, 6, none⟩ v6)
theorem put7 {w : World} {b : Nat} {z0 z1 z2 z3 z4 z5 z6 : Value} (v0 v1 v2 v3 v4 v5 v6 : Value) (h0 : w.cell? ⟨b, 0, none⟩ = some z0) (h1 : w.cell? ⟨b, 1, none⟩ = some z1) (h2 : w.cell? ⟨b, 2, none⟩ = some z2) (h3 : w.cell? ⟨b, 3, none⟩ = some z3) (h4 : w.cell? ⟨b, 4, none⟩ = some z4) (h5 : w.cell? ⟨b, 5, none⟩ = some z5) (h6 : w.cell? ⟨b, 6, none⟩ = some z6) :
    (set7 w b v0 v1 v2 v3 v4 v5 v6).cell? ⟨b, 0, none⟩ = some v0 ∧ (set7 w b v0 v1 v2 v3 v4 v5 v6).cell? ⟨b, 1, none⟩ = some v1 ∧ (set7 w b v0 v1 v2 v3 v4 v5 v6).cell? ⟨b, 2, none⟩ = some v2 ∧ (set7 w b v0 v1 v2 v3 v4 v5 v6).cell? ⟨b, 3, none⟩ = some v3 ∧ (set7 w b v0 v1 v2 v3 v4 v5 v6).cell? ⟨b, 4, none⟩ = some v4 ∧ (set7 w b v0 v1 v2 v3 v4 v5 v6).cell? ⟨b, 5, none⟩ = some v5 ∧ (set7 w b v0 v1 v2 v3 v4 v5 v6).cell? ⟨b, 6, none⟩ = some v6 := by
  have o : ∀ (w : World) (i j : Nat) (v : Value), i ≠ j → (w.setCell ⟨b, i, none⟩ v).cell? ⟨b, j, none⟩ = w.cell? ⟨b, j, none⟩ := fun w i j v h => by rw [World.cell?_setCell_other (h := by first | (intro e; injection e with _ e; exact h e) | (intro e; injection e with _ e; exact h e.symm))]
  unfold set7
  refine ⟨?_, ?_, ?_, ?_, ?_, ?_, ?_⟩
  · rw [o _ 6 0 _ (by decide), o _ 5 0 _ (by decide), o _ 4 0 _ (by decide), o _ 3 0 _ (by decide), o _ 2 0 _ (by decide), o _ 1 0 _ (by decide)]; exact cell_st_same _ h0
  · rw [o _ 6 1 _ (by decide), o _ 5 1 _ (by decide), o _ 4 1 _ (by decide), o _ 3 1 _ (by decide), o _ 2 1 _ (by decide)]; exact cell_st_same _ (by rw [o _ 0 1 _ (by decide)]; exact h1)
  · rw [o _ 6 2 _ (by decide), o _ 5 2 _ (by decide), o _ 4 2 _ (by decide), o _ 3 2 _ (by decide)]; exact cell_st_same _ (by rw [o _ 1 2 _ (by decide), o _ 0 2 _ (by decide)]; exact h2)
  · rw [o _ 6 3 _ (by decide), o _ 5 3 _ (by decide), o _ 4 3 _ (by decide)]; exact cell_st_same _ (by rw [o _ 2 3 _ (by decide), o _ 1 3 _ (by decide), o _ 0 3 _ (by decide)]; exact h3)
  · rw [o _ 6 4 _ (by decide), o _ 5 4 _ (by decide)]; exact cell_st_same _ (by rw [o _ 3 4 _ (by decide), o _ 2 4 _ (by decide), o _ 1 4 _ (by decide), o _ 0 4 _ (by decide)]; exact h4)
  · rw [o _ 6 5 _ (by decide)]; exact cell_st_same _ (by rw [o _ 4 5 _ (by decide), o _ 3 5 _ (by decide), o _ 2 5 _ (by decide), o _ 1 5 _ (by decide), o _ 0 5 _ (by decide)]; exact h5)
  · exact cell_st_same _ (by rw [o _ 5 6 _ (by decide), o _ 4 6 _ (by decide), o _ 3 6 _ (by decide), o _ 2 6 _ (by decide), o _ 1 6 _ (by decide), o _ 0 6 _ (by decide)]; exact h6)
theorem own7 {w : World} {base e size n b : Nat} {v0 v1 v2 v3 v4 v5 v6 v : Value} {xs : List Value} (h : w.ownsRow base e size v n xs) (hb : b < base) : (set7 w b v0 v1 v2 v3 v4 v5 v6).ownsRow base e size v n xs := by
  unfold set7
  exact ownsRow_setCell_below (ownsRow_setCell_below (ownsRow_setCell_below (ownsRow_setCell_below (ownsRow_setCell_below (ownsRow_setCell_below (ownsRow_setCell_below h (a := ⟨b, 0, none⟩) hb _) (a := ⟨b, 1, none⟩) hb _) (a := ⟨b, 2, none⟩) hb _) (a := ⟨b, 3, none⟩) hb _) (a := ⟨b, 4, none⟩) hb _) (a := ⟨b, 5, none⟩) hb _) (a := ⟨b, 6, none⟩) hb _
theorem ownT7 {w : World} {base b : Nat} {v0 v1 v2 v3 v4 v5 v6 v : Value} {t : Tb} (h : OwnT base w v t) (hb : b < base) : OwnT base (set7 w b v0 v1 v2 v3 v4 v5 v6) v t := by
  unfold set7
  exact ownT_st (ownT_st (ownT_st (ownT_st (ownT_st (ownT_st (ownT_st h hb _) hb _) hb _) hb _) hb _) hb _) hb _
theorem below7 {w w1 : World} {B b : Nat} {v0 v1 v2 v3 v4 v5 v6 : Value} (h : Below B w w1) (hb : B ≤ b) : Below B w (set7 w1 b v0 v1 v2 v3 v4 v5 v6) := by
  unfold set7
  exact ((((((h.setCell (p := ⟨b, 0, none⟩) hb _).setCell (p := ⟨b, 1, none⟩) hb _).setCell (p := ⟨b, 2, none⟩) hb _).setCell (p := ⟨b, 3, none⟩) hb _).setCell (p := ⟨b, 4, none⟩) hb _).setCell (p := ⟨b, 5, none⟩) hb _).setCell (p := ⟨b, 6, none⟩) hb _
theorem wrap_u8 {c : Int} (h0 : 0 ≤ c) (h1 : c < 256) : IntKind.u8.wrap c = c := by
  simp only [IntKind.wrap, IntKind.bits, IntKind.signed]
  first | omega | (simp; omega) | (simp [Int.emod_eq_of_lt, h0, h1])
/-- which letter -/
def lcI (a : ByteArray) : Nat := if h : 0 < a.size then a[0].toNat - 97 else 0
theorem lcI_ok {a : ByteArray} (h : a.size = 1) (hv : validB a = true) (h0 : 0 < a.size) : lcI a < 4 ∧ a[0].toNat = 97 + lcI a := by
  rw [valid_one h h0] at hv
  have e : lcI a = a[0].toNat - 97 := by unfold lcI; rw [dif_pos h0]
  simp [letB] at hv
  rw [e]
  omega
end Go.Proofs.Ytimfbnjgodbgoaa

/- Two lists that grow in turn: an automaton's finals and its table. -/
import Derived.Test.YtefcdkgfabaffaaKT
namespace Go.Proofs.Ytefcdkgfabaffaa
open Go.ChangeShapes Go.WideShapes Go.RowKit
set_option linter.unusedVariables false
set_option linter.unusedSimpArgs false
set_option maxHeartbeats 2000000
set_option maxRecDepth 100000
/-- a row that has just been made goes behind a table of the call's own, its rows' values told -/
theorem appR {ops : Array Oper} {rest : List Oper} {o : Oper} {a : Act} {Q : Exit → Act → World → Prop} (hgd : o.guard = none) (s x : Operand)
    (ho : o.op = .call { callee := .builtin .append, args := #[s, x], argTypes := #[23, 23] })
    (base : Nat) (w0 wr : World) (g : Nat) (v r : Value) (vs : List Value) (t : Tb) (xs : List Int) (hs : a.eval s = v) (h : RowsT base w0 v vs t) (hb : Below w0.heap.size w0 wr) (hr : wr.ownsRow w0.heap.size 2 1 r xs.length (iv xs))
    (hx : a.eval x = .slice (some ⟨g, 0, none⟩) 1 1) (hg : g = wr.heap.size) (hn : t.length + 1 ≤ 1099511627776) (hbase : base ≤ w0.heap.size)
    (K : ∀ v' w', RowsT base w' v' (vs ++ [r]) (t ++ [xs]) → wr.grownBy w' v.ownBlock → (v'.ownBlock = v.ownBlock ∨ ∃ k, v'.ownBlock = some k ∧ wr.heap.size ≤ k) → wpList Try.prog ops Q rest (a.put o.dst v') w') :
    wpList Try.prog ops Q (o :: rest) a (wr.alloc (.cells #[r] 22)) := by
  obtain ⟨hl, hv, hrows, hd1, hd2⟩ := h
  obtain ⟨ra, rc, hrs, -, -⟩ := owns_sl3 hr
  have hv' := owns_after hv hb
  refine app2 hgd s x 23 ho base 22 (.slice none 0 0) 1 24 Try.underlying23 info_row rfl (by decide) wr g v t.length vs hs hv' [r] rfl ?_ hx hg hn (by decide) (Nat.le_trans hbase hb.size) ?_
  · intro u hu
    simp at hu
    subst hu; subst hrs; rfl
  · intro v' w' ho' hgr hblk
    have hbel : Below base wr w' := below_of_grown hgr (Nat.le_trans hbase hb.size) (fun k hk => (hv.lt k hk).1)
    have rowlt : ∀ i b, i < t.length → (vs.getD i undef).ownBlock = some b → b < w0.heap.size := fun i b hi e => ((hrows i hi).lt b e).2
    have rnew : ∀ b, r.ownBlock = some b → w0.heap.size ≤ b ∧ b < wr.heap.size := fun b e => hr.lt b e
    have vlt : ∀ b, v.ownBlock = some b → b < w0.heap.size := fun b e => (hv.lt b e).2
    refine K v' w' ⟨by simp [hl], by simpa using ho', ?_, ?_, ?_⟩ hgr hblk
    · intro k hk
      simp at hk
      by_cases he : k < t.length
      · rw [tA_app he, List.getD, List.getElem?_append_left (by omega)]
        refine World.ownsRow.kept (owns_after (hrows k he) hb) hgr ?_
        cases hq : (vs.getD k undef).ownBlock with
        | none => exact .inl hq
        | some b =>
          right
          show (vs.getD k undef).ownBlock ≠ _
          rw [hq]; exact fun e => hd2 k b he hq e.symm
      · have e : k = t.length := by omega
        subst e
        rw [tA_last, List.getD, List.getElem?_append_right (by omega)]
        simp only [hl, Nat.sub_self, List.getElem?_cons_zero, Option.getD_some]
        refine owns_weak (base := w0.heap.size) (World.ownsRow.kept hr hgr ?_) hbase
        cases hq : r.ownBlock with
        | none => exact .inl rfl
        | some b =>
          right
          intro e
          have := vlt b e.symm
          have := (rnew b hq).1
          omega
    · intro i j hij hj b h1 h2
      simp at hj
      rw [List.getD, List.getElem?_append_left (by omega)] at h1
      by_cases he : j < t.length
      · rw [List.getD, List.getElem?_append_left (by omega)] at h2
        exact hd1 i j hij he b h1 h2
      · have e : j = t.length := by omega
        subst e
        rw [List.getD, List.getElem?_append_right (by omega)] at h2
        simp only [hl, Nat.sub_self, List.getElem?_cons_zero, Option.getD_some] at h2
        have := rowlt i b hij h1
        have := (rnew b h2).1
        omega
    · intro i b hi h1 h2
      simp at hi
      have hb1 : b < wr.heap.size ∧ v.ownBlock ≠ some b := by
        by_cases he : i < t.length
        · rw [List.getD, List.getElem?_append_left (by omega)] at h1
          refine ⟨?_, hd2 i b he h1⟩
          have := rowlt i b he h1
          have := hb.size
          omega
        · have e : i = t.length := by omega
          subst e
          rw [List.getD, List.getElem?_append_right (by omega)] at h1
          simp only [hl, Nat.sub_self, List.getElem?_cons_zero, Option.getD_some] at h1
          obtain ⟨q1, q2⟩ := rnew b h1
          exact ⟨q2, fun e => by have := vlt b e; omega⟩
      rcases hblk with hblk | ⟨k, hk, hk2⟩
      · rw [hblk] at h2; exact hb1.2 h2
      · rw [hk] at h2; injection h2 with h2; omega
/-- a row more: the finals stay apart -/
theorem auR_row {base : Nat} {w0 wr w' : World} {f v v' r : Value} {vs : List Value} {a : Au} {xs : List Int} (h : AuR base w0 f v vs a) (hb : Below w0.heap.size w0 wr) (hr : wr.ownsRow w0.heap.size 2 1 r xs.length (iv xs))
    (h1 : RowsT base w' v' (vs ++ [r]) (a.nx ++ [xs])) (hg : wr.grownBy w' v.ownBlock) (hk : v'.ownBlock = v.ownBlock ∨ ∃ k, v'.ownBlock = some k ∧ wr.heap.size ≤ k) : AuR base w' f v' (vs ++ [r]) ⟨a.st, a.sa, a.fi, a.nx ++ [xs]⟩ := by
  obtain ⟨hf, hrows, hd⟩ := h
  refine ⟨World.ownsRow.kept (owns_after hf hb) hg ?_, h1, fun b hb1 => ⟨fun e => ?_, fun i hi e => ?_⟩⟩
  · cases hq : f.ownBlock with
    | none => exact .inl rfl
    | some b => right; exact fun e => (hd b hq).1 e.symm
  · have h2 := (hf.lt b hb1).2
    have h3 := hb.size
    rcases hk with hk | ⟨k, hk, hk2⟩
    · rw [hk] at e; exact (hd b hb1).1 e
    · rw [hk] at e; injection e with e; omega
  · have h2 := (hf.lt b hb1).2
    have hl : vs.length = a.nx.length := hrows.1
    have hi2 : i < (a.nx ++ [xs]).length := hi
    simp at hi2
    by_cases he : i < a.nx.length
    · rw [List.getD, List.getElem?_append_left (by omega)] at e
      exact (hd b hb1).2 i he e
    · have e2 : i = vs.length := by omega
      subst e2
      rw [List.getD, List.getElem?_append_right (Nat.le_refl _)] at e
      simp only [Nat.sub_self, List.getElem?_cons_zero, Option.getD_some] at e
      have := (hr.lt b e).1
      omega
/-- a final more: it stays apart from the table -/
theorem auR_fin {base : Nat} {w w' : World} {f f' v : Value} {vs : List Value} {a : Au} {y : Int} (h : AuR base w f v vs a) (h1 : w'.ownsRow base 2 1 f' (a.fi.length + 1) (iv a.fi ++ [.int .i64 y]))
    (hg : w.grownBy w' f.ownBlock) (hk : f'.ownBlock = f.ownBlock ∨ ∃ k, f'.ownBlock = some k ∧ w.heap.size ≤ k) : AuR base w' f' v vs ⟨a.st, a.sa, a.fi ++ [y], a.nx⟩ := by
  obtain ⟨hf, hrows, hd⟩ := h
  refine ⟨by simpa [iv] using h1, rowsT_gpx hrows (Gp.of (P := fun b => f.ownBlock = some b) hg (fun b hb => hb)) (fun b hb hb2 => (hd b hb2).1 hb) (fun i hi b hb hb2 => (hd b hb2).2 i hi hb), fun b hb => ⟨fun e => ?_, fun i hi e => ?_⟩⟩
  · rcases hk with hk | ⟨k, hk, hk2⟩
    · rw [hk] at hb; exact (hd b hb).1 e
    · rw [hk] at hb; injection hb with hb
      have := (hrows.2.1.lt b e).2
      omega
  · rcases hk with hk | ⟨k, hk, hk2⟩
    · rw [hk] at hb; exact (hd b hb).2 i hi e
    · rw [hk] at hb; injection hb with hb
      have := ((hrows.2.2.1 i hi).lt b e).2
      omega
end Go.Proofs.Ytefcdkgfabaffaa

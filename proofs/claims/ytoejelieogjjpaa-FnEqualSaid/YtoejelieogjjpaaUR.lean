/- Appends of rules to rules of the call's own. -/
import Derived.Test.YtoejelieogjjpaaY2
import Derived.Deep.AppendLies
namespace Go.Proofs.Ytoejelieogjjpaa
open Go.ChangeShapes Go.WideShapes Go.RowKit
set_option linter.unusedVariables false
set_option linter.unusedSimpArgs false
set_option maxHeartbeats 2000000
set_option maxRecDepth 100000
theorem info_ruR : (Try.prog.info? 59).map (fun i => (i.zero, i.size, i.bytes)) = some (some (.agg #[.string ⟨#[]⟩, .int .i64 0, .int .i64 0]), 3, 32) := by kernel_rfl
theorem ruV_app (l m : List Ru) : ruV (l ++ m) = ruV l ++ ruV m := by simp [ruV]
theorem ruV_one (l : List Ru) : ∀ u ∈ ruV l, u.oneCell' = true := by
  intro u hu
  simp only [ruV, List.mem_flatMap] at hu
  obtain ⟨r, -, hr⟩ := hu
  simp at hr
  rcases hr with rfl | rfl | rfl <;> rfl
theorem owns_cases3 {w : World} {base e size : Nat} {v : Value} {n : Nat} {xs : List Value} (h : w.ownsRow base e size v n xs) : (v = .slice none 0 0 ∧ n = 0 ∧ xs = []) ∨ ∃ g cap, v = .slice (some ⟨g, 0, none⟩) n cap ∧ base ≤ g ∧ g < w.heap.size ∧ n ≤ cap ∧ cap ≤ maxLen ∧ xs.length = n * size := by
  have hl := h.lt
  obtain ⟨h1, h2⟩ := h
  rcases h2 with ⟨rfl, rfl⟩ | ⟨g, cap, cur, rfl, hb, hh, hn, hm, _, _⟩
  · left; exact ⟨rfl, rfl, List.eq_nil_of_length_eq_zero (by simpa using h1)⟩
  · right
    exact ⟨g, cap, rfl, hb, (hl g rfl).2, hn, hm, h1⟩
theorem owns_some3 {w : World} {base e size : Nat} {v : Value} {n : Nat} {xs : List Value} (h : w.ownsRow base e size v n xs) (h0 : n ≠ 0) : ∃ g cap, v = .slice (some ⟨g, 0, none⟩) n cap ∧ base ≤ g ∧ g < w.heap.size := by
  rcases owns_cases3 h with ⟨_, hn, _⟩ | ⟨g, cap, rfl, h1, h2, _⟩
  · exact absurd hn h0
  · exact ⟨g, cap, rfl, h1, h2⟩
/-- rules of the call's own -/
def OwnRu (w : World) (base : Nat) (v : Value) (l : List Ru) : Prop := w.ownsRow base 59 3 v l.length (ruV l)
theorem OwnRu.kept {w w' : World} {base : Nat} {v : Value} {l : List Ru} {r : Option Nat} (h : OwnRu w base v l) (hg : w.grownBy w' r) (hn : v.ownBlock = none ∨ v.ownBlock ≠ r) : OwnRu w' base v l := World.ownsRow.kept h hg hn
theorem OwnRu.alloc {w : World} {base : Nat} {v : Value} {l : List Ru} (h : OwnRu w base v l) (o : Obj) : OwnRu (w.alloc o) base v l := World.ownsRow.alloc h o
theorem OwnRu.weak {w : World} {base b2 : Nat} {v : Value} {l : List Ru} (h : OwnRu w base v l) (hb : b2 ≤ base) : OwnRu w b2 v l := owns_weak h hb
theorem inRu_of_own {w : World} {base : Nat} {v : Value} {l : List Ru} (h : OwnRu w base v l) (h0 : l ≠ []) : InRu w v l := by
  unfold OwnRu at h
  have hp : 0 < l.length := List.length_pos_iff.2 h0
  rcases owns_cases3 h with ⟨_, hn, _⟩ | ⟨g, cap, rfl, _⟩
  · omega
  · exact inRu_own rfl h
/-- append of one rule, at a step of a region that draws its order -/
theorem step_app_ru {ops : Array Oper} {o : Oper} {a : Act} {K : Act → World → Prop} {Q : Exit → Act → World → Prop} {E : Prop} (hgd : o.guard = none) (s x : Operand)
    (ho : o.op = .call { callee := .builtin .append, args := #[s, x], argTypes := #[24, 24] })
    (base : Nat) (w : World) (v : Value) (l : List Ru) (r : Ru) (hs : a.eval s = v) (hown : OwnRu w base v l)
    (B : Nat) (hx : a.eval x = .slice (some ⟨B, 0, none⟩) 1 1) (hc0 : w.cell? ⟨B, 0, none⟩ = some (.string r.1)) (hc1 : w.cell? ⟨B, 1, none⟩ = some (.int .i64 r.2.1)) (hc2 : w.cell? ⟨B, 2, none⟩ = some (.int .i64 r.2.2)) (hn : l.length ≤ 1048576) (hbase : base ≤ w.heap.size)
    (h : ∀ g cap w', OwnRu w' base (.slice (some ⟨g, 0, none⟩) (l.length + 1) cap) (l ++ [r]) → w.grownBy w' v.ownBlock → base ≤ g → g < w'.heap.size → (v.ownBlock = some g ∨ g = w.heap.size) → K (a.put o.dst (.slice (some ⟨g, 0, none⟩) (l.length + 1) cap)) w') :
    if Region.wanted o (yielded ops a.tmps) = true then Oper.wp Try.prog o a w K Q else E := by
  obtain ⟨i0, hi, hz0, hz1, hz2⟩ := info_parts info_ruR
  refine step_append_lies w hgd s x 24 ho base 59 i0 (.agg #[.string ⟨#[]⟩, .int .i64 0, .int .i64 0]) 3 32 Try.underlying24 hi hz0 hz1 hz2 rfl (by decide) v l.length (ruV l) hs hown ⟨B, 0, none⟩ 1 1 (ruV [r]) hx rfl ?_ (ruV_one [r]) (by decide) ?_ ?_ hbase _ rfl ?_
  · intro j u hj
    have : (⟨B, 0, none⟩ : Addr).add j = ⟨B, j, none⟩ := by unfold Addr.add; split <;> simp_all
    rw [this]
    match j, hj with
    | 0, hj => simp [ruV] at hj; subst hj; exact hc0
    | 1, hj => simp [ruV] at hj; subst hj; exact hc1
    | 2, hj => simp [ruV] at hj; subst hj; exact hc2
    | j + 3, hj => simp [ruV] at hj
  · unfold maxLen; omega
  · omega
  · intro g cap w1 ho1 hg hor hl1
    refine h g cap w1 ?_ hg ?_ hl1 hor
    · unfold OwnRu; rw [ruV_app, List.length_append]; exact ho1
    · rcases hor with h1 | rfl
      · exact (hown.lt g h1).1
      · exact hbase
/-- append of one rule, in a plain region -/
theorem list_app_ru {ops : Array Oper} {rest : List Oper} {o : Oper} {a : Act} {Q : Exit → Act → World → Prop} (hgd : o.guard = none) (s x : Operand)
    (ho : o.op = .call { callee := .builtin .append, args := #[s, x], argTypes := #[24, 24] })
    (base : Nat) (w : World) (v : Value) (l : List Ru) (r : Ru) (hs : a.eval s = v) (hown : OwnRu w base v l)
    (B : Nat) (hx : a.eval x = .slice (some ⟨B, 0, none⟩) 1 1) (hc0 : w.cell? ⟨B, 0, none⟩ = some (.string r.1)) (hc1 : w.cell? ⟨B, 1, none⟩ = some (.int .i64 r.2.1)) (hc2 : w.cell? ⟨B, 2, none⟩ = some (.int .i64 r.2.2)) (hn : l.length ≤ 1048576) (hbase : base ≤ w.heap.size)
    (h : ∀ g cap w', OwnRu w' base (.slice (some ⟨g, 0, none⟩) (l.length + 1) cap) (l ++ [r]) → w.grownBy w' v.ownBlock → base ≤ g → g < w'.heap.size → (v.ownBlock = some g ∨ g = w.heap.size) → wpList Try.prog ops Q rest (a.put o.dst (.slice (some ⟨g, 0, none⟩) (l.length + 1) cap)) w') :
    wpList Try.prog ops Q (o :: rest) a w := by
  obtain ⟨i0, hi, hz0, hz1, hz2⟩ := info_parts info_ruR
  refine wpList_append_lies w hgd s x 24 ho base 59 i0 (.agg #[.string ⟨#[]⟩, .int .i64 0, .int .i64 0]) 3 32 Try.underlying24 hi hz0 hz1 hz2 rfl (by decide) v l.length (ruV l) hs hown ⟨B, 0, none⟩ 1 1 (ruV [r]) hx rfl ?_ (ruV_one [r]) (by decide) ?_ ?_ hbase _ rfl ?_
  · intro j u hj
    have : (⟨B, 0, none⟩ : Addr).add j = ⟨B, j, none⟩ := by unfold Addr.add; split <;> simp_all
    rw [this]
    match j, hj with
    | 0, hj => simp [ruV] at hj; subst hj; exact hc0
    | 1, hj => simp [ruV] at hj; subst hj; exact hc1
    | 2, hj => simp [ruV] at hj; subst hj; exact hc2
    | j + 3, hj => simp [ruV] at hj
  · unfold maxLen; omega
  · omega
  · intro g cap w1 ho1 hg hor hl1
    refine h g cap w1 ?_ hg ?_ hl1 hor
    · unfold OwnRu; rw [ruV_app, List.length_append]; exact ho1
    · rcases hor with h1 | rfl
      · exact (hown.lt g h1).1
      · exact hbase
theorem keepA {w w1 : World} {x : Value} {t : TypeId} {o : Obj} (hg : ((w.alloc (.cells #[x] t)).alloc o).grownBy w1 (some (w.heap.size + 1))) : w1.cell? ⟨w.heap.size, 0, none⟩ = some x ∧ w1.frozen? ⟨w.heap.size, 0, none⟩ = false := by
  refine ⟨?_, ?_⟩
  · rw [hg.cell_far _ (by simp; omega) (by simp)]; simp [go_sem]
  · rw [hg.frozen_far _ (by simp; omega) (by simp)]; simp [go_sem]
/-- a box behind an append -/
theorem app_box {wr w2 w4 : World} {o : Obj} {g bx : Nat} {v : Value} (t0 : Below wr.heap.size wr w2) (hg : (w2.alloc o).grownBy w4 (some g)) (hb : bx < wr.heap.size) (hne : g ≠ bx) (hc : wr.cell? ⟨bx, 0, none⟩ = some v) (hf : wr.frozen? ⟨bx, 0, none⟩ = false) : w4.cell? ⟨bx, 0, none⟩ = some v ∧ w4.frozen? ⟨bx, 0, none⟩ = false := by
  have hz := t0.size
  have t1 : Below wr.heap.size wr (w2.alloc o) := t0.alloc hz _
  refine ⟨?_, ?_⟩
  · rw [hg.cell_far _ (by simp; omega) (by simp; omega), t1.cell (p := ⟨bx, 0, none⟩) hb]; exact hc
  · rw [hg.frozen_far _ (by simp; omega) (by simp; omega), t1.frozen (p := ⟨bx, 0, none⟩) hb]; exact hf
theorem app_below {w wr w2 w4 : World} {o : Obj} {g b : Nat} (h : Below b w wr) (hb : b ≤ w.heap.size) (t0 : Below wr.heap.size wr w2) (hg : (w2.alloc o).grownBy w4 (some g)) (hge : b ≤ g) : Below b w w4 := by
  have h1 := h.size
  have h2 := t0.size
  exact Below.grown ((h.trans (t0.mono (by omega))).alloc (by omega) _) hg (by simp; omega) (fun q hq => by injection hq with hq; omega)
theorem app_ne {wr w2 : World} {o : Obj} {g g3 bx c : Nat} {len : Nat} (t0 : Below wr.heap.size wr w2) (hor : (Value.slice (some ⟨g, 0, none⟩) len c).ownBlock = some g3 ∨ g3 = (w2.alloc o).heap.size) (hne : g ≠ bx) (hb : bx < wr.heap.size) : g3 ≠ bx := by
  have hz := t0.size
  rcases hor with h | h
  · simp [Value.ownBlock] at h; omega
  · simp at h; omega
theorem ru_small {l : List Ru} (h : gOk l = true) : ∀ r ∈ l, r.1.size ≤ 1 := by
  intro r hr
  obtain ⟨k, hk, rfl⟩ := List.mem_iff_getElem.1 hr
  have hru := gOk_rule h hk
  have e : ruA l k = l[k] := by rw [ruA, List.getD, List.getElem?_eq_getElem hk]; rfl
  rw [e] at hru
  by_cases hz : l[k].1.size = 0
  · omega
  · have := (hru.2 hz).1; omega
end Go.Proofs.Ytoejelieogjjpaa

/- Marks of tables and of automata. -/
import Derived.Test.YtimfbnjgodbgoaaKC
namespace Go.Proofs.Ytimfbnjgodbgoaa
open Go.ChangeShapes Go.WideShapes Go.RowKit
set_option linter.unusedVariables false
set_option linter.unusedSimpArgs false
set_option maxHeartbeats 2000000
set_option maxRecDepth 100000
/-- only blocks of a kind, and new ones, may have changed -/
structure Gp (P : Nat → Prop) (w w' : World) : Prop where
  os : w'.os = w.os
  tape : w'.tape = w.tape
  output : w'.output = w.output
  size : w.heap.size ≤ w'.heap.size
  block : ∀ k, k < w.heap.size → ¬ P k → w'.heap[k]? = w.heap[k]?
theorem Gp.refl (P : Nat → Prop) (w : World) : Gp P w w := ⟨rfl, rfl, rfl, Nat.le_refl _, fun _ _ _ => rfl⟩
theorem Gp.trans {P : Nat → Prop} {a b c : World} (h : Gp P a b) (k : Gp P b c) : Gp P a c :=
  ⟨k.os.trans h.os, k.tape.trans h.tape, k.output.trans h.output, Nat.le_trans h.size k.size, fun i hi hm => (k.block i (by have := h.size; omega) hm).trans (h.block i hi hm)⟩
theorem Gp.of {P : Nat → Prop} {w w' : World} {r : Option Nat} (g : w.grownBy w' r) (h : ∀ b, r = some b → P b) : Gp P w w' :=
  ⟨g.os, g.tape, g.output, g.size, fun k hk hm => g.block k hk (fun e => hm (h k e.symm))⟩
theorem Gp.mono {P Q : Nat → Prop} {w w' : World} (g : Gp P w w') (h : ∀ b, P b → Q b) : Gp Q w w' :=
  ⟨g.os, g.tape, g.output, g.size, fun k hk hm => g.block k hk (fun e => hm (h k e))⟩
theorem Gp.ofBelow {P : Nat → Prop} {w w' : World} (g : Below w.heap.size w w') : Gp P w w' :=
  ⟨g.os, g.tape, g.output, g.size, fun k hk _ => g.block k hk⟩
theorem below_gp {B : Nat} {P : Nat → Prop} {w0 w w' : World} (h : Below B w0 w) (g : Gp P w w') (hB : B ≤ w.heap.size) (hm : ∀ b, P b → B ≤ b) : Below B w0 w' :=
  h.trans ⟨g.os, g.tape, g.output, g.size, fun k hk => g.block k (by omega) (fun e => by have := hm k e; omega)⟩
theorem owns_gp {P : Nat → Prop} {w w' : World} {base e size n : Nat} {v : Value} {xs : List Value} (h : w.ownsRow base e size v n xs) (g : Gp P w w') (hne : ∀ b, v.ownBlock = some b → ¬ P b) : w'.ownsRow base e size v n xs := by
  refine ⟨h.1, ?_⟩
  rcases h.2 with hn | ⟨b, cap, cur, rfl, hb, hgg, rest⟩
  · exact .inl hn
  · refine .inr ⟨b, cap, cur, rfl, hb, ?_, rest⟩
    rw [g.block b (Array.getElem?_eq_some_iff.1 hgg).1 (hne b rfl)]
    exact hgg
/-- a table of the call's own, its rows' values told -/
def RowsT (base : Nat) (w : World) (v : Value) (vs : List Value) (t : Tb) : Prop := vs.length = t.length ∧ w.ownsRow base 28 1 v t.length vs ∧ (∀ k, k < t.length → w.ownsRow base 2 1 (vs.getD k undef) (tA t k).length (iv (tA t k))) ∧ (∀ i j, i < j → j < t.length → ∀ b, (vs.getD i undef).ownBlock = some b → (vs.getD j undef).ownBlock ≠ some b) ∧ (∀ i b, i < t.length → (vs.getD i undef).ownBlock = some b → v.ownBlock ≠ some b)
theorem ownT_rows {base : Nat} {w : World} {v : Value} {t : Tb} (h : OwnT base w v t) : ∃ vs, RowsT base w v vs t := h
theorem rows_ownT {base : Nat} {w : World} {v : Value} {vs : List Value} {t : Tb} (h : RowsT base w v vs t) : OwnT base w v t := ⟨vs, h⟩
theorem rowsT_after {base : Nat} {w w' : World} {v : Value} {vs : List Value} {t : Tb} (h : RowsT base w v vs t) (hb : Below w.heap.size w w') : RowsT base w' v vs t := by
  obtain ⟨hl, h, hr, h2⟩ := h
  exact ⟨hl, owns_after h hb, fun k hk => owns_after (hr k hk) hb, h2⟩
theorem rowsT_gp {P : Nat → Prop} {base : Nat} {w w' : World} {v : Value} {vs : List Value} {t : Tb} (h : RowsT base w v vs t) (g : Gp P w w') (hP : ∀ b, base ≤ b → ¬ P b) : RowsT base w' v vs t := by
  obtain ⟨hl, h, hr, h2⟩ := h
  exact ⟨hl, owns_gp h g (fun b hb => hP b (h.lt b hb).1), fun k hk => owns_gp (hr k hk) g (fun b hb => hP b ((hr k hk).lt b hb).1), h2⟩
theorem rowsT_gpx {P : Nat → Prop} {base : Nat} {w w' : World} {v : Value} {vs : List Value} {t : Tb} (h : RowsT base w v vs t) (g : Gp P w w') (hv : ∀ b, v.ownBlock = some b → ¬ P b) (hr : ∀ i, i < t.length → ∀ b, (vs.getD i undef).ownBlock = some b → ¬ P b) : RowsT base w' v vs t := by
  obtain ⟨hl, h, hrw, h2⟩ := h
  exact ⟨hl, owns_gp h g hv, fun k hk => owns_gp (hrw k hk) g (hr k hk), h2⟩
theorem rowsT_set {base j : Nat} {w w' : World} {v : Value} {vs : List Value} {t t' : Tb} (h : RowsT base w v vs t) (hj : j < t.length) (hl : t'.length = t.length) (hne : ∀ p, p < t.length → p ≠ j → tA t' p = tA t p)
    (ho : w'.ownsRow base 2 1 (vs.getD j undef) (tA t' j).length (iv (tA t' j))) (g : w.grownBy w' (vs.getD j undef).ownBlock) : RowsT base w' v vs t' := by
  obtain ⟨h0, h1, h2, h3, h4⟩ := h
  refine ⟨by rw [hl]; exact h0, ?_, fun p hp => ?_, fun i j' hij hj' => h3 i j' hij (by omega), fun i b hi => h4 i b (by omega)⟩
  · rw [hl]
    refine World.ownsRow.kept h1 g ?_
    cases hq : v.ownBlock with
    | none => exact .inl rfl
    | some b =>
      right
      intro e
      exact h4 j b hj e.symm hq
  · rw [hl] at hp
    by_cases he : p = j
    · subst he; exact ho
    · rw [hne p hp he]
      refine World.ownsRow.kept (h2 p hp) g ?_
      cases hq : (vs.getD p undef).ownBlock with
      | none => exact .inl rfl
      | some b =>
        right
        intro e
        rcases Nat.lt_or_ge p j with hlt | hge
        · exact h3 p j hlt hj b hq e.symm
        · exact h3 j p (by omega) hp b e.symm hq
theorem rowsT_cell {base : Nat} {w : World} {g c : Nat} {n : Nat} {vs : List Value} {t : Tb} (h : RowsT base w (.slice (some ⟨g, 0, none⟩) n c) vs t) {k : Nat} (hk : k < t.length) : w.cell? ⟨g, k, none⟩ = some (vs.getD k undef) := by
  obtain ⟨h0, h1, _⟩ := h
  have hn : n = t.length := by
    rcases h1.2 with ⟨e, e2⟩ | ⟨_, _, _, e, _⟩
    · cases e
    · injection e
  subst hn
  rw [h1.cellAt k (by omega), List.getD, List.getElem?_eq_getElem (by omega)]; rfl
/-- an automaton of the call's own -/
def AuR (base : Nat) (w : World) (u1 u2 : Value) (vs : List Value) (a : Au) : Prop := w.ownsRow base 2 1 u1 a.fi.length (iv a.fi) ∧ RowsT base w u2 vs a.nx ∧ ∀ b, u1.ownBlock = some b → u2.ownBlock ≠ some b ∧ ∀ i, i < a.nx.length → (vs.getD i undef).ownBlock ≠ some b
theorem auR_after {base : Nat} {w w' : World} {u1 u2 : Value} {vs : List Value} {a : Au} (h : AuR base w u1 u2 vs a) (hb : Below w.heap.size w w') : AuR base w' u1 u2 vs a := ⟨owns_after h.1 hb, rowsT_after h.2.1 hb, h.2.2⟩
theorem auR_gp {P : Nat → Prop} {base : Nat} {w w' : World} {u1 u2 : Value} {vs : List Value} {a : Au} (h : AuR base w u1 u2 vs a) (g : Gp P w w') (hP : ∀ b, base ≤ b → ¬ P b) : AuR base w' u1 u2 vs a := ⟨owns_gp h.1 g (fun b hb => hP b (h.1.lt b hb).1), rowsT_gp h.2.1 g hP, h.2.2⟩
theorem auR_inI {base : Nat} {w : World} {u1 u2 : Value} {vs : List Value} {a : Au} (h : AuR base w u1 u2 vs a) : InI w u1 a.fi := inI_own h.1
theorem auR_inT {base : Nat} {w : World} {u1 u2 : Value} {vs : List Value} {a : Au} (h : AuR base w u1 u2 vs a) : InT w u2 a.nx := ownT_in (rows_ownT h.2.1)
end Go.Proofs.Ytimfbnjgodbgoaa

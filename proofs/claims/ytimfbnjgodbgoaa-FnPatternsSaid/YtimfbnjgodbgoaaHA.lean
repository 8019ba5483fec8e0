/- Lists of integers and tables that come in: how they read, their sizes, their copies. -/
import Derived.Test.YtimfbnjgodbgoaaY1
namespace Go.Proofs.Ytimfbnjgodbgoaa
open Go.ChangeShapes Go.WideShapes Go.RowKit
set_option linter.unusedVariables false
set_option linter.unusedSimpArgs false
set_option maxHeartbeats 4000000
set_option maxRecDepth 100000
def iv (xs : List Int) : List Value := xs.map (Value.int .i64)
/-- a list of integers that lies somewhere -/
def InI (w : World) (v : Value) (xs : List Int) : Prop := InRow w v xs.length 1 (iv xs)
theorem inI_sl {w : World} {v : Value} {xs : List Int} (h : InI w v xs) : ∃ a cap, v = .slice a xs.length cap := by
  rcases h with ⟨h0, _, a, cap, rfl⟩ | ⟨b, off, cap, rfl, _⟩
  · exact ⟨a, cap, by rw [h0]⟩
  · exact ⟨_, _, rfl⟩
theorem inI_below {w w' : World} {v : Value} {xs : List Int} (h : InI w v xs) (hb : Below w.heap.size w w') : InI w' v xs := inRow_below h hb
theorem inI_at {w : World} {a : Option Addr} {cap : Nat} {xs : List Int} (h : InI w (.slice a xs.length cap) xs) {k : Nat} (hk : k < xs.length) :
    ∃ b off, a = some ⟨b, off, none⟩ ∧ b < w.heap.size ∧ w.cell? ⟨b, off + k, none⟩ = some (.int .i64 (xs.getD k 0)) := by
  rcases h with ⟨h0, _, _⟩ | ⟨b, off, cap', hv, hb, _, _, hc⟩
  · omega
  · injection hv with h1 h2 h3
    subst h1
    refine ⟨b, off, rfl, hb, ?_⟩
    rw [hc k (by omega)]
    simp [iv, List.getD, hk]
theorem inI_own {w : World} {base : Nat} {v : Value} {xs : List Int} (h : w.ownsRow base 2 1 v xs.length (iv xs)) : InI w v xs := by
  rcases owns_cases h with ⟨rfl, h0, hx⟩ | ⟨g, cap, rfl, _, hg, hc, hm, _⟩
  · exact .inl ⟨h0, hx, _, _, by rfl⟩
  · refine .inr ⟨g, 0, cap, rfl, hg, hc, hm, fun j hj => ?_⟩
    rw [Nat.zero_add]; exact h.cellAt j (by omega)
abbrev Tb := List (List Int)
def tA (t : Tb) (k : Nat) : List Int := t.getD k []
theorem tA_mem {t : Tb} {k : Nat} (h : k < t.length) : tA t k ∈ t := by
  rw [tA, List.getD, List.getElem?_eq_getElem h]; exact List.getElem_mem h
/-- a table that lies somewhere -/
def InT (w : World) (v : Value) (t : Tb) : Prop := ∃ vs : List Value, vs.length = t.length ∧ InRow w v t.length 1 vs ∧ ∀ k, k < t.length → InI w (vs.getD k undef) (tA t k)
theorem inT_sl {w : World} {v : Value} {t : Tb} (h : InT w v t) : ∃ a cap, v = .slice a t.length cap := by
  obtain ⟨vs, hl, h, _⟩ := h
  rcases h with ⟨h0, _, a, cap, rfl⟩ | ⟨b, off, cap, rfl, _⟩
  · exact ⟨a, cap, by rw [h0]⟩
  · exact ⟨_, _, rfl⟩
theorem inT_below {w w' : World} {v : Value} {t : Tb} (h : InT w v t) (hb : Below w.heap.size w w') : InT w' v t := by
  obtain ⟨vs, hl, h, hr⟩ := h
  exact ⟨vs, hl, inRow_below h hb, fun k hk => inI_below (hr k hk) hb⟩
theorem inT_at {w : World} {a : Option Addr} {cap : Nat} {t : Tb} (h : InT w (.slice a t.length cap) t) {k : Nat} (hk : k < t.length) :
    ∃ b off r c, a = some ⟨b, off, none⟩ ∧ b < w.heap.size ∧ w.cell? ⟨b, off + k, none⟩ = some (.slice r (tA t k).length c) ∧ InI w (.slice r (tA t k).length c) (tA t k) := by
  obtain ⟨vs, hl, h, hr⟩ := h
  have h9 := hr k hk
  obtain ⟨r, c, e⟩ := inI_sl h9
  rw [e] at h9
  rcases h with ⟨h0, _, _⟩ | ⟨b, off, cap', hv, hb, _, _, hc⟩
  · omega
  · injection hv with h1 h2 h3
    subst h1
    refine ⟨b, off, r, c, rfl, hb, ?_, h9⟩
    rw [hc k (by omega), ← e]
    simp [List.getD, show k < vs.length by omega]
/-- a table of the call's own: each row in memory of its own -/
def OwnT (base : Nat) (w : World) (v : Value) (t : Tb) : Prop := ∃ vs : List Value, vs.length = t.length ∧ w.ownsRow base 28 1 v t.length vs ∧ (∀ k, k < t.length → w.ownsRow base 2 1 (vs.getD k undef) (tA t k).length (iv (tA t k))) ∧ (∀ i j, i < j → j < t.length → ∀ b, (vs.getD i undef).ownBlock = some b → (vs.getD j undef).ownBlock ≠ some b) ∧ (∀ i b, i < t.length → (vs.getD i undef).ownBlock = some b → v.ownBlock ≠ some b)
theorem ownT_in {base : Nat} {w : World} {v : Value} {t : Tb} (h : OwnT base w v t) : InT w v t := by
  obtain ⟨vs, hl, h, hr, _⟩ := h
  refine ⟨vs, hl, ?_, fun k hk => inI_own (hr k hk)⟩
  rcases owns_cases h with ⟨rfl, h0, hx⟩ | ⟨g, cap, rfl, _, hg, hc, hm, _⟩
  · exact .inl ⟨h0, hx, _, _, by rfl⟩
  · refine .inr ⟨g, 0, cap, rfl, hg, hc, hm, fun j hj => ?_⟩
    rw [Nat.zero_add]; exact h.cellAt j (by omega)
theorem ownT_after {base : Nat} {w w' : World} {v : Value} {t : Tb} (h : OwnT base w v t) (hb : Below w.heap.size w w') : OwnT base w' v t := by
  obtain ⟨vs, hl, h, hr, h2⟩ := h
  exact ⟨vs, hl, owns_after h hb, fun k hk => owns_after (hr k hk) hb, h2⟩
/-- an automaton -/
structure Au where
  st : Int
  sa : Int
  fi : List Int
  nx : Tb
def InAu (w : World) (v : Value) (a : Au) : Prop := ∃ u1 u2, v = .agg #[.int .i64 a.st, .int .i64 a.sa, u1, u2] ∧ InI w u1 a.fi ∧ InT w u2 a.nx
theorem inAu_below {w w' : World} {v : Value} {a : Au} (h : InAu w v a) (hb : Below w.heap.size w w') : InAu w' v a := by
  obtain ⟨u1, u2, e, h1, h2⟩ := h
  exact ⟨u1, u2, e, inI_below h1 hb, inT_below h2 hb⟩
/-- what a small automaton is for the laws -/
def auSm (a : Au) : Prop := a.fi.length ≤ 1048576 ∧ a.nx.length ≤ 1048576 ∧ ∀ r ∈ a.nx, r.length ≤ 1048576
end Go.Proofs.Ytimfbnjgodbgoaa

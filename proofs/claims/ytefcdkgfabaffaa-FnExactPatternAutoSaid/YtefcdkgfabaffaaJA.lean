/- Lists of texts and tables of texts that come in: how they read, their sizes, their copies; coders. -/
import Derived.Test.YtefcdkgfabaffaaHF
namespace Go.Proofs.Ytefcdkgfabaffaa
open Go.ChangeShapes Go.WideShapes Go.RowKit
set_option linter.unusedVariables false
set_option linter.unusedSimpArgs false
set_option maxHeartbeats 4000000
set_option maxRecDepth 100000
def sv (xs : List ByteArray) : List Value := xs.map (Value.string)
/-- a list of integers that lies somewhere -/
def InS (w : World) (v : Value) (xs : List ByteArray) : Prop := InRow w v xs.length 1 (sv xs)
theorem inS_sl {w : World} {v : Value} {xs : List ByteArray} (h : InS w v xs) : ∃ a cap, v = .slice a xs.length cap := by
  rcases h with ⟨h0, _, a, cap, rfl⟩ | ⟨b, off, cap, rfl, _⟩
  · exact ⟨a, cap, by rw [h0]⟩
  · exact ⟨_, _, rfl⟩
theorem inS_below {w w' : World} {v : Value} {xs : List ByteArray} (h : InS w v xs) (hb : Below w.heap.size w w') : InS w' v xs := inRow_below h hb
theorem inS_at {w : World} {a : Option Addr} {cap : Nat} {xs : List ByteArray} (h : InS w (.slice a xs.length cap) xs) {k : Nat} (hk : k < xs.length) :
    ∃ b off, a = some ⟨b, off, none⟩ ∧ b < w.heap.size ∧ w.cell? ⟨b, off + k, none⟩ = some (.string (xs.getD k ⟨#[]⟩)) := by
  rcases h with ⟨h0, _, _⟩ | ⟨b, off, cap', hv, hb, _, _, hc⟩
  · omega
  · injection hv with h1 h2 h3
    subst h1
    refine ⟨b, off, rfl, hb, ?_⟩
    rw [hc k (by omega)]
    simp [sv, List.getD, hk]
theorem inS_own {w : World} {base : Nat} {v : Value} {xs : List ByteArray} (h : w.ownsRow base 9 1 v xs.length (sv xs)) : InS w v xs := by
  rcases owns_cases h with ⟨rfl, h0, hx⟩ | ⟨g, cap, rfl, _, hg, hc, hm, _⟩
  · exact .inl ⟨h0, hx, _, _, by rfl⟩
  · refine .inr ⟨g, 0, cap, rfl, hg, hc, hm, fun j hj => ?_⟩
    rw [Nat.zero_add]; exact h.cellAt j (by omega)
abbrev Ts := List (List ByteArray)
def uA (t : Ts) (k : Nat) : List ByteArray := t.getD k []
theorem uA_mem {t : Ts} {k : Nat} (h : k < t.length) : uA t k ∈ t := by
  rw [uA, List.getD, List.getElem?_eq_getElem h]; exact List.getElem_mem h
/-- a table that lies somewhere -/
def InU (w : World) (v : Value) (t : Ts) : Prop := ∃ vs : List Value, vs.length = t.length ∧ InRow w v t.length 1 vs ∧ ∀ k, k < t.length → InS w (vs.getD k undef) (uA t k)
theorem inU_sl {w : World} {v : Value} {t : Ts} (h : InU w v t) : ∃ a cap, v = .slice a t.length cap := by
  obtain ⟨vs, hl, h, _⟩ := h
  rcases h with ⟨h0, _, a, cap, rfl⟩ | ⟨b, off, cap, rfl, _⟩
  · exact ⟨a, cap, by rw [h0]⟩
  · exact ⟨_, _, rfl⟩
theorem inU_below {w w' : World} {v : Value} {t : Ts} (h : InU w v t) (hb : Below w.heap.size w w') : InU w' v t := by
  obtain ⟨vs, hl, h, hr⟩ := h
  exact ⟨vs, hl, inRow_below h hb, fun k hk => inS_below (hr k hk) hb⟩
theorem inU_at {w : World} {a : Option Addr} {cap : Nat} {t : Ts} (h : InU w (.slice a t.length cap) t) {k : Nat} (hk : k < t.length) :
    ∃ b off r c, a = some ⟨b, off, none⟩ ∧ b < w.heap.size ∧ w.cell? ⟨b, off + k, none⟩ = some (.slice r (uA t k).length c) ∧ InS w (.slice r (uA t k).length c) (uA t k) := by
  obtain ⟨vs, hl, h, hr⟩ := h
  have h9 := hr k hk
  obtain ⟨r, c, e⟩ := inS_sl h9
  rw [e] at h9
  rcases h with ⟨h0, _, _⟩ | ⟨b, off, cap', hv, hb, _, _, hc⟩
  · omega
  · injection hv with h1 h2 h3
    subst h1
    refine ⟨b, off, r, c, rfl, hb, ?_, h9⟩
    rw [hc k (by omega), ← e]
    simp [List.getD, show k < vs.length by omega]
/-- a table of the call's own: each row in memory of its own -/
def OwnU (base : Nat) (w : World) (v : Value) (t : Ts) : Prop := ∃ vs : List Value, vs.length = t.length ∧ w.ownsRow base 96 1 v t.length vs ∧ (∀ k, k < t.length → w.ownsRow base 9 1 (vs.getD k undef) (uA t k).length (sv (uA t k))) ∧ (∀ i j, i < j → j < t.length → ∀ b, (vs.getD i undef).ownBlock = some b → (vs.getD j undef).ownBlock ≠ some b) ∧ (∀ i b, i < t.length → (vs.getD i undef).ownBlock = some b → v.ownBlock ≠ some b)
theorem ownU_in {base : Nat} {w : World} {v : Value} {t : Ts} (h : OwnU base w v t) : InU w v t := by
  obtain ⟨vs, hl, h, hr, _⟩ := h
  refine ⟨vs, hl, ?_, fun k hk => inS_own (hr k hk)⟩
  rcases owns_cases h with ⟨rfl, h0, hx⟩ | ⟨g, cap, rfl, _, hg, hc, hm, _⟩
  · exact .inl ⟨h0, hx, _, _, by rfl⟩
  · refine .inr ⟨g, 0, cap, rfl, hg, hc, hm, fun j hj => ?_⟩
    rw [Nat.zero_add]; exact h.cellAt j (by omega)
theorem ownU_after {base : Nat} {w w' : World} {v : Value} {t : Ts} (h : OwnU base w v t) (hb : Below w.heap.size w w') : OwnU base w' v t := by
  obtain ⟨vs, hl, h, hr, h2⟩ := h
  exact ⟨vs, hl, owns_after h hb, fun k hk => owns_after (hr k hk) hb, h2⟩
/-- a coder -/
structure Co where
  st : Int
  sa : Int
  nx : Tb
  ou : Ts
def InCo (w : World) (v : Value) (a : Co) : Prop := ∃ u1 u2, v = .agg #[.int .i64 a.st, .int .i64 a.sa, u1, u2] ∧ InT w u1 a.nx ∧ InU w u2 a.ou
def coSm (a : Co) : Prop := (a.nx.length ≤ 1048576 ∧ ∀ r ∈ a.nx, r.length ≤ 1048576) ∧ a.ou.length ≤ 1048576 ∧ (∀ r ∈ a.ou, r.length ≤ 1048576) ∧ ∀ r ∈ a.ou, ∀ x ∈ r, x.size ≤ 1048576
theorem get_mem {xs : List ByteArray} {k : Nat} (h : k < xs.length) : xs.getD k ⟨#[]⟩ ∈ xs := by
  rw [List.getD, List.getElem?_eq_getElem h]; exact List.getElem_mem h
end Go.Proofs.Ytefcdkgfabaffaa

/- NotAuto, of the program and of the reference. -/
import Derived.Test.YtimfbnjgodbgoaaKR
namespace Go.Proofs.Ytimfbnjgodbgoaa
open Go.ChangeShapes Go.WideShapes Go.RowKit
set_option linter.unusedVariables false
set_option linter.unusedSimpArgs false
set_option maxHeartbeats 2000000
set_option maxRecDepth 100000
/-- the numbers below k that a list has not -/
def nfL (fi : List Int) : Nat → List Int
  | 0 => []
  | k + 1 => nfL fi k ++ (if fi.contains (k : Int) = true then [] else [(k : Int)])
theorem nfL_len (fi : List Int) : ∀ k, (nfL fi k).length ≤ k
  | 0 => by simp [nfL]
  | k + 1 => by
    have := nfL_len fi k
    rw [nfL, List.length_append]
    split <;> simp <;> omega
def naR (a : Au) : Au := if auOk a = true then ⟨a.st, a.sa, nfL a.fi a.st.toNat, a.nx⟩ else ⟨0, 0, [], []⟩
def naC (a : Au) : Int := if auOk a = true then 0 else 1
theorem naR_sm (a : Au) : auSm (naR a) := by
  unfold naR
  split
  · rename_i h
    obtain ⟨f1, f2, f3, f4, f5⟩ := auOk_facts h
    refine ⟨?_, ?_, fun r hr => ?_⟩
    · have := nfL_len a.fi a.st.toNat
      show (nfL a.fi a.st.toNat).length ≤ 1048576
      omega
    · show a.nx.length ≤ 1048576
      omega
    · obtain ⟨j, hj, rfl⟩ := List.getElem_of_mem hr
      have := (f5 j hj).1
      rw [tA, List.getD, List.getElem?_eq_getElem hj] at this
      have h2 : (a.nx[j]).length = 4 := this
      show (a.nx[j]).length ≤ 1048576
      omega
  · exact ⟨by simp, by simp, fun r hr => by cases hr⟩
theorem auR_nil (base : Nat) (w : World) : AuR base w (.slice none 0 0) (.slice none 0 0) [] ⟨0, 0, [], []⟩ :=
  ⟨World.ownsRow_nil _ _ _ _, ⟨rfl, World.ownsRow_nil _ _ _ _, fun k hk => absurd hk (by simp), fun i j _ hj => absurd hj (by simp), fun i b hi => absurd hi (by simp)⟩, fun b hb => by cases hb⟩
theorem rowsT_weak {base base' : Nat} {w : World} {v : Value} {vs : List Value} {t : Tb} (h : RowsT base w v vs t) (hb : base' ≤ base) : RowsT base' w v vs t := ⟨h.1, owns_weak h.2.1 hb, fun k hk => owns_weak (h.2.2.1 k hk) hb, h.2.2.2⟩
theorem rowsT_st {base : Nat} {w : World} {v : Value} {vs : List Value} {t : Tb} (h : RowsT base w v vs t) {b o : Nat} (hb : b < base) (u : Value) : RowsT base (w.setCell ⟨b, o, none⟩ u) v vs t := ⟨h.1, ownsRow_setCell_below h.2.1 (a := ⟨b, o, none⟩) hb u, fun k hk => ownsRow_setCell_below (h.2.2.1 k hk) (a := ⟨b, o, none⟩) hb u, h.2.2.2⟩
theorem Gp.ofB {B : Nat} {w w' : World} (g : Below B w w') : Gp (fun b => B ≤ b) w w' := ⟨g.os, g.tape, g.output, g.size, fun k _ hk => g.block k (by omega)⟩
theorem Gp.ofSet {b o : Nat} {w : World} {u : Value} : Gp (fun k => k = b) w (w.setCell ⟨b, o, none⟩ u) := Gp.of (grown_set (World.grownBy.refl _ _) o u) (fun k hk => by injection hk with hk; exact hk.symm)
/-- an automaton that is being made, in a box bx; its table -/
def naF (bx : Nat) (w2 wz : World) (st sa : Int) (f v : Value) (vs : List Value) (t : Tb) : Prop := Below w2.heap.size w2 wz ∧ (wz.cell? ⟨bx, 0, none⟩ = some (.int .i64 st) ∧ wz.cell? ⟨bx, 1, none⟩ = some (.int .i64 sa) ∧ wz.cell? ⟨bx, 2, none⟩ = some f ∧ wz.cell? ⟨bx, 3, none⟩ = some v) ∧ (∀ j, wz.frozen? ⟨bx, j, none⟩ = false) ∧ RowsT w2.heap.size wz v vs t ∧ (∀ b, v.ownBlock = some b → b ≠ bx) ∧ (∀ i, i < t.length → ∀ b, (vs.getD i undef).ownBlock = some b → b ≠ bx) ∧ w2.heap.size ≤ bx ∧ bx < wz.heap.size
theorem naF_A {w2 wA : World} {st sa : Int} {v : Value} {t : Tb} (hq : Below w2.heap.size w2 wA) (h : OwnT w2.heap.size wA v t) (hv : ∃ a n c, v = .slice a n c) : ∃ vs, naF wA.heap.size w2 (wA.alloc (.cells #[.int .i64 st, .int .i64 sa, .slice none 0 0, v] 43)) st sa (.slice none 0 0) v vs t := by
  obtain ⟨vs, h⟩ := ownT_rows h
  obtain ⟨a, n, c, rfl⟩ := hv
  refine ⟨vs, hq.alloc hq.size _, ⟨by simp [go_sem], by simp [go_sem], by simp [go_sem], by simp [go_sem]⟩, fun j => by simp [go_sem], rowsT_after h ((Below.refl _ _).alloc (Nat.le_refl _) _), fun b hb => ?_, fun i hi b hb => ?_, hq.size, by simp⟩
  · have := (h.2.1.lt b hb).2; omega
  · have := ((h.2.2.1 i hi).lt b hb).2; omega
theorem naF_B {w2 wA : World} {c bx : Nat} {st sa : Int} {v z0 z1 z2 z3 : Value} {t : Tb} (hq : Below w2.heap.size w2 wA) (h : OwnT c wA v t) (hc : bx < c) (hb : w2.heap.size ≤ bx) (y0 : wA.cell? ⟨bx, 0, none⟩ = some z0) (y1 : wA.cell? ⟨bx, 1, none⟩ = some z1) (y2 : wA.cell? ⟨bx, 2, none⟩ = some z2) (y3 : wA.cell? ⟨bx, 3, none⟩ = some z3) (fy : ∀ j, wA.frozen? ⟨bx, j, none⟩ = false) :
    ∃ vs, naF bx w2 ((((wA.setCell ⟨bx, 0, none⟩ (.int .i64 st)).setCell ⟨bx, 1, none⟩ (.int .i64 sa)).setCell ⟨bx, 2, none⟩ (.slice none 0 0)).setCell ⟨bx, 3, none⟩ v) st sa (.slice none 0 0) v vs t := by
  obtain ⟨vs, h⟩ := ownT_rows h
  have hlt := World.block_lt_of_cell? _ _ y0
  refine ⟨vs, (((hq.setCell (p := ⟨bx, 0, none⟩) hb _).setCell (p := ⟨bx, 1, none⟩) hb _).setCell (p := ⟨bx, 2, none⟩) hb _).setCell (p := ⟨bx, 3, none⟩) hb _, put4 _ _ _ _ y0 y1 y2 y3, fun j => by simpa using fy j, rowsT_weak (rowsT_st (rowsT_st (rowsT_st (rowsT_st h hc _) hc _) hc _) hc _) (by omega), fun b hb' => ?_, fun i hi b hb' => ?_, hb, by simpa using hlt⟩
  · have := (h.2.1.lt b hb').1; omega
  · have := ((h.2.2.1 i hi).lt b hb').1; omega
theorem naF_app {bx B : Nat} {w2 wr w4 : World} {st sa : Int} {f v f' : Value} {vs : List Value} {t : Tb} (h : naF bx w2 wr st sa f v vs t) (hb : Below B wr w4) (hbx : bx < B) (hB : w2.heap.size ≤ B) (hv : ∀ b, v.ownBlock = some b → b < B) (hr : ∀ i, i < t.length → ∀ b, (vs.getD i undef).ownBlock = some b → b < B) : naF bx w2 (w4.setCell ⟨bx, 2, none⟩ f') st sa f' v vs t := by
  obtain ⟨h1, ⟨c0, c1, c2, c3⟩, h3, h4, h5, h6, h7, h8⟩ := h
  have k0 : w4.cell? ⟨bx, 0, none⟩ = some (.int .i64 st) := by rw [hb.cell (by simpa using hbx)]; exact c0
  have k1 : w4.cell? ⟨bx, 1, none⟩ = some (.int .i64 sa) := by rw [hb.cell (by simpa using hbx)]; exact c1
  have k2 : w4.cell? ⟨bx, 2, none⟩ = some f := by rw [hb.cell (by simpa using hbx)]; exact c2
  have k3 : w4.cell? ⟨bx, 3, none⟩ = some v := by rw [hb.cell (by simpa using hbx)]; exact c3
  have kf : ∀ j, w4.frozen? ⟨bx, j, none⟩ = false := fun j => by rw [hb.frozen (by simpa using hbx)]; exact h3 j
  have oth : ∀ (j : Nat), j ≠ 2 → (w4.setCell ⟨bx, 2, none⟩ f').cell? ⟨bx, j, none⟩ = w4.cell? ⟨bx, j, none⟩ := fun j hj => by rw [World.cell?_setCell_other (h := by first | (intro e; injection e with _ e; exact hj e) | (intro e; injection e with _ e; exact hj e.symm))]
  have r1 : RowsT w2.heap.size w4 v vs t := rowsT_gpx h4 (Gp.ofB hb) (fun b hb' h => by have := hv b hb'; omega) (fun i hi b hb' h => by have := hr i hi b hb'; omega)
  refine ⟨(h1.trans (hb.mono hB)).setCell (p := ⟨bx, 2, none⟩) h7 _, ⟨(oth 0 (by omega)).trans k0, (oth 1 (by omega)).trans k1, cell_st_same _ k2, (oth 3 (by omega)).trans k3⟩, fun j => by simpa using kf j, rowsT_gpx r1 Gp.ofSet h5 h6, h5, h6, h7, ?_⟩
  have := hb.size
  have h9 : bx < w4.heap.size := by omega
  simpa using h9
theorem auR_weak {base base' : Nat} {w : World} {u1 u2 : Value} {vs : List Value} {a : Au} (h : AuR base w u1 u2 vs a) (hb : base' ≤ base) : AuR base' w u1 u2 vs a := ⟨owns_weak h.1 hb, rowsT_weak h.2.1 hb, h.2.2⟩
end Go.Proofs.Ytimfbnjgodbgoaa

/- NotAuto, of the program and of the reference. -/
import Derived.Test.YtefcdkgfabaffaaKR
namespace Go.Proofs.Ytefcdkgfabaffaa
open Go.ChangeShapes Go.WideShapes Go.RowKit
set_option linter.unusedVariables false
set_option linter.unusedSimpArgs false
set_option maxHeartbeats 2000000
set_option maxRecDepth 100000
/-- the numbers below k that a list has not -/
def nfL (fi : List Int) : Nat → List Int
  | 0 => []
  | k + 1 => nfL fi k ++ (if fi.contains (k : Int) = true then [] else [(k : Int)])
theorem nfL_len (fi : List Int) : ∀ k, (nfL fi k).length ≤ k
  | 0 => by simp [nfL]
  | k + 1 => by
    have := nfL_len fi k
    rw [nfL, List.length_append]
    split <;> simp <;> omega
def naR (a : Au) : Au := if auOk a = true then ⟨a.st, a.sa, nfL a.fi a.st.toNat, a.nx⟩ else ⟨0, 0, [], []⟩
def naC (a : Au) : Int := if auOk a = true then 0 else 1
theorem naR_sm (a : Au) : auSm (naR a) := by
  unfold naR
  split
  · rename_i h
    obtain ⟨f1, f2, f3, f4, f5⟩ := auOk_facts h
    refine ⟨?_, ?_, fun r hr => ?_⟩
    · have := nfL_len a.fi a.st.toNat
      show (nfL a.fi a.st.toNat).length ≤ 1048576
      omega
    · show a.nx.length ≤ 1048576
      omega
    · obtain ⟨j, hj, rfl⟩ := List.getElem_of_mem hr
      have := (f5 j hj).1
      rw [tA, List.getD, List.getElem?_eq_getElem hj] at this
      have h2 : (a.nx[j]).length = 4 := this
      show (a.nx[j]).length ≤ 1048576
      omega
  · exact ⟨by simp, by simp, fun r hr => by cases hr⟩
theorem auR_nil (base : Nat) (w : World) : AuR base w (.slice none 0 0) (.slice none 0 0) [] ⟨0, 0, [], []⟩ :=
  ⟨World.ownsRow_nil _ _ _ _, ⟨rfl, World.ownsRow_nil _ _ _ _, fun k hk => absurd hk (by simp), fun i j _ hj => absurd hj (by simp), fun i b hi => absurd hi (by simp)⟩, fun b hb => by cases hb⟩
theorem rowsT_weak {base base' : Nat} {w : World} {v : Value} {vs : List Value} {t : Tb} (h : RowsT base w v vs t) (hb : base' ≤ base) : RowsT base' w v vs t := ⟨h.1, owns_weak h.2.1 hb, fun k hk => owns_weak (h.2.2.1 k hk) hb, h.2.2.2⟩
theorem rowsT_st {base : Nat} {w : World} {v : Value} {vs : List Value} {t : Tb} (h : RowsT base w v vs t) {b o : Nat} (hb : b < base) (u : Value) : RowsT base (w.setCell ⟨b, o, none⟩ u) v vs t := ⟨h.1, ownsRow_setCell_below h.2.1 (a := ⟨b, o, none⟩) hb u, fun k hk => ownsRow_setCell_below (h.2.2.1 k hk) (a := ⟨b, o, none⟩) hb u, h.2.2.2⟩
theorem Gp.ofB {B : Nat} {w w' : World} (g : Below B w w') : Gp (fun b => B ≤ b) w w' := ⟨g.os, g.tape, g.output, g.size, fun k _ hk => g.block k (by omega)⟩
theorem Gp.ofSet {b o : Nat} {w : World} {u : Value} : Gp (fun k => k = b) w (w.setCell ⟨b, o, none⟩ u) := Gp.of (grown_set (World.grownBy.refl _ _) o u) (fun k hk => by injection hk with hk; exact hk.symm)
/-- an automaton that is being made, in a box bx; its table -/
def naF (bx : Nat) (w2 wz : World) (st sa : Int) (f v : Value) (vs : List Value) (t : Tb) : Prop := Below w2.heap.size w2 wz ∧ (wz.cell? ⟨bx, 0, none⟩ = some (.int .i64 st) ∧ wz.cell? ⟨bx, 1, none⟩ = some (.int .i64 sa) ∧ wz.cell? ⟨bx, 2, none⟩ = some f ∧ wz.cell? ⟨bx, 3, none⟩ = some v) ∧ (∀ j, wz.frozen? ⟨bx, j, none⟩ = false) ∧ RowsT w2.heap.size wz v vs t ∧ (∀ b, v.ownBlock = some b → b ≠ bx) ∧ (∀ i, i < t.length → ∀ b, (vs.getD i undef).ownBlock = some b → b ≠ bx) ∧ w2.heap.size ≤ bx ∧ bx < wz.heap.size
theorem naF_A {w2 wA : World} {st sa : Int} {v : Value} {t : Tb} (hq : Below w2.heap.size w2 wA) (h : OwnT w2.heap.size wA v t) (hv : ∃ a n c, v = .slice a n c) : ∃ vs, naF wA.heap.size w2 (wA.alloc (.cells #[.int .i64 st, .int .i64 sa, .slice none 0 0, v] 28)) st sa (.slice none 0 0) v vs t := by
  obtain ⟨vs, h⟩ := ownT_rows h
  obtain ⟨a, n, c, rfl⟩ := hv
  refine ⟨vs, hq.alloc hq.size _, ⟨by simp [go_sem], by simp [go_sem], by simp [go_sem], by simp [go_sem]⟩, fun j => by simp [go_sem], rowsT_after h ((Below.refl _ _).alloc (Nat.le_refl _) _), fun b hb => ?_, fun i hi b hb => ?_, hq.size, by simp⟩
  · have := (h.2.1.lt b hb).2; omega
  · have := ((h.2.2.1 i hi).lt b hb).2; omega
theorem naF_B {w2 wA : World} {c bx : Nat} {st sa : Int} {v z0 z1 z2 z3 : Value} {t : Tb} (hq : Below w2.heap.size w2 wA) (h : OwnT c wA v t) (hc : bx < c) (hb : w2.heap.size ≤ bx) (y0 : wA.cell? ⟨bx, 0, none⟩ = some z0) (y1 : wA.cell? ⟨bx, 1, none⟩ = some z1) (y2 : wA.cell? ⟨bx, 2, none⟩ = some z2) (y3 : wA.cell? ⟨bx, 3, none⟩ = some z3) (fy : ∀ j, wA.frozen? ⟨bx, j, none⟩ = false) :
    ∃ vs, naF bx w2 ((((wA.setCell ⟨bx, 0, none⟩ (.int .i64 st)).setCell ⟨bx, 1, none⟩ (.int .i64 sa)).setCell ⟨bx, 2, none⟩ (.slice none 0 0)).setCell ⟨bx, 3, none⟩ v) st sa (.slice none 0 0) v vs t := by
  obtain ⟨vs, h⟩ := ownT_rows h
  have hlt := World.block_lt_of_cell? _ _ y0
  refine ⟨vs, (((hq.setCell (p := ⟨bx, 0, none⟩) hb _).setCell (p := ⟨bx, 1, none⟩) hb _).setCell (p := ⟨bx, 2, none⟩) hb _).setCell (p := ⟨bx, 3, none⟩) hb _, put4 _ _ _ _ y0 y1 y2 y3, fun j => by simpa using fy j, rowsT_weak (rowsT_st (rowsT_st (rowsT_st (rowsT_st h hc _) hc _) hc _) hc _) (by omega), fun b hb' => ?_, fun i hi b hb' => ?_, hb, by simpa using hlt⟩
  · have := (h.2.1.lt b hb').1; omega
  · have := ((h.2.2.1 i hi).lt b hb').1; omega
theorem naF_app {bx B : Nat} {w2 wr w4 : World} {st sa : Int} {f v f' : Value} {vs : List Value} {t : Tb} (h : naF bx w2 wr st sa f v vs t) (hb : Below B wr w4) (hbx : bx < B) (hB : w2.heap.size ≤ B) (hv : ∀ b, v.ownBlock = some b → b < B) (hr : ∀ i, i < t.length → ∀ b, (vs.getD i undef).ownBlock = some b → b < B) : naF bx w2 (w4.setCell ⟨bx, 2, none⟩ f') st sa f' v vs t := by
  obtain ⟨h1, ⟨c0, c1, c2, c3⟩, h3, h4, h5, h6, h7, h8⟩ := h
  have k0 : w4.cell? ⟨bx, 0, none⟩ = some (.int .i64 st) := by rw [hb.cell (by simpa using hbx)]; exact c0
  have k1 : w4.cell? ⟨bx, 1, none⟩ = some (.int .i64 sa) := by rw [hb.cell (by simpa using hbx)]; exact c1
  have k2 : w4.cell? ⟨bx, 2, none⟩ = some f := by rw [hb.cell (by simpa using hbx)]; exact c2
  have k3 : w4.cell? ⟨bx, 3, none⟩ = some v := by rw [hb.cell (by simpa using hbx)]; exact c3
  have kf : ∀ j, w4.frozen? ⟨bx, j, none⟩ = false := fun j => by rw [hb.frozen (by simpa using hbx)]; exact h3 j
  have oth : ∀ (j : Nat), j ≠ 2 → (w4.setCell ⟨bx, 2, none⟩ f').cell? ⟨bx, j, none⟩ = w4.cell? ⟨bx, j, none⟩ := fun j hj => by rw [World.cell?_setCell_other (h := by first | (intro e; injection e with _ e; exact hj e) | (intro e; injection e with _ e; exact hj e.symm))]
  have r1 : RowsT w2.heap.size w4 v vs t := rowsT_gpx h4 (Gp.ofB hb) (fun b hb' h => by have := hv b hb'; omega) (fun i hi b hb' h => by have := hr i hi b hb'; omega)
  refine ⟨(h1.trans (hb.mono hB)).setCell (p := ⟨bx, 2, none⟩) h7 _, ⟨(oth 0 (by omega)).trans k0, (oth 1 (by omega)).trans k1, cell_st_same _ k2, (oth 3 (by omega)).trans k3⟩, fun j => by simpa using kf j, rowsT_gpx r1 Gp.ofSet h5 h6, h5, h6, h7, ?_⟩
  have := hb.size
  have h9 : bx < w4.heap.size := by omega
  simpa using h9
theorem auR_weak {base base' : Nat} {w : World} {u1 u2 : Value} {vs : List Value} {a : Au} (h : AuR base w u1 u2 vs a) (hb : base' ≤ base) : AuR base' w u1 u2 vs a := ⟨owns_weak h.1 hb, rowsT_weak h.2.1 hb, h.2.2⟩
theorem i_NotAuto (u1 u2 : Value) (a : Au) (w : World) (hs : auSm a) (h1 : InI w u1 a.fi) (h2 : InT w u2 a.nx) :
    Calls Try.prog 36 #[.agg #[.int .i64 a.st, .int .i64 a.sa, u1, u2]] w fun e w' => ∃ x1 x2 vs, e = .returned (.tuple #[.agg #[.int .i64 (naR a).st, .int .i64 (naR a).sa, x1, x2], .int .i64 (naC a)]) ∧ AuR w.heap.size w' x1 x2 vs (naR a) ∧ Below w.heap.size w w' := by
  obtain ⟨a1, k1, rfl⟩ := inI_sl h1
  obtain ⟨a2, k2, rfl⟩ := inT_sl h2
  have hbx := ((Below.refl w.heap.size w).alloc (Nat.le_refl _) (.cells #[.int .i64 a.st, .int .i64 a.sa, .slice a1 a.fi.length k1, .slice a2 a.nx.length k2] 28)).alloc (by simp) (.cells #[.int .i64 0, .int .i64 0, .slice none 0 0, .slice none 0 0] 28)
  have HV := Lib.hid (i_ValidAuto _ _ a _ hs (inI_below h1 hbx) (inT_below h2 hbx))
  have HI1 := Lib.hid (inI_below h1 hbx)
  have HI2 := Lib.hid (inT_below h2 hbx)
  have HBX := Lib.hid hbx
  clear h1 h2 hbx
  cases hao : auOk a
  · have e1 : naR a = ⟨0, 0, [], []⟩ := by rw [naR, hao]; simp
    have e2 : naC a = 1 := by rw [naC, hao]; simp
    rw [e1, e2]
    rw [hao] at HV
    clear e1 e2 hao HI1 HI2 hs
    go_enter Try.func36, Try.ntmps36
    go_wp2_with fail
    refine (HV.out).mono ?_
    rintro e w2 ⟨rfl, hb2⟩
    have HBB := Lib.hid (HBX.out.trans (hb2.mono HBX.out.size))
    have z0 : w2.cell? ⟨w.heap.size + 1, 0, none⟩ = some (.int .i64 0) := by rw [hb2.cell (by first | (simp; done) | (simp; omega))]; simp [go_sem]
    have z1 : w2.cell? ⟨w.heap.size + 1, 1, none⟩ = some (.int .i64 0) := by rw [hb2.cell (by first | (simp; done) | (simp; omega))]; simp [go_sem]
    have z2 : w2.cell? ⟨w.heap.size + 1, 2, none⟩ = some (.slice none 0 0) := by rw [hb2.cell (by first | (simp; done) | (simp; omega))]; simp [go_sem]
    have z3 : w2.cell? ⟨w.heap.size + 1, 3, none⟩ = some (.slice none 0 0) := by rw [hb2.cell (by first | (simp; done) | (simp; omega))]; simp [go_sem]
    have fz : ∀ j, w2.frozen? ⟨w.heap.size + 1, j, none⟩ = false := fun j => by rw [hb2.frozen (by first | (simp; done) | (simp; omega))]; simp [go_sem]
    clear hb2 HV HBX
    have HP := Lib.hid (put4 (w := w2) (b := w.heap.size + 1) (.int .i64 0) (.int .i64 0) (.slice none 0 0) (.slice none 0 0) z0 z1 z2 z3)
    go_wp2
    have hP := HP.out
    refine bodyPost_ret (v := .tuple #[.agg #[.int .i64 0, .int .i64 0, .slice none 0 0, .slice none 0 0], .int .i64 1]) (by simp [results, Try.results36, go_sem, hP.1, hP.2.1, hP.2.2.1, hP.2.2.2]) rfl ⟨_, _, _, rfl, auR_nil _ _, ?_⟩
    exact (((HBB.out.setCell (p := ⟨w.heap.size + 1, 0, none⟩) (by first | (simp; done) | (simp; omega)) _).setCell (p := ⟨w.heap.size + 1, 1, none⟩) (by first | (simp; done) | (simp; omega)) _).setCell (p := ⟨w.heap.size + 1, 2, none⟩) (by first | (simp; done) | (simp; omega)) _).setCell (p := ⟨w.heap.size + 1, 3, none⟩) (by first | (simp; done) | (simp; omega)) _
  · have e1 : naR a = ⟨a.st, a.sa, nfL a.fi a.st.toNat, a.nx⟩ := by rw [naR, hao]; simp
    have e2 : naC a = 0 := by rw [naC, hao]; simp
    rw [e1, e2]
    rw [hao] at HV
    obtain ⟨f1, f2, f3, f4, f5⟩ := auOk_facts hao
    have HCT := Lib.hid (fun w h => i_copyTable (.slice a2 a.nx.length k2) a.nx w (by omega) (fun k hk => (f5 k hk).1) h)
    have HCN := Lib.hid (fun x w h => i_Contains64 (.slice a1 a.fi.length k1) a.fi x w hs.1 h)
    obtain ⟨n, hn⟩ := Int.eq_ofNat_of_zero_le (show 0 ≤ a.st by omega)
    have hn24 : n ≤ 24 := by omega
    have HN := Lib.hid hn
    clear e1 e2 hao hs f1 f2 f3 f4 f5 hn
    go_enter Try.func36, Try.ntmps36
    go_wp2_with fail
    refine (HV.out).mono ?_
    rintro e w2 ⟨rfl, hb2⟩
    have HBB := Lib.hid (HBX.out.trans (hb2.mono HBX.out.size))
    have z0 : w2.cell? ⟨w.heap.size + 1, 0, none⟩ = some (.int .i64 0) := by rw [hb2.cell (by first | (simp; done) | (simp; omega))]; simp [go_sem]
    have z1 : w2.cell? ⟨w.heap.size + 1, 1, none⟩ = some (.int .i64 0) := by rw [hb2.cell (by first | (simp; done) | (simp; omega))]; simp [go_sem]
    have z2 : w2.cell? ⟨w.heap.size + 1, 2, none⟩ = some (.slice none 0 0) := by rw [hb2.cell (by first | (simp; done) | (simp; omega))]; simp [go_sem]
    have z3 : w2.cell? ⟨w.heap.size + 1, 3, none⟩ = some (.slice none 0 0) := by rw [hb2.cell (by first | (simp; done) | (simp; omega))]; simp [go_sem]
    have fz : ∀ j, w2.frozen? ⟨w.heap.size + 1, j, none⟩ = false := fun j => by rw [hb2.frozen (by first | (simp; done) | (simp; omega))]; simp [go_sem]
    have c0 : w2.cell? ⟨w.heap.size, 0, none⟩ = some (.int .i64 a.st) := by rw [hb2.cell (by first | (simp; done) | (simp; omega))]; simp [go_sem]
    have c1 : w2.cell? ⟨w.heap.size, 1, none⟩ = some (.int .i64 a.sa) := by rw [hb2.cell (by first | (simp; done) | (simp; omega))]; simp [go_sem]
    have c2 : w2.cell? ⟨w.heap.size, 2, none⟩ = some (.slice a1 a.fi.length k1) := by rw [hb2.cell (by first | (simp; done) | (simp; omega))]; simp [go_sem]
    have c3 : w2.cell? ⟨w.heap.size, 3, none⟩ = some (.slice a2 a.nx.length k2) := by rw [hb2.cell (by first | (simp; done) | (simp; omega))]; simp [go_sem]
    have j1 := inI_below HI1.out hb2
    have j2 := inT_below HI2.out hb2
    have HJ1 := Lib.hid j1
    have hw2 : w.heap.size + 1 < w2.heap.size := World.block_lt_of_cell? _ _ z0
    clear hb2 HV HBX HI1 HI2
    go_wp2
    go_region_held3 (fun w' => Below w2.heap.size w2 w' ∧ w'.cell? ⟨w.heap.size, 0, none⟩ = some (.int .i64 a.st) ∧ w'.cell? ⟨w.heap.size, 1, none⟩ = some (.int .i64 a.sa) ∧ w'.cell? ⟨w.heap.size, 3, none⟩ = some (.slice a2 a.nx.length k2))
      (first | (go_split_ands; refine ⟨?_, cell_later ?_ c0, cell_later ?_ c1, cell_later ?_ c3⟩ <;> (repeat (first | exact hq | exact Below.refl _ _ | apply Below.drew | (refine Below.alloc ?_ (by first | exact Nat.le_refl _ | exact hq.size | (simp; done) | (simp; omega)) _) | (refine Below.setCell ?_ (by first | (simp; done) | (simp; omega)) _)))))
      (first | (go_at_call 90; refine (HCT.out _ (inT_below j2 (((Below.refl _ _).alloc (Nat.le_refl _) _).drew))).mono ?_; rintro e wA ⟨vT, rfl, hoT, hbA⟩; have hq : Below w2.heap.size w2 wA := ((((Below.refl _ _).alloc (Nat.le_refl _) _).drew).trans (hbA.mono (by simp))); have y0 : wA.cell? ⟨w2.heap.size, 0, none⟩ = some (.int .i64 0) := (by rw [hbA.cell (by simp)]; simp [go_sem]); have y1 : wA.cell? ⟨w2.heap.size, 1, none⟩ = some (.int .i64 0) := (by rw [hbA.cell (by simp)]; simp [go_sem]); have y2 : wA.cell? ⟨w2.heap.size, 2, none⟩ = some (.slice none 0 0) := (by rw [hbA.cell (by simp)]; simp [go_sem]); have y3 : wA.cell? ⟨w2.heap.size, 3, none⟩ = some (.slice none 0 0) := (by rw [hbA.cell (by simp)]; simp [go_sem]); have fy : ∀ j, wA.frozen? ⟨w2.heap.size, j, none⟩ = false := (fun j => by rw [hbA.frozen (by simp)]; simp [go_sem]); obtain ⟨aT, cT, rfl⟩ := inT_sl (ownT_in hoT)) | (go_at_call 90; refine (HCT.out _ (by first | exact j2 | exact inT_below j2 (Below.drew (Below.refl _ _)))).mono ?_; rintro e wA ⟨vT, rfl, hoT, hbA⟩; have hq : Below w2.heap.size w2 wA := Below.trans (Below.drew (Below.refl _ _)) hbA; obtain ⟨aT, cT, rfl⟩ := inT_sl (ownT_in hoT)))
    · rename_i hS
      go_wp2
      refine gen_world2 (fun wz => ∃ vs, naF wA.heap.size w2 wz a.st a.sa (.slice none 0 0) (.slice aT a.nx.length cT) vs a.nx) (naF_A hq hoT ⟨_, _, _, rfl⟩) ?_
      intro wz hz
      obtain ⟨vs, hF⟩ := hz
      generalize wA.heap.size = bx at *
      clear hbA hq hoT hS
      obtain ⟨F1, ⟨F20, F21, F22, F23⟩, F3, F4, F5, F6, F7, F8⟩ := hF
      have hF : naF bx w2 wz a.st a.sa (.slice none 0 0) (.slice aT a.nx.length cT) vs a.nx := ⟨F1, ⟨F20, F21, F22, F23⟩, F3, F4, F5, F6, F7, F8⟩
      have HVL : Hid (∀ b, (Value.slice aT a.nx.length cT).ownBlock = some b → b < wz.heap.size) := fun b hb => (F4.2.1.lt b hb).2
      have HRL : Hid (∀ i, i < a.nx.length → ∀ b, (vs.getD i undef).ownBlock = some b → b < wz.heap.size) := fun i hi b hb => ((F4.2.2.1 i hi).lt b hb).2
      have HF0 := Lib.hid hF
      have hwz := F1.size
      have HC2 := Lib.hid c2
      have HC0 := Lib.hid c0
      have HZ : Hid (w2.cell? ⟨w.heap.size + 1, 0, none⟩ = some (.int .i64 0) ∧ w2.cell? ⟨w.heap.size + 1, 1, none⟩ = some (.int .i64 0) ∧ w2.cell? ⟨w.heap.size + 1, 2, none⟩ = some (.slice none 0 0) ∧ w2.cell? ⟨w.heap.size + 1, 3, none⟩ = some (.slice none 0 0)) := ⟨z0, z1, z2, z3⟩
      have HFZ := Lib.hid fz
      clear F1 F20 F21 F22 F23 F3 F4 F5 F6 F7 hF c0 c1 c2 c3 j1 j2 z0 z1 z2 z3 fz
      go_loopw [5, 20] (fun _ i wr => ∃ k : Nat, k ≤ n ∧ i = .int .i64 k ∧ wz.heap.size ≤ wr.heap.size ∧ ∃ f, naF bx w2 wr a.st a.sa f (.slice aT a.nx.length cT) vs a.nx ∧ wr.ownsRow wz.heap.size 2 1 f (nfL a.fi k).length (iv (nfL a.fi k))) (fun _ i _ => n - (intOf i).toNat)
      case atStart => exact ⟨0, by omega, rfl, Nat.le_refl _, _, HF0.out, World.ownsRow_nil _ _ _ _⟩
      case round =>
        obtain ⟨k, hk, rfl, hsz, f, hF, ho⟩ := hrel
        have HFK := Lib.hid hF
        obtain ⟨F1, ⟨F20, F21, F22, F23⟩, F3, F4, F5, F6, F7, F8'⟩ := hF
        have d2 := cell_later F1 HC2.out
        have d0 := cell_later F1 HC0.out
        have hst := HN.out
        obtain ⟨af, cf, rfl, -, -⟩ := owns_sl3 ho
        have hw2b : w.heap.size + 1 < wr.heap.size := by have := F1.size; omega
        by_cases hlt : k < n
        · have hin : ((k : Nat) : Int) < a.st := by omega
          have hin2 : decide ((k : Int) < a.st) = true := by rw [decide_eq_true_iff]; exact hin
          have hw : IntKind.i64.wrap ((k : Int) + 1) = ((k + 1 : Nat) : Int) := by rw [IntWalk.i64_in _ (by omega)]; omega
          have HCK := Lib.hid (HCN.out (k : Int) wr (inI_below HJ1.out F1))
          have hnl := nfL_len a.fi k
          have HO := Lib.hid ho
          clear F1 F20 F21 F23 F4 F5 F6 hst
          cases hct : a.fi.contains (k : Int)
          · have HS : Hid (nfL a.fi (k + 1) = nfL a.fi k ++ [(k : Int)]) := by show _ = _; rw [nfL, hct]; simp
            rw [hct] at HCK
            generalize nfL a.fi k = L at *
            go_wp2_with fail
            refine (HCK.out).mono ?_
            rintro e w3 ⟨rfl, rfl⟩
            have F32 := F3 2
            go_wp2_with (at_builtin; refine app_i64 rfl (.tmp 29) (.tmp 31) rfl wz.heap.size _ _ _ _ _ _ rfl ho rfl (by simp) (by omega) (by simpa using hsz) ?_; intro v' w4 ho4 hb4 hsz4; have g2 := (hb4.cell (p := ⟨bx, 2, none⟩) F8).trans F22; have g2f := (hb4.frozen (p := ⟨bx, 2, none⟩) F8).trans F32; obtain ⟨af2, cf2, rfl, -, -⟩ := owns_sl3 ho4)
            have hfin := ownsRow_setCell_below ho4 (a := ⟨bx, 2, none⟩) F8 (.slice af2 (L.length + 1) cf2)
            have HFIN := Lib.hid hfin
            have HB4 := Lib.hid hb4
            clear g2 g2f hb4 ho4 hfin ho d2 d0 F22 F3 F32
            go_roundw
            case rel => exact ⟨k + 1, by omega, by go_num, by simpa using (show wz.heap.size ≤ w4.heap.size by omega), _, naF_app HFK.out HB4.out F8 hwz HVL.out HRL.out, by rw [HS.out]; simpa [iv] using HFIN.out⟩
            case measure => first | (simp [intOf]; done) | (simp [intOf]; omega)
          · have HS : Hid (nfL a.fi (k + 1) = nfL a.fi k) := by show _ = _; rw [nfL, hct]; simp
            rw [hct] at HCK
            clear F3 F22
            go_wp2_with fail
            refine (HCK.out).mono ?_
            rintro e w3 ⟨rfl, rfl⟩
            go_wp2
            go_roundw
            case rel => exact ⟨k + 1, by omega, by go_num, hsz, _, HFK.out, by rw [HS.out]; exact HO.out⟩
            case measure => first | (simp [intOf]; done) | (simp [intOf]; omega)
        · have ek : k = n := by omega
          have hin2 : decide ((k : Int) < a.st) = false := by rw [decide_eq_false_iff_not]; omega
          have q0 := cell_later F1 HZ.out.1
          have q1 := cell_later F1 HZ.out.2.1
          have q2 := cell_later F1 HZ.out.2.2.1
          have q3 := cell_later F1 HZ.out.2.2.2
          have qf : ∀ j, wr.frozen? ⟨w.heap.size + 1, j, none⟩ = false := fun j => by rw [F1.frozen (by simpa using hw2)]; exact HFZ.out j
          have HP := Lib.hid (put4 (w := wr) (b := w.heap.size + 1) (.int .i64 a.st) (.int .i64 a.sa) (.slice af (nfL a.fi k).length cf) (.slice aT a.nx.length cT) q0 q1 q2 q3)
          have HAU : Hid (AuR w2.heap.size wr (.slice af (nfL a.fi k).length cf) (.slice aT a.nx.length cT) vs ⟨a.st, a.sa, nfL a.fi k, a.nx⟩) := by
            refine ⟨owns_weak ho hwz, F4, fun b hb => ⟨fun e => ?_, fun i hi e => ?_⟩⟩
            · have h1 := (ho.lt b hb).1
              have h2 := HVL.out b e
              omega
            · have h1 := (ho.lt b hb).1
              have h2 := HRL.out i hi b e
              omega
          have HBF := Lib.hid (HBB.out.trans (F1.mono HBB.out.size))
          have HNK : Hid (a.st.toNat = k) := by show _ = _; omega
          have q00 := qf 0
          have q01 := qf 1
          have q02 := qf 2
          have q03 := qf 3
          clear hst hlt ek F1 F3 F4 F5 F6 ho d2
          go_wp2
          have hP := HP.out
          refine bodyPost_ret (v := .tuple #[.agg #[.int .i64 a.st, .int .i64 a.sa, .slice af (nfL a.fi k).length cf, .slice aT a.nx.length cT], .int .i64 0]) (by simp [results, Try.results36, go_sem, hP.1, hP.2.1, hP.2.2.1, hP.2.2.2]) rfl ⟨_, _, vs, rfl, ?_, ?_⟩
          · rw [HNK.out]
            refine auR_weak (auR_gp (P := fun b => b = w.heap.size + 1) HAU.out (Gp.ofSet.trans (Gp.ofSet.trans (Gp.ofSet.trans Gp.ofSet))) (fun b hb h => by omega)) (by omega)
          · exact (((HBF.out.setCell (p := ⟨w.heap.size + 1, 0, none⟩) (by first | (simp; done) | (simp; omega)) _).setCell (p := ⟨w.heap.size + 1, 1, none⟩) (by first | (simp; done) | (simp; omega)) _).setCell (p := ⟨w.heap.size + 1, 2, none⟩) (by first | (simp; done) | (simp; omega)) _).setCell (p := ⟨w.heap.size + 1, 3, none⟩) (by first | (simp; done) | (simp; omega)) _
    · rename_i hS
      go_wp2
      refine gen_world2 (fun wz => ∃ vs, naF w2.heap.size w2 wz a.st a.sa (.slice none 0 0) (.slice aT a.nx.length cT) vs a.nx) (naF_B hq hoT (by simp) (Nat.le_refl _) y0 y1 y2 y3 fy) ?_
      intro wz hz
      obtain ⟨vs, hF⟩ := hz
      obtain ⟨bx, hbx⟩ : ∃ b, b = w2.heap.size := ⟨_, rfl⟩
      rw [← hbx] at hF ⊢
      clear hbA hq hoT hS y0 y1 y2 y3 fy hbx
      obtain ⟨F1, ⟨F20, F21, F22, F23⟩, F3, F4, F5, F6, F7, F8⟩ := hF
      have hF : naF bx w2 wz a.st a.sa (.slice none 0 0) (.slice aT a.nx.length cT) vs a.nx := ⟨F1, ⟨F20, F21, F22, F23⟩, F3, F4, F5, F6, F7, F8⟩
      have HVL : Hid (∀ b, (Value.slice aT a.nx.length cT).ownBlock = some b → b < wz.heap.size) := fun b hb => (F4.2.1.lt b hb).2
      have HRL : Hid (∀ i, i < a.nx.length → ∀ b, (vs.getD i undef).ownBlock = some b → b < wz.heap.size) := fun i hi b hb => ((F4.2.2.1 i hi).lt b hb).2
      have HF0 := Lib.hid hF
      have hwz := F1.size
      have HC2 := Lib.hid c2
      have HC0 := Lib.hid c0
      have HZ : Hid (w2.cell? ⟨w.heap.size + 1, 0, none⟩ = some (.int .i64 0) ∧ w2.cell? ⟨w.heap.size + 1, 1, none⟩ = some (.int .i64 0) ∧ w2.cell? ⟨w.heap.size + 1, 2, none⟩ = some (.slice none 0 0) ∧ w2.cell? ⟨w.heap.size + 1, 3, none⟩ = some (.slice none 0 0)) := ⟨z0, z1, z2, z3⟩
      have HFZ := Lib.hid fz
      clear F1 F20 F21 F22 F23 F3 F4 F5 F6 F7 hF c0 c1 c2 c3 j1 j2 z0 z1 z2 z3 fz
      go_loopw [5, 20] (fun _ i wr => ∃ k : Nat, k ≤ n ∧ i = .int .i64 k ∧ wz.heap.size ≤ wr.heap.size ∧ ∃ f, naF bx w2 wr a.st a.sa f (.slice aT a.nx.length cT) vs a.nx ∧ wr.ownsRow wz.heap.size 2 1 f (nfL a.fi k).length (iv (nfL a.fi k))) (fun _ i _ => n - (intOf i).toNat)
      case atStart => exact ⟨0, by omega, rfl, Nat.le_refl _, _, HF0.out, World.ownsRow_nil _ _ _ _⟩
      case round =>
        obtain ⟨k, hk, rfl, hsz, f, hF, ho⟩ := hrel
        have HFK := Lib.hid hF
        obtain ⟨F1, ⟨F20, F21, F22, F23⟩, F3, F4, F5, F6, F7, F8'⟩ := hF
        have d2 := cell_later F1 HC2.out
        have d0 := cell_later F1 HC0.out
        have hst := HN.out
        obtain ⟨af, cf, rfl, -, -⟩ := owns_sl3 ho
        have hw2b : w.heap.size + 1 < wr.heap.size := by have := F1.size; omega
        by_cases hlt : k < n
        · have hin : ((k : Nat) : Int) < a.st := by omega
          have hin2 : decide ((k : Int) < a.st) = true := by rw [decide_eq_true_iff]; exact hin
          have hw : IntKind.i64.wrap ((k : Int) + 1) = ((k + 1 : Nat) : Int) := by rw [IntWalk.i64_in _ (by omega)]; omega
          have HCK := Lib.hid (HCN.out (k : Int) wr (inI_below HJ1.out F1))
          have hnl := nfL_len a.fi k
          have HO := Lib.hid ho
          clear F1 F20 F21 F23 F4 F5 F6 hst
          cases hct : a.fi.contains (k : Int)
          · have HS : Hid (nfL a.fi (k + 1) = nfL a.fi k ++ [(k : Int)]) := by show _ = _; rw [nfL, hct]; simp
            rw [hct] at HCK
            generalize nfL a.fi k = L at *
            go_wp2_with fail
            refine (HCK.out).mono ?_
            rintro e w3 ⟨rfl, rfl⟩
            have F32 := F3 2
            go_wp2_with (at_builtin; refine app_i64 rfl (.tmp 29) (.tmp 31) rfl wz.heap.size _ _ _ _ _ _ rfl ho rfl (by simp) (by omega) (by simpa using hsz) ?_; intro v' w4 ho4 hb4 hsz4; have g2 := (hb4.cell (p := ⟨bx, 2, none⟩) F8).trans F22; have g2f := (hb4.frozen (p := ⟨bx, 2, none⟩) F8).trans F32; obtain ⟨af2, cf2, rfl, -, -⟩ := owns_sl3 ho4)
            have hfin := ownsRow_setCell_below ho4 (a := ⟨bx, 2, none⟩) F8 (.slice af2 (L.length + 1) cf2)
            have HFIN := Lib.hid hfin
            have HB4 := Lib.hid hb4
            clear g2 g2f hb4 ho4 hfin ho d2 d0 F22 F3 F32
            go_roundw
            case rel => exact ⟨k + 1, by omega, by go_num, by simpa using (show wz.heap.size ≤ w4.heap.size by omega), _, naF_app HFK.out HB4.out F8 hwz HVL.out HRL.out, by rw [HS.out]; simpa [iv] using HFIN.out⟩
            case measure => first | (simp [intOf]; done) | (simp [intOf]; omega)
          · have HS : Hid (nfL a.fi (k + 1) = nfL a.fi k) := by show _ = _; rw [nfL, hct]; simp
            rw [hct] at HCK
            clear F3 F22
            go_wp2_with fail
            refine (HCK.out).mono ?_
            rintro e w3 ⟨rfl, rfl⟩
            go_wp2
            go_roundw
            case rel => exact ⟨k + 1, by omega, by go_num, hsz, _, HFK.out, by rw [HS.out]; exact HO.out⟩
            case measure => first | (simp [intOf]; done) | (simp [intOf]; omega)
        · have ek : k = n := by omega
          have hin2 : decide ((k : Int) < a.st) = false := by rw [decide_eq_false_iff_not]; omega
          have q0 := cell_later F1 HZ.out.1
          have q1 := cell_later F1 HZ.out.2.1
          have q2 := cell_later F1 HZ.out.2.2.1
          have q3 := cell_later F1 HZ.out.2.2.2
          have qf : ∀ j, wr.frozen? ⟨w.heap.size + 1, j, none⟩ = false := fun j => by rw [F1.frozen (by simpa using hw2)]; exact HFZ.out j
          have HP := Lib.hid (put4 (w := wr) (b := w.heap.size + 1) (.int .i64 a.st) (.int .i64 a.sa) (.slice af (nfL a.fi k).length cf) (.slice aT a.nx.length cT) q0 q1 q2 q3)
          have HAU : Hid (AuR w2.heap.size wr (.slice af (nfL a.fi k).length cf) (.slice aT a.nx.length cT) vs ⟨a.st, a.sa, nfL a.fi k, a.nx⟩) := by
            refine ⟨owns_weak ho hwz, F4, fun b hb => ⟨fun e => ?_, fun i hi e => ?_⟩⟩
            · have h1 := (ho.lt b hb).1
              have h2 := HVL.out b e
              omega
            · have h1 := (ho.lt b hb).1
              have h2 := HRL.out i hi b e
              omega
          have HBF := Lib.hid (HBB.out.trans (F1.mono HBB.out.size))
          have HNK : Hid (a.st.toNat = k) := by show _ = _; omega
          have q00 := qf 0
          have q01 := qf 1
          have q02 := qf 2
          have q03 := qf 3
          clear hst hlt ek F1 F3 F4 F5 F6 ho d2
          go_wp2
          have hP := HP.out
          refine bodyPost_ret (v := .tuple #[.agg #[.int .i64 a.st, .int .i64 a.sa, .slice af (nfL a.fi k).length cf, .slice aT a.nx.length cT], .int .i64 0]) (by simp [results, Try.results36, go_sem, hP.1, hP.2.1, hP.2.2.1, hP.2.2.2]) rfl ⟨_, _, vs, rfl, ?_, ?_⟩
          · rw [HNK.out]
            refine auR_weak (auR_gp (P := fun b => b = w.heap.size + 1) HAU.out (Gp.ofSet.trans (Gp.ofSet.trans (Gp.ofSet.trans Gp.ofSet))) (fun b hb h => by omega)) (by omega)
          · exact (((HBF.out.setCell (p := ⟨w.heap.size + 1, 0, none⟩) (by first | (simp; done) | (simp; omega)) _).setCell (p := ⟨w.heap.size + 1, 1, none⟩) (by first | (simp; done) | (simp; omega)) _).setCell (p := ⟨w.heap.size + 1, 2, none⟩) (by first | (simp; done) | (simp; omega)) _).setCell (p := ⟨w.heap.size + 1, 3, none⟩) (by first | (simp; done) | (simp; omega)) _
end Go.Proofs.Ytefcdkgfabaffaa

/- A table of the call's own whose rows' places are told: what is read of it, what is added to it. -/
import Derived.Test.YtimfbnjgodbgoaaLD
import Derived.Test.YtimfbnjgodbgoaaY4
import Derived.Shelf.Abstract
import Derived.Test.YtimfbnjgodbgoaaKW
namespace Go.Proofs.Ytimfbnjgodbgoaa
open Go.ChangeShapes Go.WideShapes Go.RowKit
set_option linter.unusedVariables false
set_option linter.unusedSimpArgs false
set_option maxHeartbeats 2000000
set_option maxRecDepth 100000
theorem grown_put (w : World) (a : Addr) (u : Value) : w.grownBy (w.setCell a u) (some a.block) :=
  ⟨rfl, rfl, rfl, by simp, fun k _ hk => heap_setCell_other w a k u (fun e => hk (by rw [e]))⟩
def vsV (m : Nat) (rs : List Nat) : List Value := rs.map fun b => .slice (some ⟨b, 0, none⟩) m m
theorem vsV_at (m : Nat) {rs : List Nat} {k : Nat} (h : k < rs.length) : (vsV m rs).getD k undef = .slice (some ⟨rs.getD k 0, 0, none⟩) m m := by
  simp [vsV, List.getD, h]
structure VT (base : Nat) (w : World) (g cap : Nat) (rs : List Nat) (R m : Nat) (T : Tb) : Prop where
  rows : RowsT base w (.slice (some ⟨g, 0, none⟩) R cap) (vsV m rs) T
  shp : tbP R m T
theorem VT.rl {base : Nat} {w : World} {g cap : Nat} {rs : List Nat} {R m : Nat} {T : Tb} (h : VT base w g cap rs R m T) : rs.length = R := by
  have := h.rows.1
  rw [h.shp.len] at this
  simpa [vsV] using this
theorem VT.out {base : Nat} {w : World} {g cap : Nat} {rs : List Nat} {R m : Nat} {T : Tb} (h : VT base w g cap rs R m T) {k : Nat} (hk : k < R) : w.cell? ⟨g, k, none⟩ = some (.slice (some ⟨rs.getD k 0, 0, none⟩) m m) := by
  rw [rowsT_cell h.rows (by rw [h.shp.len]; exact hk), vsV_at m (by rw [h.rl]; exact hk)]
theorem VT.row {base : Nat} {w : World} {g cap : Nat} {rs : List Nat} {R m : Nat} {T : Tb} (h : VT base w g cap rs R m T) {k : Nat} (hk : k < R) : w.ownsRow base 2 1 (.slice (some ⟨rs.getD k 0, 0, none⟩) m m) m ((tA T k).map (Value.int .i64)) := by
  have := h.rows.2.2.1 k (by rw [h.shp.len]; exact hk)
  rw [vsV_at m (by rw [h.rl]; exact hk), (h.shp.row k hk).1] at this
  exact this
theorem VT.get {base : Nat} {w : World} {g cap : Nat} {rs : List Nat} {R m : Nat} {T : Tb} (h : VT base w g cap rs R m T) {k s : Nat} (hk : k < R) (hs : s < m) : w.cell? ⟨rs.getD k 0, s, none⟩ = some (.int .i64 ((tA T k).getD s 0)) ∧ w.frozen? ⟨rs.getD k 0, s, none⟩ = false :=
  ⟨own_get (h.row hk) (h.shp.row k hk).1 hs, (h.row hk).frozenAt s⟩
theorem VT.lt {base : Nat} {w : World} {g cap : Nat} {rs : List Nat} {R m : Nat} {T : Tb} (h : VT base w g cap rs R m T) {k : Nat} (hk : k < R) : base ≤ rs.getD k 0 ∧ rs.getD k 0 < w.heap.size := (h.row hk).lt _ rfl
theorem VT.ne {base : Nat} {w : World} {g cap : Nat} {rs : List Nat} {R m : Nat} {T : Tb} (h : VT base w g cap rs R m T) {k : Nat} (hk : k < R) : rs.getD k 0 ≠ g := by
  intro e
  have := h.rows.2.2.2.2 k (rs.getD k 0) (by rw [h.shp.len]; exact hk) (by rw [vsV_at m (by rw [h.rl]; exact hk)]; rfl)
  exact this (by rw [e]; rfl)
theorem VT.glt {base : Nat} {w : World} {g cap : Nat} {rs : List Nat} {R m : Nat} {T : Tb} (h : VT base w g cap rs R m T) : base ≤ g ∧ g < w.heap.size := h.rows.2.1.lt _ rfl
theorem VT.add {base : Nat} {w : World} {g cap : Nat} {rs : List Nat} {R m : Nat} {T : Tb} (h : VT base w g cap rs R m T) {k s : Nat} (hk : k < R) (hs : s < m) (n : Int) : VT base (w.setCell ⟨rs.getD k 0, s, none⟩ (.int .i64 (IntKind.i64.wrap ((tA T k).getD s 0 + n)))) g cap rs R m (addT T k s n) := by
  refine ⟨rowsT_set (j := k) h.rows (by rw [h.shp.len]; exact hk) (addT_len _ _ _ _) (fun p hp hne => addT_ne s n hne) ?_ ?_, tbP_add h.shp k s n⟩
  · rw [vsV_at m (by rw [h.rl]; exact hk), addT_at s n (by rw [h.shp.len]; exact hk), addL_len, (h.shp.row k hk).1]
    exact own_set (h.row hk) s _
  · rw [vsV_at m (by rw [h.rl]; exact hk)]
    exact grown_put w ⟨rs.getD k 0, s, none⟩ _
theorem VT.gp {P : Nat → Prop} {base : Nat} {w w' : World} {g cap : Nat} {rs : List Nat} {R m : Nat} {T : Tb} (h : VT base w g cap rs R m T) (gp : Gp P w w') (hg : ¬ P g) (hr : ∀ k, k < R → ¬ P (rs.getD k 0)) : VT base w' g cap rs R m T := by
  refine ⟨rowsT_gpx h.rows gp (fun b hb => ?_) (fun i hi b hb => ?_), h.shp⟩
  · injection hb with hb; subst hb; exact hg
  · rw [h.shp.len] at hi
    rw [vsV_at m (by rw [h.rl]; exact hi)] at hb
    injection hb with hb; subst hb; exact hr i hi
theorem VT.set {base : Nat} {w : World} {g cap : Nat} {rs : List Nat} {R m : Nat} {T : Tb} (h : VT base w g cap rs R m T) {b : Nat} (hg : b ≠ g) (hr : ∀ k, k < R → rs.getD k 0 ≠ b) (o : Nat) (u : Value) : VT base (w.setCell ⟨b, o, none⟩ u) g cap rs R m T :=
  h.gp (P := fun x => x = b) (Gp.of (grown_put w ⟨b, o, none⟩ u) (fun x e => by injection e with e; exact e.symm)) (fun e => hg e.symm) hr
theorem VT.after {base : Nat} {w w' : World} {g cap : Nat} {rs : List Nat} {R m : Nat} {T : Tb} (h : VT base w g cap rs R m T) (hb : Below w.heap.size w w') : VT base w' g cap rs R m T := ⟨rowsT_after h.rows hb, h.shp⟩
theorem VT.drew {base : Nat} {w : World} {g cap : Nat} {rs : List Nat} {R m : Nat} {T : Tb} (h : VT base w g cap rs R m T) : VT base w.drew g cap rs R m T := h.after (Below.refl _ _).drew
theorem VT.weak {base b2 : Nat} {w : World} {g cap : Nat} {rs : List Nat} {R m : Nat} {T : Tb} (h : VT base w g cap rs R m T) (hb : b2 ≤ base) : VT b2 w g cap rs R m T :=
  ⟨⟨h.rows.1, owns_weak h.rows.2.1 hb, fun k hk => owns_weak (h.rows.2.2.1 k hk) hb, h.rows.2.2.2⟩, h.shp⟩
theorem VT.alloc {base : Nat} {w : World} {g cap : Nat} {rs : List Nat} {R m : Nat} {T : Tb} (h : VT base w g cap rs R m T) (o : Obj) : VT base (w.alloc o) g cap rs R m T := h.after ((Below.refl _ _).alloc (Nat.le_refl _) o)
end Go.Proofs.Ytimfbnjgodbgoaa

/- What 'visits' calls for each piece: how often a rule is read from a state, one more. -/
namespace Go.Proofs.Ytimfbnjgodbgoaa
open Go.ChangeShapes Go.WideShapes Go.RowKit
set_option linter.unusedVariables false
set_option linter.unusedSimpArgs false
set_option maxHeartbeats 2000000
set_option maxRecDepth 100000
/-- the blocks that the pieces write -/
def mdV (bs : Nat) (rs : List Nat) : World → Nat → Prop := fun _ k => k = bs ∨ ∃ i, i < rs.length ∧ rs.getD i 0 = k
theorem fr_set {bs : Nat} {rs : List Nat} {w w' : World} (h : Fr (mdV bs rs) w w') {b : Nat} (hb : mdV bs rs w b) (o : Nat) (u : Value) : Fr (mdV bs rs) w (w'.setCell ⟨b, o, none⟩ u) :=
  h.trans ⟨rfl, rfl, rfl, by simp, fun k _ hm => heap_setCell_other w' ⟨b, o, none⟩ k u (fun e => hm (by rw [e]; exact hb)), fun _ _ h => h⟩
theorem fr_drew {bs : Nat} {rs : List Nat} {w w' : World} (h : Fr (mdV bs rs) w w') : Fr (mdV bs rs) w w'.drew := h.trans (Fr.drew (fun _ h => h))
theorem i_visits1 (vm : Value) (M T : Tb) (g cap R m bo bs br k s : Nat) (rs : List Nat) (w0 w : World) (hB : Below w0.heap.size w0 w) (hv : VT w0.heap.size w g cap rs R m T)
    (hbo : w.cell? ⟨bo, 0, none⟩ = some (.slice (some ⟨g, 0, none⟩) R cap)) (hbs : w.cell? ⟨bs, 0, none⟩ = some (.int .i64 (s : Int))) (hfs : w.frozen? ⟨bs, 0, none⟩ = false) (hbr : w.cell? ⟨br, 6, none⟩ = some vm)
    (hM : InT w0 vm M) (hML : M.length = R) (hMR : (tA M k).length = m) (hk : k < R) (hs : s < m) (hMb : 0 ≤ (tA M k).getD s 0)
    (hsB : w0.heap.size ≤ bs) (hsg : bs ≠ g) (hsr : ∀ i, i < R → rs.getD i 0 ≠ bs) (hob : bo ≠ bs) (hor : ∀ i, i < R → rs.getD i 0 ≠ bo) (hrb : br ≠ bs) (hrr : ∀ i, i < R → rs.getD i 0 ≠ br) :
    Calls Try.prog 76 #[.int .i64 (k : Int), .pointer (some ⟨bo, 0, none⟩), .pointer (some ⟨bs, 0, none⟩), .pointer (some ⟨br, 0, none⟩)] w
      fun e w' => e = .returned (.tuple #[]) ∧ Below w0.heap.size w0 w' ∧ VT w0.heap.size w' g cap rs R m (addT T k s 1) ∧ w'.cell? ⟨bs, 0, none⟩ = some (.int .i64 (((tA M k).getD s 0).toNat : Int)) ∧ w'.frozen? ⟨bs, 0, none⟩ = false ∧ Fr (mdV bs rs) w w' := by
  obtain ⟨am, cm, rfl⟩ := inT_sl hM
  obtain ⟨bm, om, rfl, hbml, hall⟩ := inT_all hM (by omega)
  obtain ⟨rp, cp, hcp, hip⟩ := hall k (by omega)
  obtain ⟨gp, fp, rfl, hgpl, hvp⟩ := inI_at hip (show s < (tA M k).length by omega)
  obtain ⟨q, hq⟩ := Int.eq_ofNat_of_zero_le hMb
  rw [hMR] at hcp
  rw [hq] at hvp ⊢
  simp only [Int.toNat_natCast]
  have d0 := hv.out hk
  obtain ⟨d1, d2⟩ := hv.get hk hs
  have hrl := hv.lt hk
  have hn1 := hsr k hk
  have hn2 := hor k hk
  have hn3 := hrr k hk
  have HV2 := Lib.hid (VT.drew (VT.drew (VT.set (b := bs) (hv.add hk hs 1) hsg hsr 0 (.int .i64 (q : Int)))))
  rw [IntWalk.i64_left] at HV2
  have hmk : mdV bs rs w (rs.getD k 0) := .inr ⟨k, by rw [hv.rl]; exact hk, rfl⟩
  have hms : mdV bs rs w bs := .inl rfl
  have HFR := Lib.hid (fun u v => fr_drew (fr_drew (fr_set (fr_set (Fr.refl (mdV bs rs) w) hmk s u) hms 0 v)))
  have HB2 : Hid (∀ u v, Below w0.heap.size w0 (((w.setCell ⟨rs.getD k 0, s, none⟩ u).setCell ⟨bs, 0, none⟩ v).drew.drew)) := fun u v => (((hB.setCell (p := ⟨rs.getD k 0, s, none⟩) hrl.1 u)).setCell (p := ⟨bs, 0, none⟩) hsB v).drew.drew
  have HB1 : ∀ u, Below w0.heap.size w0 ((w.setCell ⟨rs.getD k 0, s, none⟩ u).drew) := fun u => (hB.setCell (p := ⟨rs.getD k 0, s, none⟩) hrl.1 u).drew
  have e0 := fun u => cell_later (HB1 u) hcp
  have e1 := fun u => cell_later (HB1 u) hvp
  have e2 : ∀ u, ((w.setCell ⟨rs.getD k 0, s, none⟩ u).drew).cell? ⟨bs, 0, none⟩ = some (.int .i64 (s : Int)) := fun u => by simp only [World.cell?_drew]; rw [cell_st_ne _ (by exact hn1)]; exact hbs
  have e3 : ∀ u, ((w.setCell ⟨rs.getD k 0, s, none⟩ u).drew).cell? ⟨br, 6, none⟩ = some (.slice (some ⟨bm, om, none⟩) M.length cm) := fun u => by simp only [World.cell?_drew]; rw [cell_st_ne _ (by exact hn3)]; exact hbr
  have e4 : ∀ u, ((w.setCell ⟨rs.getD k 0, s, none⟩ u).drew).frozen? ⟨bs, 0, none⟩ = false := fun u => by simp only [World.frozen?_drew]; rw [World.frozen?_setCell]; exact hfs
  have E := Lib.hid (And.intro e0 (And.intro e1 (And.intro e2 (And.intro e3 e4))))
  have hkI : (k : Int) < R := by omega
  have hsI : (s : Int) < m := by omega
  have hkM : (k : Int) < M.length := by omega
  have HCS := Lib.hid (fun u v => cell_st_same (w := ((w.setCell ⟨rs.getD k 0, s, none⟩ u))) v (by have := e2 u; simp only [World.cell?_drew] at this; exact this))
  have HFS : Hid (∀ u v, (((w.setCell ⟨rs.getD k 0, s, none⟩ u).setCell ⟨bs, 0, none⟩ v).drew.drew).frozen? ⟨bs, 0, none⟩ = false) := fun u v => by simp only [World.frozen?_drew]; rw [World.frozen?_setCell, World.frozen?_setCell]; exact hfs
  clear e0 e1 e2 e3 e4 HB1 hms hmk hv hB hfs hM hall hip hcp hvp hsr hor hrr hq hMb hML hMR hbr
  generalize rs.getD k 0 = rk at *
  generalize (tA T k).getD s 0 = x at *
  generalize addT T k s 1 = T2 at *
  go_enter Try.func76, Try.ntmps76
  go_wp2
  go_region
  go_wp2
  obtain ⟨e0, e1, e2, e3, e4⟩ := E.out
  go_region
  go_wp2
  go_end0
  exact ⟨rfl, HB2.out _ _, HV2.out, by simp only [World.cell?_drew]; exact HCS.out _ _, HFS.out _ _, HFR.out _ _⟩
end Go.Proofs.Ytimfbnjgodbgoaa

/- How often states are met: the program's walk. -/
namespace Go.Proofs.Ytimfbnjgodbgoaa
open Go.ChangeShapes Go.WideShapes Go.RowKit
set_option linter.unusedVariables false
set_option linter.unusedSimpArgs false
set_option maxHeartbeats 4000000
set_option maxRecDepth 100000
theorem share3 {P : Prop} (F : Nat → Nat → Nat → World → Prop) {G : Nat → Nat → Nat → World → Prop} (h : (∀ x y z w, F x y z w → G x y z w) → P) (rest : ∀ x y z w, F x y z w → G x y z w) : P := h rest
theorem own_made {w : World} {base : Nat} (h : base ≤ w.heap.size) {n : Nat} (hn : n ≤ 1048576) : (w.alloc (.cells (madeCells #[.int .i64 0] n) 2)).ownsRow base 2 1 (.slice (some ⟨w.heap.size, 0, none⟩) n n) n ((zR n).map (Value.int .i64)) := by
  have e := toList_madeCells_one (.int .i64 0) n
  refine ⟨by simp [zR], .inr ⟨w.heap.size, n, madeCells #[.int .i64 0] n, rfl, h, heap_alloc_new w _, Nat.le_refl _, by unfold maxLen; omega, ?_, ?_⟩⟩
  · have := congrArg List.length e; simp at this; simp [this]
  · rw [e]; simp [zR]
theorem own_madeT {w : World} {base : Nat} (h : base ≤ w.heap.size) {n : Nat} (hn : n ≤ 1048576) : (w.alloc (.cells (madeCells #[.slice none 0 0] n) 28)).ownsRow base 28 1 (.slice (some ⟨w.heap.size, 0, none⟩) n n) n (List.replicate n (.slice none 0 0)) := by
  have e := toList_madeCells_one (.slice none 0 0) n
  refine ⟨by simp, .inr ⟨w.heap.size, n, madeCells #[.slice none 0 0] n, rfl, h, heap_alloc_new w _, Nat.le_refl _, by unfold maxLen; omega, ?_, ?_⟩⟩
  · have := congrArg List.length e; simp at this; simp [this]
  · rw [e]; simp
theorem own_far {w : World} {base e n g cap : Nat} {xs : List Value} (h : w.ownsRow base e 1 (.slice (some ⟨g, 0, none⟩) n cap) n xs) {b : Nat} (hne : g ≠ b) (o : Nat) (u : Value) : (w.setCell ⟨b, o, none⟩ u).ownsRow base e 1 (.slice (some ⟨g, 0, none⟩) n cap) n xs :=
  World.ownsRow.kept h (grown_put w ⟨b, o, none⟩ u) (.inr (fun e => hne (by injection e)))
/-- a table whose rows are being made -/
structure MK (B B2 : Nat) (w : World) (g R m : Nat) (rs : List Nat) : Prop where
  out : w.ownsRow B 28 1 (.slice (some ⟨g, 0, none⟩) R R) R (vsV m rs ++ List.replicate (R - rs.length) (.slice none 0 0))
  rows : ∀ k, k < rs.length → w.ownsRow B2 2 1 (.slice (some ⟨rs.getD k 0, 0, none⟩) m m) m ((zR m).map (Value.int .i64))
  inc : ∀ i j, i < j → j < rs.length → rs.getD i 0 < rs.getD j 0
  lo : B ≤ B2 ∧ g < B2 ∧ rs.length ≤ R ∧ B2 ≤ w.heap.size
theorem MK.drew {B B2 : Nat} {w : World} {g R m : Nat} {rs : List Nat} (h : MK B B2 w g R m rs) : MK B B2 w.drew g R m rs := ⟨ownsRow_drew h.out, fun k hk => ownsRow_drew (h.rows k hk), h.inc, h.lo⟩
theorem MK.step {B B2 : Nat} {w : World} {g R m : Nat} {rs : List Nat} (h : MK B B2 w g R m rs) (hl : rs.length < R) (hm : m ≤ 1048576) : MK B B2 ((w.alloc (.cells (madeCells #[.int .i64 0] m) 2)).setCell ⟨g, rs.length, none⟩ (.slice (some ⟨w.heap.size, 0, none⟩) m m)) g R m (rs ++ [w.heap.size]) := by
  obtain ⟨lo1, lo2, lo3, lo4⟩ := h.lo
  refine ⟨?_, fun k hk => ?_, fun i j hij hj => ?_, lo1, lo2, by simp; omega, by simp; omega⟩
  · have := ((h.out.alloc (.cells (madeCells #[.int .i64 0] m) 2)).stored rs.length (.slice (some ⟨w.heap.size, 0, none⟩) m m)).1
    have e : (vsV m rs ++ List.replicate (R - rs.length) (Value.slice none 0 0)).set rs.length (Value.slice (some ⟨w.heap.size, 0, none⟩) m m) = vsV m (rs ++ [w.heap.size]) ++ List.replicate (R - (rs ++ [w.heap.size]).length) (Value.slice none 0 0) := by
      rw [List.set_append_right _ _ (by simp [vsV])]
      have e2 : R - rs.length = (R - (rs ++ [w.heap.size]).length) + 1 := by simp; omega
      rw [e2, List.replicate_succ]
      simp [vsV]
    rwa [e] at this
  · simp at hk
    by_cases he : k < rs.length
    · rw [List.getD, List.getElem?_append_left he]
      exact own_far ((h.rows k he).alloc _) (by have h9 : B2 ≤ rs.getD k 0 := ((h.rows k he).lt _ rfl).1; show rs.getD k 0 ≠ g; omega) _ _
    · have e : k = rs.length := by omega
      subst e
      rw [List.getD, List.getElem?_append_right (Nat.le_refl _)]
      simp only [Nat.sub_self, List.getElem?_cons_zero, Option.getD_some]
      exact own_far (own_made lo4 hm) (by omega) _ _
  · simp at hj
    rw [List.getD, List.getElem?_append_left (by omega)]
    by_cases he : j < rs.length
    · rw [List.getD, List.getElem?_append_left he]; exact h.inc i j hij he
    · have e : j = rs.length := by omega
      subst e
      rw [List.getD, List.getElem?_append_right (Nat.le_refl _)]
      simp only [Nat.sub_self, List.getElem?_cons_zero, Option.getD_some]
      exact ((h.rows i hij).lt _ rfl).2
theorem MK.fin {B B2 : Nat} {w : World} {g R m : Nat} {rs : List Nat} (h : MK B B2 w g R m rs) (hl : rs.length = R) : VT B w g R rs R m (zT R m) := by
  obtain ⟨lo1, lo2, lo3, lo4⟩ := h.lo
  have hz : (zT R m).length = R := by simp [zT]
  refine ⟨⟨by simp [vsV, zT, hl], ?_, fun k hk => ?_, fun i j hij hj b h1 h2 => ?_, fun i b hi h1 h2 => ?_⟩, zT_P R m⟩
  · have := h.out
    rw [hl, Nat.sub_self, List.replicate_zero, List.append_nil] at this
    rw [hz]; exact this
  · rw [hz] at hk
    rw [vsV_at m (by omega), zT_at hk]
    have := owns_weak (h.rows k (by omega)) lo1
    simpa [zR, iv] using this
  · rw [hz] at hj
    rw [vsV_at m (by omega)] at h1 h2
    injection h1 with h1
    injection h2 with h2
    have := h.inc i j hij (by omega)
    rw [List.getD] at this
    have a1 : rs.getD i 0 = b := h1
    have a2 : rs.getD j 0 = b := h2
    rw [List.getD] at a1
    omega
  · rw [hz] at hi
    rw [vsV_at m (by omega)] at h1
    injection h1 with h1
    injection h2 with h2
    have a1 : rs.getD i 0 = b := h1
    have a2 : g = b := h2
    have := ((h.rows i (by omega)).lt _ rfl).1
    omega
end Go.Proofs.Ytimfbnjgodbgoaa

/- How often states are met: what the walk keeps from round to round. -/
namespace Go.Proofs.Ytimfbnjgodbgoaa
open Go.ChangeShapes Go.WideShapes Go.RowKit
set_option linter.unusedVariables false
set_option linter.unusedSimpArgs false
set_option maxHeartbeats 400000
set_option maxRecDepth 100000
/-- the seven cells of a ride -/
def rd7 (B : Nat) (c0 c1 c2 c3 c4 c5 c6 : Value) (w : World) : Prop := w.cell? ⟨B, 0, none⟩ = some c0 ∧ w.cell? ⟨B, 1, none⟩ = some c1 ∧ w.cell? ⟨B, 2, none⟩ = some c2 ∧ w.cell? ⟨B, 3, none⟩ = some c3 ∧ w.cell? ⟨B, 4, none⟩ = some c4 ∧ w.cell? ⟨B, 5, none⟩ = some c5 ∧ w.cell? ⟨B, 6, none⟩ = some c6
theorem rd7_gp {P : Nat → Prop} {B : Nat} {c0 c1 c2 c3 c4 c5 c6 : Value} {w w' : World} (h : rd7 B c0 c1 c2 c3 c4 c5 c6 w) (g : Gp P w w') (hB : ¬ P B) : rd7 B c0 c1 c2 c3 c4 c5 c6 w' := by
  obtain ⟨h0, h1, h2, h3, h4, h5, h6⟩ := h
  exact ⟨g.cell h0 hB, g.cell h1 hB, g.cell h2 hB, g.cell h3 hB, g.cell h4 hB, g.cell h5 hB, g.cell h6 hB⟩
/-- while the rows are made -/
structure viL (B R m : Nat) (c0 c1 c2 c3 c4 c5 c6 : Value) (w0 : World) (gO gZ bo B2 : Nat) (rs : List Nat) (w : World) : Prop where
  bel : Below B w0 w
  cs : rd7 B c0 c1 c2 c3 c4 c5 c6 w
  ob : w.cell? ⟨bo, 0, none⟩ = some (.slice (some ⟨gO, 0, none⟩) R R)
  tb : MK B B2 w gO R m rs
  z : w.ownsRow B 2 1 (.slice (some ⟨gZ, 0, none⟩) m m) m ((zR m).map (Value.int .i64))
  ne : gO ≠ gZ ∧ gO ≠ bo ∧ gZ ≠ bo ∧ B < gO ∧ B < gZ ∧ B < bo ∧ gO < B2 ∧ gZ < B2 ∧ bo < B2 ∧ B2 ≤ w.heap.size
theorem viL.drew {B R m : Nat} {c0 c1 c2 c3 c4 c5 c6 : Value} {w0 : World} {gO gZ bo B2 : Nat} {rs : List Nat} {w : World} (h : viL B R m c0 c1 c2 c3 c4 c5 c6 w0 gO gZ bo B2 rs w) : viL B R m c0 c1 c2 c3 c4 c5 c6 w0 gO gZ bo B2 rs w.drew :=
  ⟨h.bel.drew, h.cs, h.ob, h.tb.drew, ownsRow_drew h.z, h.ne⟩
theorem viL.step {B R m : Nat} {c0 c1 c2 c3 c4 c5 c6 : Value} {w0 : World} {gO gZ bo B2 : Nat} {rs : List Nat} {w : World} (h : viL B R m c0 c1 c2 c3 c4 c5 c6 w0 gO gZ bo B2 rs w) (hl : rs.length < R) (hm : m ≤ 1048576) :
    viL B R m c0 c1 c2 c3 c4 c5 c6 w0 gO gZ bo B2 (rs ++ [w.heap.size]) ((w.alloc (.cells (madeCells #[.int .i64 0] m) 2)).setCell ⟨gO, rs.length, none⟩ (.slice (some ⟨w.heap.size, 0, none⟩) m m)) := by
  obtain ⟨n1, n2, n3, n4, n5, n6, n7, n8, n9, n10⟩ := h.ne
  have g : Gp (fun k => k = gO) w ((w.alloc (.cells (madeCells #[.int .i64 0] m) 2)).setCell ⟨gO, rs.length, none⟩ (.slice (some ⟨w.heap.size, 0, none⟩) m m)) :=
    (Gp.ofBelow ((Below.refl _ _).alloc (Nat.le_refl _) _)).trans Gp.ofSet
  refine ⟨(h.bel.alloc (by omega) _).setCell (p := ⟨gO, rs.length, none⟩) (by show B ≤ gO; omega) _, rd7_gp h.cs g (by omega), g.cell h.ob (fun e => n2 e.symm), h.tb.step hl hm, owns_gp h.z g (fun b hb e => by injection hb with hb; exact n1 (e.symm.trans hb.symm)), by
    refine ⟨n1, n2, n3, n4, n5, n6, n7, n8, n9, ?_⟩
    simp; omega⟩
/-- the tables are filled -/
structure vsF (B R m : Nat) (c0 c1 c2 c3 c4 c5 c6 : Value) (w0 : World) (gO gZ bo : Nat) (rs : List Nat) (T : Tb) (o : List Int) (w : World) : Prop where
  bel : Below B w0 w
  cs : rd7 B c0 c1 c2 c3 c4 c5 c6 w
  ob : w.cell? ⟨bo, 0, none⟩ = some (.slice (some ⟨gO, 0, none⟩) R R)
  vt : VT B w gO R rs R m T
  z : w.ownsRow B 2 1 (.slice (some ⟨gZ, 0, none⟩) m m) m (o.map (Value.int .i64))
  ol : o.length = m
  ne : gO ≠ gZ ∧ gO ≠ bo ∧ gZ ≠ bo ∧ B < gO ∧ B < gZ ∧ B < bo
  rne : ∀ k, k < R → rs.getD k 0 ≠ gZ ∧ rs.getD k 0 ≠ bo ∧ B < rs.getD k 0
theorem viL.fin {B R m : Nat} {c0 c1 c2 c3 c4 c5 c6 : Value} {w0 : World} {gO gZ bo B2 : Nat} {rs : List Nat} {w : World} (h : viL B R m c0 c1 c2 c3 c4 c5 c6 w0 gO gZ bo B2 rs w) (hl : rs.length = R) : vsF B R m c0 c1 c2 c3 c4 c5 c6 w0 gO gZ bo rs (zT R m) (zR m) w := by
  obtain ⟨n1, n2, n3, n4, n5, n6, n7, n8, n9, n10⟩ := h.ne
  refine ⟨h.bel, h.cs, h.ob, h.tb.fin hl, h.z, by simp [zR], ⟨n1, n2, n3, n4, n5, n6⟩, fun k hk => ?_⟩
  have h9 : B2 ≤ rs.getD k 0 := ((h.tb.rows k (by omega)).lt _ rfl).1
  omega
/-- the blocks that are written -/
def vsQ (gZ R : Nat) (rs : List Nat) : Nat → Prop := fun b => b = gZ ∨ ∃ k, k < R ∧ rs.getD k 0 = b
theorem vsF.gp {B R m : Nat} {c0 c1 c2 c3 c4 c5 c6 : Value} {w0 : World} {gO gZ bo : Nat} {rs : List Nat} {T T' : Tb} {o o' : List Int} {w w' : World} (h : vsF B R m c0 c1 c2 c3 c4 c5 c6 w0 gO gZ bo rs T o w) {P : Nat → Prop} (g : Gp P w w') (hP : ∀ b, P b → vsQ gZ R rs b)
    (h1 : VT B w' gO R rs R m T') (h2 : w'.ownsRow B 2 1 (.slice (some ⟨gZ, 0, none⟩) m m) m (o'.map (Value.int .i64))) (h3 : o'.length = m) : vsF B R m c0 c1 c2 c3 c4 c5 c6 w0 gO gZ bo rs T' o' w' := by
  obtain ⟨n1, n2, n3, n4, n5, n6⟩ := h.ne
  have hlo : ∀ b, P b → B < b := by
    intro b hb
    rcases hP b hb with rfl | ⟨k, hk, rfl⟩
    · exact n5
    · exact (h.rne k hk).2.2
  have hbo : ¬ P bo := by
    intro hb
    rcases hP _ hb with e | ⟨k, hk, e⟩
    · exact n3 e.symm
    · exact (h.rne k hk).2.1 e
  exact ⟨below_gp h.bel g (by have := h.vt.glt; omega) (fun b hb => Nat.le_of_lt (hlo b hb)), rd7_gp h.cs g (fun hb => by have := hlo _ hb; omega), g.cell h.ob hbo, h1, h2, h3, h.ne, h.rne⟩
theorem vsF.row {B R m : Nat} {c0 c1 c2 c3 c4 c5 c6 : Value} {w0 : World} {gO gZ bo : Nat} {rs : List Nat} {T : Tb} {o : List Int} {w : World} (h : vsF B R m c0 c1 c2 c3 c4 c5 c6 w0 gO gZ bo rs T o w) {k s : Nat} (hk : k < R) (hs : s < m) (n : Int) :
    vsF B R m c0 c1 c2 c3 c4 c5 c6 w0 gO gZ bo rs (addT T k s n) o (w.setCell ⟨rs.getD k 0, s, none⟩ (.int .i64 (IntKind.i64.wrap ((tA T k).getD s 0 + n)))) :=
  h.gp (P := fun b => b = rs.getD k 0) Gp.ofSet (fun b hb => .inr ⟨k, hk, hb.symm⟩) (h.vt.add hk hs n) (own_far h.z (fun e => (h.rne k hk).1 e.symm) _ _) h.ol
theorem vsF.out {B R m : Nat} {c0 c1 c2 c3 c4 c5 c6 : Value} {w0 : World} {gO gZ bo : Nat} {rs : List Nat} {T : Tb} {o : List Int} {w : World} (h : vsF B R m c0 c1 c2 c3 c4 c5 c6 w0 gO gZ bo rs T o w) (s : Nat) (n : Int) :
    vsF B R m c0 c1 c2 c3 c4 c5 c6 w0 gO gZ bo rs T (addL o s n) (w.setCell ⟨gZ, s, none⟩ (.int .i64 (IntKind.i64.wrap (o.getD s 0 + n)))) :=
  h.gp (P := fun b => b = gZ) Gp.ofSet (fun b hb => .inl hb) (h.vt.set (fun e => h.ne.1 e.symm) (fun k hk => (h.rne k hk).1) _ _) (own_set h.z s _) (by rw [addL_len]; exact h.ol)
theorem vsF.after {B R m : Nat} {c0 c1 c2 c3 c4 c5 c6 : Value} {w0 : World} {gO gZ bo : Nat} {rs : List Nat} {T : Tb} {o : List Int} {w w' : World} (h : vsF B R m c0 c1 c2 c3 c4 c5 c6 w0 gO gZ bo rs T o w) (hb : Below w.heap.size w w') : vsF B R m c0 c1 c2 c3 c4 c5 c6 w0 gO gZ bo rs T o w' :=
  h.gp (P := fun _ => False) (Gp.ofBelow hb) (fun _ e => e.elim) (h.vt.after hb) (owns_after h.z hb) h.ol
/-- what has been written since -/
theorem gp_row {gZ R : Nat} {rs : List Nat} {w w' : World} (g : Gp (vsQ gZ R rs) w w') {k : Nat} (hk : k < R) (s : Nat) (u : Value) : Gp (vsQ gZ R rs) w (w'.setCell ⟨rs.getD k 0, s, none⟩ u) :=
  g.trans (Gp.ofSet.mono (fun b hb => .inr ⟨k, hk, hb.symm⟩))
theorem gp_out {gZ R : Nat} {rs : List Nat} {w w' : World} (g : Gp (vsQ gZ R rs) w w') (s : Nat) (u : Value) : Gp (vsQ gZ R rs) w (w'.setCell ⟨gZ, s, none⟩ u) :=
  g.trans (Gp.ofSet.mono (fun b hb => .inl hb))
theorem gp_drew {P : Nat → Prop} {w w' : World} (g : Gp P w w') : Gp P w w'.drew := g.trans (Gp.ofBelow (Below.refl _ _).drew)
theorem fr_gp {bs : Nat} {rs : List Nat} {w w' : World} (h : Fr (mdV bs rs) w w') : Gp (fun k => k = bs ∨ ∃ i, i < rs.length ∧ rs.getD i 0 = k) w w' := ⟨h.os, h.tape, h.output, h.size, h.block⟩
theorem viS_pair {l : List Ru} {M : Tb} {i s : Nat} {n : Int} {T : Tb} {o : List Int} {p q t : Nat} (hz : (ruA l i).1.size = 0) (h2 : (ruA l i).2.1 = (p : Int)) (h3 : (ruA l i).2.2 = (q : Int)) (ht : (tA M p).getD s 0 = (t : Int)) : viS l M i s n (T, o) = (addT (addT T p s n) q t n, o) := by
  unfold viS
  rw [if_pos hz, h2, h3, Int.toNat_natCast, Int.toNat_natCast, ht, Int.toNat_natCast]
theorem viS_lett {l : List Ru} {M : Tb} {i s : Nat} {n : Int} {T : Tb} {o : List Int} {t : Nat} (hz : ¬ (ruA l i).1.size = 0) (ht : (tA M i).getD s 0 = (t : Int)) : viS l M i s n (T, o) = (T, addL o t n) := by
  unfold viS
  rw [if_neg hz, ht, Int.toNat_natCast]
/-- the state behind pieces is one -/
theorem viB_bd {nx : Tb} {l : List Ru} (hn : nxP nx) (hok : gOk l = true) {sa : Nat} (hs : sa < nx.length) : ∀ (ks : List Nat), (∀ k ∈ ks, k < l.length) → (viB (gSm nx l) l.length nx.length sa ks).2 < nx.length := by
  have h : ∀ (ks : List Nat) (p : Tb × Nat), (∀ k ∈ ks, k < l.length) → p.2 < nx.length → (ks.foldl (viP (gSm nx l)) p).2 < nx.length := by
    intro ks
    induction ks with
    | nil => intro p _ hp; exact hp
    | cons k ks ih =>
      intro p hk hp
      have hb := smT_bd (nx := nx) hn hok l.length k p.2 (hk k (by simp)) (Nat.le_refl _) hp
      have hb' : 0 ≤ (tA (gSm nx l) k).getD p.2 0 ∧ (tA (gSm nx l) k).getD p.2 0 < nx.length := hb
      exact ih _ (fun q hq => hk q (by simp [hq])) (by show ((tA (gSm nx l) k).getD p.2 0).toNat < nx.length; omega)
  intro ks hk
  exact h ks _ hk hs
end Go.Proofs.Ytimfbnjgodbgoaa

/- How often states are met: the pieces of a part. -/
namespace Go.Proofs.Ytimfbnjgodbgoaa
open Go.ChangeShapes Go.WideShapes Go.RowKit
set_option linter.unusedVariables false
set_option linter.unusedSimpArgs false
set_option maxHeartbeats 400000
set_option maxRecDepth 100000
theorem eF_visits1 : ∀ args w, (callFunc 76 args).run Try.prog w = .ok (.enter 76 args) w := enters_of Try.func76 (by kernel_rfl) rfl
theorem vis_pieces {m B0 : Nat} {c0 c1 c2 c3 c4 c5 vm : Value} {gO gZ bo bs : Nat} {rs : List Nat} {nx : Tb} {l : List Ru} {sa : Nat} {j : Int} {ag al : Option Addr} {kg kl : Nat} {w w4 : World}
    (hok : gOk l = true) (hn : nxP nx) (hm : nx.length = m) (hsa : sa < m) (hg : InRu w (.slice ag l.length kg) l) (hl : w.ownsRow B0 2 1 (.slice al l.length kl) l.length ((gLn l).map (Value.int .i64))) (hM : InT w vm (gSm nx l))
    (hF : vsF w.heap.size l.length m c0 c1 c2 c3 c4 c5 vm w gO gZ bo rs (zT l.length m) (zR m) w4)
    (hs : w4.cell? ⟨bs, 0, none⟩ = some (.int .i64 (sa : Int))) (hfs : w4.frozen? ⟨bs, 0, none⟩ = false) (hs1 : w.heap.size < bs) (hs2 : bs < w4.heap.size) (hs3 : bs ≠ gO ∧ bs ≠ gZ ∧ bs ≠ bo) (hs4 : ∀ k, k < l.length → rs.getD k 0 ≠ bs) :
    Calls Try.prog 75 #[.agg #[.slice ag l.length kg], .slice al l.length kl, .int .i64 0, .int .i64 j, .func (.func 76) #[] #[.pointer (some ⟨bo, 0, none⟩), .pointer (some ⟨bs, 0, none⟩), .pointer (some ⟨w.heap.size, 0, none⟩)]] w4
      fun e w5 => e = .returned (.tuple #[]) ∧ vsF w.heap.size l.length m c0 c1 c2 c3 c4 c5 vm w gO gZ bo rs (viB (gSm nx l) l.length m sa (pcv l 0 j)).1 (zR m) w5 := by
  subst hm
  obtain ⟨n1, n2, n3, n4, n5, n6⟩ := hF.ne
  have hrl := hF.vt.rl
  have hal : ∃ gl, l.length ≠ 0 → al = some ⟨gl, 0, none⟩ := by
    by_cases h0 : l.length = 0
    · exact ⟨0, fun h => absurd h0 h⟩
    · obtain ⟨a, c, e, h1, -⟩ := owns_sl3 hl
      obtain ⟨g, hg⟩ := h1 h0
      injection e with e
      exact ⟨g, fun _ => by rw [e, hg]⟩
  obtain ⟨gl, hlv⟩ := hal
  have hmB : ∀ b, b ≤ w.heap.size → ¬ mdV bs rs w4 b := by
    rintro b hb (h | ⟨i, hi, h⟩)
    · omega
    · have := (hF.rne i (by omega)).2.2; omega
  have hmo : ¬ mdV bs rs w4 bo := by
    rintro (h | ⟨i, hi, h⟩)
    · exact hs3.2.2 h.symm
    · exact (hF.rne i (by omega)).2.1 h
  have hmZ : ¬ mdV bs rs w4 gZ := by
    rintro (h | ⟨i, hi, h⟩)
    · exact hs3.2.1 h.symm
    · exact (hF.rne i (by omega)).1 h
  refine (i_pieces (mdV bs rs) (fun vis w' => Below w.heap.size w w' ∧ VT w.heap.size w' gO l.length rs l.length nx.length (viB (gSm nx l) l.length nx.length sa vis).1 ∧ w'.cell? ⟨bs, 0, none⟩ = some (.int .i64 (((viB (gSm nx l) l.length nx.length sa vis).2 : Nat) : Int)) ∧ w'.frozen? ⟨bs, 0, none⟩ = false ∧ bs < w'.heap.size)
    (fun vis => ∀ k ∈ vis, k < l.length) 76 #[.pointer (some ⟨bo, 0, none⟩), .pointer (some ⟨bs, 0, none⟩), .pointer (some ⟨w.heap.size, 0, none⟩)] eF_visits1 l 0 j w4 gl kl kg ag al hok hlv
    (fun k hk => ?_) (fun h0 => ?_) (fun k hk => ?_) (fun vis k w' hk hq hf ho => ?_) (fun vis w' cs T hT hq => ?_) (fun vis w' hq => ?_) (fun vis w' k hq hk => ?_) (fun a b h k hk => h k (by simp [hk])) ⟨hF.bel, hF.vt, hs, hfs, hs2⟩ (pcv_lt hok 0 j)).mono ?_
  · obtain rfl := hlv (by omega)
    exact cell_later hF.bel (own_get hl (gOk_some hok).2.2.1 hk)
  · obtain rfl := hlv h0
    exact hmB _ (Nat.le_of_lt (hl.lt gl rfl).2)
  · obtain ⟨b, off, e, hb, d0, d1, d2⟩ := inRu_at hg hk
    exact ⟨b, off, e, hmB _ (Nat.le_of_lt hb), cell_later hF.bel d0, cell_later hF.bel d1, cell_later hF.bel d2⟩
  · obtain ⟨q1, q2, q3, q4, q5⟩ := hq
    have hbd := viB_bd hn hok hsa vis (fun k hk => ho k (by simp [hk]))
    have hmb := smT_bd (nx := nx) hn hok l.length k (viB (gSm nx l) l.length nx.length sa vis).2 hk (Nat.le_refl _) hbd
    refine (i_visits1 vm (gSm nx l) _ gO l.length l.length nx.length bo bs w.heap.size k _ rs w w' q1 q2 (hf.cell hF.ob hmo) q3 q4 (hf.cell hF.cs.2.2.2.2.2.2 (hmB _ (Nat.le_refl _))) hM (smT_len nx l l.length) (smT_row nx l hk) hk hbd hmb.1 (by omega) hs3.1 hs4 hs3.2.2.symm (fun i hi => (hF.rne i hi).2.1) (by omega) (fun i hi => by have := (hF.rne i hi).2.2; omega)).mono ?_
    rintro e w6 ⟨rfl, g1, g2, g3, g4, g5⟩
    refine ⟨rfl, ⟨g1, ?_, ?_, g4, by have := g5.size; omega⟩, g5⟩
    · rw [viB_snoc]; exact g2
    · rw [viB_snoc]; exact g3
  · obtain ⟨q1, q2, q3, q4, q5⟩ := hq
    have hb := (Below.refl w'.heap.size w').alloc (Nat.le_refl _) (.cells cs T)
    exact ⟨⟨q1.alloc q1.size _, q2.alloc _, cell_later hb q3, by rw [hb.frozen (p := ⟨bs, 0, none⟩) q5]; exact q4, by simp; omega⟩, fun k h => h⟩
  · obtain ⟨q1, q2, q3, q4, q5⟩ := hq
    exact ⟨⟨q1.drew, q2.drew, q3, q4, q5⟩, fun k h => h⟩
  · obtain ⟨q1, q2, q3, q4, q5⟩ := hq
    rcases hk with rfl | ⟨i, hi, rfl⟩
    · exact q5
    · exact (q2.lt (by omega)).2
  · rintro e w5 ⟨rfl, ⟨q1, q2, q3, q4, q5⟩, hf⟩
    have g := fr_gp hf
    have hx : ∀ b, ¬ mdV bs rs w4 b → ¬ (fun k => k = bs ∨ ∃ i, i < rs.length ∧ rs.getD i 0 = k) b := fun b h => h
    exact ⟨rfl, q1, rd7_gp hF.cs g (hx _ (hmB _ (Nat.le_refl _))), g.cell hF.ob (hx _ hmo), q2, owns_gp hF.z g (fun b hb => by injection hb with hb; subst hb; exact hx _ hmZ), hF.ol, hF.ne, hF.rne⟩
end Go.Proofs.Ytimfbnjgodbgoaa

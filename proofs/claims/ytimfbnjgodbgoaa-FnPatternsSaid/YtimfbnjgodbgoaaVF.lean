/- How often states are met: the program's walk. -/
import Derived.Test.YtimfbnjgodbgoaaY5
import Derived.Deep.OwnRows
namespace Go.Proofs.Ytimfbnjgodbgoaa
open Go.ChangeShapes Go.WideShapes Go.RowKit
set_option linter.unusedVariables false
set_option linter.unusedSimpArgs false
set_option maxHeartbeats 2000000
set_option maxRecDepth 100000
/-- the boxes, the table and the list that 'visits' makes first -/
structure viF (B R m : Nat) (c0 c1 c2 c3 c4 c5 c6 : Value) (w0 : World) (gO gZ bo : Nat) (w : World) : Prop where
  bel : Below B w0 w
  r0 : w.cell? ⟨B, 0, none⟩ = some c0
  r1 : w.cell? ⟨B, 1, none⟩ = some c1
  r2 : w.cell? ⟨B, 2, none⟩ = some c2
  r3 : w.cell? ⟨B, 3, none⟩ = some c3
  r4 : w.cell? ⟨B, 4, none⟩ = some c4
  r5 : w.cell? ⟨B, 5, none⟩ = some c5
  r6 : w.cell? ⟨B, 6, none⟩ = some c6
  ob : w.cell? ⟨bo, 0, none⟩ = some (.slice (some ⟨gO, 0, none⟩) R R)
  ou : w.ownsRow B 28 1 (.slice (some ⟨gO, 0, none⟩) R R) R (List.replicate R (.slice none 0 0))
  z : w.ownsRow B 2 1 (.slice (some ⟨gZ, 0, none⟩) m m) m ((zR m).map (Value.int .i64))
  ne : gO ≠ gZ ∧ gO ≠ bo ∧ gZ ≠ bo ∧ B ≠ gO ∧ B ≠ gZ ∧ B ≠ bo ∧ B < bo ∧ gO < w.heap.size ∧ gZ < w.heap.size ∧ bo < w.heap.size ∧ B < gO ∧ B < gZ
theorem own_made2 {w : World} {base g : Nat} (hg : g = w.heap.size) (h : base ≤ w.heap.size) {n : Nat} (hn : n ≤ 1048576) : (w.alloc (.cells (madeCells #[.int .i64 0] n) 2)).ownsRow base 2 1 (.slice (some ⟨g, 0, none⟩) n n) n ((zR n).map (Value.int .i64)) := by subst hg; exact own_made h hn
theorem own_madeT2 {w : World} {base g : Nat} (hg : g = w.heap.size) (h : base ≤ w.heap.size) {n : Nat} (hn : n ≤ 1048576) : (w.alloc (.cells (madeCells #[.slice none 0 0] n) 28)).ownsRow base 28 1 (.slice (some ⟨g, 0, none⟩) n n) n (List.replicate n (.slice none 0 0)) := by subst hg; exact own_madeT h hn
theorem bl_put {w Y : World} {b j : Nat} {v : Value} (h : Below w.heap.size w Y) (hb : w.heap.size ≤ b) : Below w.heap.size w (Y.setCell ⟨b, j, none⟩ v) := h.setCell (p := ⟨b, j, none⟩) hb v
theorem cell_put {w : World} {a : Addr} {v : Value} (h : ∃ u, w.cell? a = some u) : (w.setCell a v).cell? a = some v := by
  obtain ⟨u, hu⟩ := h
  exact cell_st_same v hu
theorem vis_mk {B R m gO gZ bo : Nat} {c0 c1 c2 c3 c4 c5 c6 : Value} {w0 w : World} (bel : Below B w0 w)
    (hr : w.cell? ⟨B, 0, none⟩ = some c0 ∧ w.cell? ⟨B, 1, none⟩ = some c1 ∧ w.cell? ⟨B, 2, none⟩ = some c2 ∧ w.cell? ⟨B, 3, none⟩ = some c3 ∧ w.cell? ⟨B, 4, none⟩ = some c4 ∧ w.cell? ⟨B, 5, none⟩ = some c5 ∧ w.cell? ⟨B, 6, none⟩ = some c6)
    (ob : w.cell? ⟨bo, 0, none⟩ = some (.slice (some ⟨gO, 0, none⟩) R R)) (ou : w.ownsRow B 28 1 (.slice (some ⟨gO, 0, none⟩) R R) R (List.replicate R (.slice none 0 0)))
    (z : w.ownsRow B 2 1 (.slice (some ⟨gZ, 0, none⟩) m m) m ((zR m).map (Value.int .i64))) (ne : gO ≠ gZ ∧ gO ≠ bo ∧ gZ ≠ bo) (lo : B < gO ∧ B < gZ ∧ B < bo) (hi : gO < w.heap.size ∧ gZ < w.heap.size ∧ bo < w.heap.size) :
    viF B R m c0 c1 c2 c3 c4 c5 c6 w0 gO gZ bo w := by
  obtain ⟨h0, h1, h2, h3, h4, h5, h6⟩ := hr
  exact ⟨bel, h0, h1, h2, h3, h4, h5, h6, ob, ou, z, by omega⟩
theorem i_visits (u1 u2 vg vl vm : Value) (a : Au) (l : List Ru) (j : Int) (B0 : Nat) (w : World) (hok : gOk l = true) (ha : auOk a = true) (hu1 : InI w u1 a.fi) (hu2 : InT w u2 a.nx) (hg : InRu w vg l) (hl : w.ownsRow B0 2 1 vl l.length ((gLn l).map (Value.int .i64))) (hm : InT w vm (gSm a.nx l)) :
    Calls Try.prog 71 #[.agg #[.int .i64 a.st, .int .i64 a.sa, u1, u2, vg, vl, vm], .int .i64 j] w fun e w' => ∃ v', e = .returned v' ∧ w'.ownsRow w.heap.size 2 1 v' a.nx.length ((viV a l j).map (Value.int .i64)) ∧ Below w.heap.size w w' := by
  obtain ⟨a1, k1, rfl⟩ := inI_sl hu1
  obtain ⟨a2, k2, rfl⟩ := inT_sl hu2
  obtain ⟨ag, kg, rfl⟩ := inRu_sl hg
  obtain ⟨al, kl, rfl, hal, -⟩ := owns_sl3 hl
  obtain ⟨am, km, rfl⟩ := inT_sl hm
  obtain ⟨f1, f2, f3, f4, f5⟩ := auOk_facts ha
  have hl400 := (gOk_some hok).1
  have hml : a.nx.length ≤ 24 := by omega
  rw [← f4]
  have hmk1 := fun w => run_make_row' (P := Try.prog) 28 2 (.int .i64 0) 8 Try.underlying28 info_i64 rfl .i64 .i64 a.nx.length (by omega) (by omega) w
  have hmk2 := fun w => run_make_row' (P := Try.prog) 41 28 (.slice none 0 0) 24 Try.underlying41 info_row rfl .i64 .i64 l.length (by omega) (by omega) w
  have HG := Lib.hid hg
  have HL := Lib.hid hl
  have HM := Lib.hid hm
  have HOK := Lib.hid hok
  have HA := Lib.hid ha
  have HF5 := Lib.hid f5
  have HF4 := Lib.hid f4
  have HF2 := Lib.hid f2
  clear hu1 hu2 hg hl hm hok ha f5 f3 f4 f2 f1
  go_enter Try.func71, Try.ntmps71
  go_wp2
  apply share3 (viF w.heap.size l.length a.nx.length (.int .i64 (a.nx.length : Int)) (.int .i64 a.sa) (.slice a1 a.fi.length k1) (.slice a2 a.nx.length k2) (.slice ag l.length kg) (.slice al l.length kl) (.slice am (gSm a.nx l).length km) w)
  · intro REST0
    have REST := Lib.hid REST0
    clear REST0
    go_region_held3 (fun w' => w'.cell? ⟨w.heap.size, 0, none⟩ = some (.int .i64 (a.nx.length : Int)) ∧ w'.cell? ⟨w.heap.size, 4, none⟩ = some (.slice ag l.length kg)) (first | go_keep | (go_split_ands; refine ⟨?_, ?_⟩ <;> simp [go_sem])) (fail)
    all_goals first
      | (refine gen_then (fun w1 => viF w.heap.size l.length a.nx.length (.int .i64 (a.nx.length : Int)) (.int .i64 a.sa) (.slice a1 a.fi.length k1) (.slice a2 a.nx.length k2) (.slice ag l.length kg) (.slice al l.length kl) (.slice am (gSm a.nx l).length km) w (w.heap.size + 1) (w.heap.size + 1 + 1) (w.heap.size + 1 + 1 + 1) w1) (vis_mk (B := w.heap.size) (gO := w.heap.size + 1) (gZ := w.heap.size + 1 + 1) (bo := w.heap.size + 1 + 1 + 1) (by (repeat (first | exact Below.refl _ _ | apply Below.drew | apply bl_alloc | (refine bl_put ?_ (by omega)))); done) ⟨by (repeat (first | rw [cell_st_ne _ (by show _ ≠ _; omega)] | rw [World.cell?_drew])); simp [go_sem]; done, by (repeat (first | rw [cell_st_ne _ (by show _ ≠ _; omega)] | rw [World.cell?_drew])); simp [go_sem]; done, by (repeat (first | rw [cell_st_ne _ (by show _ ≠ _; omega)] | rw [World.cell?_drew])); simp [go_sem]; done, by (repeat (first | rw [cell_st_ne _ (by show _ ≠ _; omega)] | rw [World.cell?_drew])); simp [go_sem]; done, by (repeat (first | rw [cell_st_ne _ (by show _ ≠ _; omega)] | rw [World.cell?_drew])); simp [go_sem]; done, by (repeat (first | rw [cell_st_ne _ (by show _ ≠ _; omega)] | rw [World.cell?_drew])); simp [go_sem]; done, by (repeat (first | rw [cell_st_ne _ (by show _ ≠ _; omega)] | rw [World.cell?_drew])); simp [go_sem]; done⟩ (by first | (apply cell_put; simp [go_sem]; done) | (simp [go_sem]; done)) (by (repeat (first | with_reducible exact own_madeT2 (by simp; done) (by simp; try omega) (by omega) | with_reducible apply ownsRow_drew | with_reducible apply World.ownsRow.alloc | (with_reducible refine own_far ?_ (by omega) _ _))); done) (by (repeat (first | with_reducible exact own_made2 (by simp; done) (by simp; try omega) (by omega) | with_reducible apply ownsRow_drew | with_reducible apply World.ownsRow.alloc | (with_reducible refine own_far ?_ (by omega) _ _))); done) (by omega) (by omega) (by simp)) ?_; intro w1 hF; generalize w.heap.size + 1 + 1 + 1 = x3 at hF ⊢; generalize w.heap.size + 1 + 1 = x2 at hF ⊢; generalize w.heap.size + 1 = x1 at hF ⊢; exact REST.out x1 x2 x3 w1 hF)
      | (refine gen_then (fun w1 => viF w.heap.size l.length a.nx.length (.int .i64 (a.nx.length : Int)) (.int .i64 a.sa) (.slice a1 a.fi.length k1) (.slice a2 a.nx.length k2) (.slice ag l.length kg) (.slice al l.length kl) (.slice am (gSm a.nx l).length km) w (w.heap.size + 1) (w.heap.size + 1 + 1 + 1) (w.heap.size + 1 + 1) w1) (vis_mk (B := w.heap.size) (gO := w.heap.size + 1) (gZ := w.heap.size + 1 + 1 + 1) (bo := w.heap.size + 1 + 1) (by (repeat (first | exact Below.refl _ _ | apply Below.drew | apply bl_alloc | (refine bl_put ?_ (by omega)))); done) ⟨by (repeat (first | rw [cell_st_ne _ (by show _ ≠ _; omega)] | rw [World.cell?_drew])); simp [go_sem]; done, by (repeat (first | rw [cell_st_ne _ (by show _ ≠ _; omega)] | rw [World.cell?_drew])); simp [go_sem]; done, by (repeat (first | rw [cell_st_ne _ (by show _ ≠ _; omega)] | rw [World.cell?_drew])); simp [go_sem]; done, by (repeat (first | rw [cell_st_ne _ (by show _ ≠ _; omega)] | rw [World.cell?_drew])); simp [go_sem]; done, by (repeat (first | rw [cell_st_ne _ (by show _ ≠ _; omega)] | rw [World.cell?_drew])); simp [go_sem]; done, by (repeat (first | rw [cell_st_ne _ (by show _ ≠ _; omega)] | rw [World.cell?_drew])); simp [go_sem]; done, by (repeat (first | rw [cell_st_ne _ (by show _ ≠ _; omega)] | rw [World.cell?_drew])); simp [go_sem]; done⟩ (by first | (apply cell_put; simp [go_sem]; done) | (simp [go_sem]; done)) (by (repeat (first | with_reducible exact own_madeT2 (by simp; done) (by simp; try omega) (by omega) | with_reducible apply ownsRow_drew | with_reducible apply World.ownsRow.alloc | (with_reducible refine own_far ?_ (by omega) _ _))); done) (by (repeat (first | with_reducible exact own_made2 (by simp; done) (by simp; try omega) (by omega) | with_reducible apply ownsRow_drew | with_reducible apply World.ownsRow.alloc | (with_reducible refine own_far ?_ (by omega) _ _))); done) (by omega) (by omega) (by simp)) ?_; intro w1 hF; generalize w.heap.size + 1 + 1 + 1 = x3 at hF ⊢; generalize w.heap.size + 1 + 1 = x2 at hF ⊢; generalize w.heap.size + 1 = x1 at hF ⊢; exact REST.out x1 x3 x2 w1 hF)
      | (refine gen_then (fun w1 => viF w.heap.size l.length a.nx.length (.int .i64 (a.nx.length : Int)) (.int .i64 a.sa) (.slice a1 a.fi.length k1) (.slice a2 a.nx.length k2) (.slice ag l.length kg) (.slice al l.length kl) (.slice am (gSm a.nx l).length km) w (w.heap.size + 1 + 1) (w.heap.size + 1) (w.heap.size + 1 + 1 + 1) w1) (vis_mk (B := w.heap.size) (gO := w.heap.size + 1 + 1) (gZ := w.heap.size + 1) (bo := w.heap.size + 1 + 1 + 1) (by (repeat (first | exact Below.refl _ _ | apply Below.drew | apply bl_alloc | (refine bl_put ?_ (by omega)))); done) ⟨by (repeat (first | rw [cell_st_ne _ (by show _ ≠ _; omega)] | rw [World.cell?_drew])); simp [go_sem]; done, by (repeat (first | rw [cell_st_ne _ (by show _ ≠ _; omega)] | rw [World.cell?_drew])); simp [go_sem]; done, by (repeat (first | rw [cell_st_ne _ (by show _ ≠ _; omega)] | rw [World.cell?_drew])); simp [go_sem]; done, by (repeat (first | rw [cell_st_ne _ (by show _ ≠ _; omega)] | rw [World.cell?_drew])); simp [go_sem]; done, by (repeat (first | rw [cell_st_ne _ (by show _ ≠ _; omega)] | rw [World.cell?_drew])); simp [go_sem]; done, by (repeat (first | rw [cell_st_ne _ (by show _ ≠ _; omega)] | rw [World.cell?_drew])); simp [go_sem]; done, by (repeat (first | rw [cell_st_ne _ (by show _ ≠ _; omega)] | rw [World.cell?_drew])); simp [go_sem]; done⟩ (by first | (apply cell_put; simp [go_sem]; done) | (simp [go_sem]; done)) (by (repeat (first | with_reducible exact own_madeT2 (by simp; done) (by simp; try omega) (by omega) | with_reducible apply ownsRow_drew | with_reducible apply World.ownsRow.alloc | (with_reducible refine own_far ?_ (by omega) _ _))); done) (by (repeat (first | with_reducible exact own_made2 (by simp; done) (by simp; try omega) (by omega) | with_reducible apply ownsRow_drew | with_reducible apply World.ownsRow.alloc | (with_reducible refine own_far ?_ (by omega) _ _))); done) (by omega) (by omega) (by simp)) ?_; intro w1 hF; generalize w.heap.size + 1 + 1 + 1 = x3 at hF ⊢; generalize w.heap.size + 1 + 1 = x2 at hF ⊢; generalize w.heap.size + 1 = x1 at hF ⊢; exact REST.out x2 x1 x3 w1 hF)
      | (refine gen_then (fun w1 => viF w.heap.size l.length a.nx.length (.int .i64 (a.nx.length : Int)) (.int .i64 a.sa) (.slice a1 a.fi.length k1) (.slice a2 a.nx.length k2) (.slice ag l.length kg) (.slice al l.length kl) (.slice am (gSm a.nx l).length km) w (w.heap.size + 1 + 1) (w.heap.size + 1 + 1 + 1) (w.heap.size + 1) w1) (vis_mk (B := w.heap.size) (gO := w.heap.size + 1 + 1) (gZ := w.heap.size + 1 + 1 + 1) (bo := w.heap.size + 1) (by (repeat (first | exact Below.refl _ _ | apply Below.drew | apply bl_alloc | (refine bl_put ?_ (by omega)))); done) ⟨by (repeat (first | rw [cell_st_ne _ (by show _ ≠ _; omega)] | rw [World.cell?_drew])); simp [go_sem]; done, by (repeat (first | rw [cell_st_ne _ (by show _ ≠ _; omega)] | rw [World.cell?_drew])); simp [go_sem]; done, by (repeat (first | rw [cell_st_ne _ (by show _ ≠ _; omega)] | rw [World.cell?_drew])); simp [go_sem]; done, by (repeat (first | rw [cell_st_ne _ (by show _ ≠ _; omega)] | rw [World.cell?_drew])); simp [go_sem]; done, by (repeat (first | rw [cell_st_ne _ (by show _ ≠ _; omega)] | rw [World.cell?_drew])); simp [go_sem]; done, by (repeat (first | rw [cell_st_ne _ (by show _ ≠ _; omega)] | rw [World.cell?_drew])); simp [go_sem]; done, by (repeat (first | rw [cell_st_ne _ (by show _ ≠ _; omega)] | rw [World.cell?_drew])); simp [go_sem]; done⟩ (by first | (apply cell_put; simp [go_sem]; done) | (simp [go_sem]; done)) (by (repeat (first | with_reducible exact own_madeT2 (by simp; done) (by simp; try omega) (by omega) | with_reducible apply ownsRow_drew | with_reducible apply World.ownsRow.alloc | (with_reducible refine own_far ?_ (by omega) _ _))); done) (by (repeat (first | with_reducible exact own_made2 (by simp; done) (by simp; try omega) (by omega) | with_reducible apply ownsRow_drew | with_reducible apply World.ownsRow.alloc | (with_reducible refine own_far ?_ (by omega) _ _))); done) (by omega) (by omega) (by simp)) ?_; intro w1 hF; generalize w.heap.size + 1 + 1 + 1 = x3 at hF ⊢; generalize w.heap.size + 1 + 1 = x2 at hF ⊢; generalize w.heap.size + 1 = x1 at hF ⊢; exact REST.out x2 x3 x1 w1 hF)
      | (refine gen_then (fun w1 => viF w.heap.size l.length a.nx.length (.int .i64 (a.nx.length : Int)) (.int .i64 a.sa) (.slice a1 a.fi.length k1) (.slice a2 a.nx.length k2) (.slice ag l.length kg) (.slice al l.length kl) (.slice am (gSm a.nx l).length km) w (w.heap.size + 1 + 1 + 1) (w.heap.size + 1) (w.heap.size + 1 + 1) w1) (vis_mk (B := w.heap.size) (gO := w.heap.size + 1 + 1 + 1) (gZ := w.heap.size + 1) (bo := w.heap.size + 1 + 1) (by (repeat (first | exact Below.refl _ _ | apply Below.drew | apply bl_alloc | (refine bl_put ?_ (by omega)))); done) ⟨by (repeat (first | rw [cell_st_ne _ (by show _ ≠ _; omega)] | rw [World.cell?_drew])); simp [go_sem]; done, by (repeat (first | rw [cell_st_ne _ (by show _ ≠ _; omega)] | rw [World.cell?_drew])); simp [go_sem]; done, by (repeat (first | rw [cell_st_ne _ (by show _ ≠ _; omega)] | rw [World.cell?_drew])); simp [go_sem]; done, by (repeat (first | rw [cell_st_ne _ (by show _ ≠ _; omega)] | rw [World.cell?_drew])); simp [go_sem]; done, by (repeat (first | rw [cell_st_ne _ (by show _ ≠ _; omega)] | rw [World.cell?_drew])); simp [go_sem]; done, by (repeat (first | rw [cell_st_ne _ (by show _ ≠ _; omega)] | rw [World.cell?_drew])); simp [go_sem]; done, by (repeat (first | rw [cell_st_ne _ (by show _ ≠ _; omega)] | rw [World.cell?_drew])); simp [go_sem]; done⟩ (by first | (apply cell_put; simp [go_sem]; done) | (simp [go_sem]; done)) (by (repeat (first | with_reducible exact own_madeT2 (by simp; done) (by simp; try omega) (by omega) | with_reducible apply ownsRow_drew | with_reducible apply World.ownsRow.alloc | (with_reducible refine own_far ?_ (by omega) _ _))); done) (by (repeat (first | with_reducible exact own_made2 (by simp; done) (by simp; try omega) (by omega) | with_reducible apply ownsRow_drew | with_reducible apply World.ownsRow.alloc | (with_reducible refine own_far ?_ (by omega) _ _))); done) (by omega) (by omega) (by simp)) ?_; intro w1 hF; generalize w.heap.size + 1 + 1 + 1 = x3 at hF ⊢; generalize w.heap.size + 1 + 1 = x2 at hF ⊢; generalize w.heap.size + 1 = x1 at hF ⊢; exact REST.out x3 x1 x2 w1 hF)
      | (refine gen_then (fun w1 => viF w.heap.size l.length a.nx.length (.int .i64 (a.nx.length : Int)) (.int .i64 a.sa) (.slice a1 a.fi.length k1) (.slice a2 a.nx.length k2) (.slice ag l.length kg) (.slice al l.length kl) (.slice am (gSm a.nx l).length km) w (w.heap.size + 1 + 1 + 1) (w.heap.size + 1 + 1) (w.heap.size + 1) w1) (vis_mk (B := w.heap.size) (gO := w.heap.size + 1 + 1 + 1) (gZ := w.heap.size + 1 + 1) (bo := w.heap.size + 1) (by (repeat (first | exact Below.refl _ _ | apply Below.drew | apply bl_alloc | (refine bl_put ?_ (by omega)))); done) ⟨by (repeat (first | rw [cell_st_ne _ (by show _ ≠ _; omega)] | rw [World.cell?_drew])); simp [go_sem]; done, by (repeat (first | rw [cell_st_ne _ (by show _ ≠ _; omega)] | rw [World.cell?_drew])); simp [go_sem]; done, by (repeat (first | rw [cell_st_ne _ (by show _ ≠ _; omega)] | rw [World.cell?_drew])); simp [go_sem]; done, by (repeat (first | rw [cell_st_ne _ (by show _ ≠ _; omega)] | rw [World.cell?_drew])); simp [go_sem]; done, by (repeat (first | rw [cell_st_ne _ (by show _ ≠ _; omega)] | rw [World.cell?_drew])); simp [go_sem]; done, by (repeat (first | rw [cell_st_ne _ (by show _ ≠ _; omega)] | rw [World.cell?_drew])); simp [go_sem]; done, by (repeat (first | rw [cell_st_ne _ (by show _ ≠ _; omega)] | rw [World.cell?_drew])); simp [go_sem]; done⟩ (by first | (apply cell_put; simp [go_sem]; done) | (simp [go_sem]; done)) (by (repeat (first | with_reducible exact own_madeT2 (by simp; done) (by simp; try omega) (by omega) | with_reducible apply ownsRow_drew | with_reducible apply World.ownsRow.alloc | (with_reducible refine own_far ?_ (by omega) _ _))); done) (by (repeat (first | with_reducible exact own_made2 (by simp; done) (by simp; try omega) (by omega) | with_reducible apply ownsRow_drew | with_reducible apply World.ownsRow.alloc | (with_reducible refine own_far ?_ (by omega) _ _))); done) (by omega) (by omega) (by simp)) ?_; intro w1 hF; generalize w.heap.size + 1 + 1 + 1 = x3 at hF ⊢; generalize w.heap.size + 1 + 1 = x2 at hF ⊢; generalize w.heap.size + 1 = x1 at hF ⊢; exact REST.out x3 x2 x1 w1 hF)
      | fail "no order"
  · intro gO gZ bo w1 hF
    obtain ⟨n1, n2, n3, n4, n5, n6, n7, n8, n9, n10, n11, n12⟩ := hF.ne
    have HL0 : Hid (viL w.heap.size l.length a.nx.length (.int .i64 (a.nx.length : Int)) (.int .i64 a.sa) (.slice a1 a.fi.length k1) (.slice a2 a.nx.length k2) (.slice ag l.length kg) (.slice al l.length kl) (.slice am (gSm a.nx l).length km) w gO gZ bo w1.heap.size [] w1) :=
      ⟨hF.bel, ⟨hF.r0, hF.r1, hF.r2, hF.r3, hF.r4, hF.r5, hF.r6⟩, hF.ob, ⟨by simpa [vsV] using hF.ou, fun k hk => absurd hk (by simp), fun i j hij hj => absurd hj (by simp), by simp; omega⟩, hF.z, by omega⟩
    have ob := hF.ob
    clear hF
    go_wp2
    go_loopw [7, 24] (fun _ i wr => ∃ rs : List Nat, rs.length ≤ l.length ∧ i = .int .i64 (rs.length : Int) ∧ viL w.heap.size l.length a.nx.length (.int .i64 (a.nx.length : Int)) (.int .i64 a.sa) (.slice a1 a.fi.length k1) (.slice a2 a.nx.length k2) (.slice ag l.length kg) (.slice al l.length kl) (.slice am (gSm a.nx l).length km) w gO gZ bo w1.heap.size rs wr) (fun _ i _ => l.length - (intOf i).toNat)
    case atStart => exact ⟨[], by simp, rfl, HL0.out⟩
    case round =>
      clear ob HL0
      obtain ⟨rs, hk, rfl, hL⟩ := hrel
      by_cases hlt : rs.length < l.length
      · have hin : ((rs.length : Nat) : Int) < l.length := by omega
        have HLS := Lib.hid (hL.step hlt (show a.nx.length ≤ 1048576 by omega))
        have e0 := hL.ob
        have e1 := hL.cs.1
        have e2 := hL.tb.out.cellAt rs.length (by simp [vsV]; omega)
        have e3 : wr.frozen? ⟨gO, rs.length, none⟩ = false := hL.tb.out.frozenAt rs.length
        have e2' : wr.cell? ⟨gO, rs.length, none⟩ = some (.slice none 0 0) := by
          rw [e2, List.getElem?_append_right (by simp [vsV]), List.getElem?_replicate, if_pos (by simp [vsV]; omega)]
        have q0 : ∀ o, (wr.alloc o).cell? ⟨bo, 0, none⟩ = _ := fun o => cell_later ((Below.refl _ _).alloc (Nat.le_refl _) o) e0
        have q1 : ∀ o, (wr.alloc o).cell? ⟨w.heap.size, 0, none⟩ = _ := fun o => cell_later ((Below.refl _ _).alloc (Nat.le_refl _) o) e1
        have q2 : ∀ o, (wr.alloc o).cell? ⟨gO, rs.length, none⟩ = _ := fun o => cell_later ((Below.refl _ _).alloc (Nat.le_refl _) o) e2'
        have q3 : ∀ o, (wr.alloc o).frozen? ⟨gO, rs.length, none⟩ = false := fun o => by rw [((Below.refl wr.heap.size wr).alloc (Nat.le_refl _) o).frozen (p := ⟨gO, rs.length, none⟩) (by have := hL.ne; show gO < _; omega)]; exact e3
        clear e2 hL hk hlt
        go_wp2
        go_region
        go_wp2
        go_roundw
        case rel => exact ⟨rs ++ [wr.heap.size], by simp; omega, by simp, HLS.out.drew⟩
        case measure => first | (simp [intOf]; done) | (simp [intOf]; omega)
      · have hrl : rs.length = l.length := by omega
        have HV := Lib.hid (hL.fin hrl)
        have HNE := Lib.hid hL.ne
        have e0 := hL.ob
        have e1 := hL.cs.2.1
        clear hL
        have hnl : ¬ ((rs.length : Int) < l.length) := by omega
        obtain ⟨wq, rfl⟩ : ∃ wq, wq = wr := ⟨_, rfl⟩
        obtain ⟨sa, hsa⟩ := Int.eq_ofNat_of_zero_le HF2.out.1
        have hsm : sa < a.nx.length := by have := HF4.out; have := HF2.out.2; omega
        have q4 : ∀ o, (wq.alloc o).cell? ⟨w.heap.size, 4, none⟩ = _ := fun o => cell_later ((Below.refl _ _).alloc (Nat.le_refl _) o) HV.out.cs.2.2.2.2.1
        have q5 : ∀ o, (wq.alloc o).cell? ⟨w.heap.size, 5, none⟩ = _ := fun o => cell_later ((Below.refl _ _).alloc (Nat.le_refl _) o) HV.out.cs.2.2.2.2.2.1
        have hmf : ∀ (fn : Fn) (first cap : Array Value) (w : World), (Instr.makeFunc fn first cap).run Try.prog w = .ok (.func fn first cap) w := fun _ _ _ _ => rfl
        go_wp2_with fail
        have hn : nxP a.nx := by intro s hs; rw [HF4.out]; exact HF5.out s hs
        have hlt9 := HV.out.vt.glt
        have hltz : gZ < wq.heap.size := (HV.out.z.lt _ rfl).2
        have hltb : bo < wq.heap.size := World.block_lt_of_cell? _ _ HV.out.ob
        refine (vis_pieces HOK.out hn rfl hsm HG.out HL.out HM.out (HV.out.after ((Below.refl _ _).alloc (Nat.le_refl _) _)) (by simp [go_sem]) (by simp [go_sem]) (by omega) (by simp) (by omega) (fun k hk => Nat.ne_of_lt (HV.out.vt.lt hk).2)).mono ?_
        rintro e w5 ⟨rfl, hV5⟩
        have HRES : Hid ((viG l (gSm a.nx l) a.nx.length l.length ((viB (gSm a.nx l) l.length a.nx.length sa (pcv l 0 j)).1, zR a.nx.length)).2 = viV a l j) := by
          show _ = _
          unfold viV
          rw [hsa]
          rfl
        have HLEN : Hid ((viV a l j).length = a.nx.length) := viV_len a l j
        have HRUL := Lib.hid (fun k hk => @gOk_rule l HOK.out k hk)
        have HMB : Hid (∀ p s, p < l.length → s < a.nx.length → 0 ≤ (tA (gSm a.nx l) p).getD s 0 ∧ (tA (gSm a.nx l) p).getD s 0 < a.nx.length) := fun p s hp hs => smT_bd hn HOK.out l.length p s hp (Nat.le_refl _) hs
        have HMR : Hid (∀ p, p < l.length → (tA (gSm a.nx l) p).length = a.nx.length) := fun p hp => smT_row a.nx l hp
        have HML : Hid ((gSm a.nx l).length = l.length) := smT_len a.nx l l.length
        generalize (viB (gSm a.nx l) l.length a.nx.length sa (pcv l 0 j)).1 = T0 at *
        have HV5 := Lib.hid hV5
        have e5 := hV5.ob
        clear hV5 q4 q5 hn hlt9 hltz hltb HV e0 e1 HOK HF5
        go_wp2
        go_loopw [9, 10, 11, 12, 63] (fun ix _ _ _ _ wr => ∃ (k : Nat) (x : Int) (T : Tb) (o : List Int), k ≤ l.length ∧ ix = .int .i64 x ∧ x = (k : Int) - 1 ∧ vsF w.heap.size l.length a.nx.length (.int .i64 (a.nx.length : Int)) (.int .i64 a.sa) (.slice a1 a.fi.length k1) (.slice a2 a.nx.length k2) (.slice ag l.length kg) (.slice al l.length kl) (.slice am (gSm a.nx l).length km) w gO gZ bo rs T o wr ∧ viG l (gSm a.nx l) a.nx.length k (T, o) = viG l (gSm a.nx l) a.nx.length l.length (T0, zR a.nx.length)) (fun ix _ _ _ _ _ => (intOf ix + 1).toNat)
        case atStart => exact ⟨l.length, _, T0, zR a.nx.length, Nat.le_refl _, rfl, by go_num, HV5.out, rfl⟩
        case round =>
          obtain ⟨k, x, T, o, hk, rfl, hx, hV, hG⟩ := hrel
          by_cases hlt : 0 < k
          · obtain ⟨i, rfl⟩ : ∃ i, k = i + 1 := ⟨k - 1, by omega⟩
            obtain rfl : x = (i : Int) := by omega
            have hil : i < l.length := by omega
            have hin : (i : Int) < l.length := by omega
            have hge : (0 : Int) ≤ (i : Int) := by omega
            obtain ⟨b, off, hag, hbl, hc0, hc1, hc2⟩ := inRu_at (inRu_from HG.out (Nat.le_refl _) hV.bel) hil
            subst hag
            have HGV : Hid (viG l (gSm a.nx l) a.nx.length i (viR l (gSm a.nx l) i a.nx.length (T, o)) = viG l (gSm a.nx l) a.nx.length l.length (T0, zR a.nx.length)) := hG
            have HVO := Lib.hid hV
            have hRU := Lib.hid (HRUL.out i hil)
            have e4 := hV.cs.2.2.2.2.1
            have q0 : ∀ o, (wr.alloc o).cell? ⟨bo, 0, none⟩ = _ := fun o => cell_later ((Below.refl _ _).alloc (Nat.le_refl _) o) hV.ob
            have q1 : ∀ o, (wr.alloc o).cell? ⟨gO, i, none⟩ = _ := fun o => cell_later ((Below.refl _ _).alloc (Nat.le_refl _) o) (hV.vt.out hil)
            obtain ⟨ri, hri⟩ : ∃ r, r = rs.getD i 0 := ⟨_, rfl⟩
            rw [← hri] at q1
            have HRI := Lib.hid hri
            clear hV hG hx hlt hk e5 hri
            obtain ⟨wo, rfl⟩ : ∃ wo, wo = wr := ⟨_, rfl⟩
            generalize hx1 : (ruA l i).1 = x1 at *
            generalize hx2 : (ruA l i).2.1 = x2 at *
            generalize hx3 : (ruA l i).2.2 = x3 at *
            have HX : Hid ((ruA l i).1 = x1 ∧ (ruA l i).2.1 = x2 ∧ (ruA l i).2.2 = x3) := ⟨hx1, hx2, hx3⟩
            clear hx1 hx2 hx3
            go_wp2
            go_loopw [11, 12, 63] (fun _ _ c wr => ∃ s : Nat, s ≤ a.nx.length ∧ c = .int .i64 s ∧ Gp (vsQ gZ l.length rs) (wo.alloc (.cells #[.string x1, .int .i64 x2, .int .i64 x3] 34)) wr ∧ vsF w.heap.size l.length a.nx.length (.int .i64 (a.nx.length : Int)) (.int .i64 a.sa) (.slice a1 a.fi.length k1) (.slice a2 a.nx.length k2) (.slice (some ⟨b, off, none⟩) l.length kg) (.slice al l.length kl) (.slice am (gSm a.nx l).length km) w gO gZ bo rs (viR l (gSm a.nx l) i s (T, o)).1 (viR l (gSm a.nx l) i s (T, o)).2 wr) (fun _ _ c _ => a.nx.length - (intOf c).toNat)
            case atStart => exact ⟨0, by omega, rfl, Gp.refl _ _, HVO.out.after ((Below.refl _ _).alloc (Nat.le_refl _) _)⟩
            case round =>
              clear q0 q1 e4 hc0 hc1 hc2
              obtain ⟨s, hs, rfl, hgp, hV⟩ := hrel
              by_cases hls : s < a.nx.length
              · have hlsI : (s : Int) < a.nx.length := by omega
                have HV := Lib.hid hV
                have HGP := Lib.hid hgp
                have hgs : wo.heap.size + 1 ≤ wr.heap.size := by have := hgp.size; simpa using this
                have hrb : ¬ vsQ gZ l.length rs wo.heap.size := by
                  rintro (e | ⟨k, hk, e⟩)
                  · have h9 : gZ < wo.heap.size := (HVO.out.z.lt _ rfl).2
                    omega
                  · have := (HVO.out.vt.lt hk).2; omega
                have HRB := Lib.hid hrb
                have r0 : wr.cell? ⟨wo.heap.size, 0, none⟩ = some (.string x1) := hgp.cell (by simp [go_sem]) hrb
                have r1 : wr.cell? ⟨wo.heap.size, 1, none⟩ = some (.int .i64 x2) := hgp.cell (by simp [go_sem]) hrb
                have r2 : wr.cell? ⟨wo.heap.size, 2, none⟩ = some (.int .i64 x3) := hgp.cell (by simp [go_sem]) hrb
                have cis := (hV.vt.get hil hls).1
                rw [← HRI.out] at cis
                have HIS := Lib.hid (fun w => i_isPair x1 x2 x3 w)
                have HS1 : Hid (viR l (gSm a.nx l) i (s + 1) (T, o) = viS l (gSm a.nx l) i s ((tA (viR l (gSm a.nx l) i s (T, o)).1 i).getD s 0) (viR l (gSm a.nx l) i s (T, o))) := rfl
                generalize (tA (viR l (gSm a.nx l) i s (T, o)).1 i).getD s 0 = n at *
                generalize (viR l (gSm a.nx l) i s (T, o)) = P1 at *
                obtain ⟨T1, o1⟩ := P1
                simp only at HV HGP
                clear hV hgp hrb
                go_wp2_with fail
                refine (HIS.out _).mono ?_
                rintro e w2 ⟨rfl, hb2⟩
                have HV2 := Lib.hid (HV.out.after hb2)
                have HG2 := Lib.hid (HGP.out.trans (Gp.ofBelow hb2))
                have hgs2 : wo.heap.size + 1 ≤ w2.heap.size := by have := hb2.size; omega
                have r0 := cell_later hb2 r0
                have r1 := cell_later hb2 r1
                have r2 := cell_later hb2 r2
                clear hb2 cis HV HGP HIS
                by_cases hz : x1.size = 0
                · obtain ⟨q1, q2, q3, q4⟩ := hRU.out.1 hz
                  obtain ⟨p, rfl⟩ := Int.eq_ofNat_of_zero_le q1
                  obtain ⟨q, rfl⟩ := Int.eq_ofNat_of_zero_le q3
                  have hpl : p < l.length := by omega
                  have hql : q < l.length := by omega
                  have hpI : (p : Int) < l.length := by omega
                  have hqI : (q : Int) < l.length := by omega
                  have hpM : (p : Int) < (gSm a.nx l).length := by have := HML.out; omega
                  obtain ⟨t, ht⟩ := Int.eq_ofNat_of_zero_le (HMB.out p s hpl hls).1
                  have htm : t < a.nx.length := by have := (HMB.out p s hpl hls).2; omega
                  have htI : (t : Int) < a.nx.length := by omega
                  have HSP : Hid (viS l (gSm a.nx l) i s n (T1, o1) = (addT (addT T1 p s n) q t n, o1)) := viS_pair (by rw [HX.out.1]; exact hz) HX.out.2.1 HX.out.2.2 ht
                  obtain ⟨bm, om, rfl, hbml, hall⟩ := inT_all HM.out (by have := HML.out; omega)
                  obtain ⟨rp0, cp, hcp, hip⟩ := hall p (by have := HML.out; omega)
                  obtain ⟨gp, fp, rfl, hgpl, hvp⟩ := inI_at hip (show s < (tA (gSm a.nx l) p).length by rw [HMR.out p hpl]; exact hls)
                  rw [HMR.out p hpl] at hcp
                  rw [ht] at hvp
                  have HCP := Lib.hid hcp
                  have HVP := Lib.hid hvp
                  have f0 := HV2.out.ob
                  have f1 := HV2.out.vt.out hpl
                  obtain ⟨f2, f3⟩ := HV2.out.vt.get hpl hls
                  have HST := Lib.hid (HV2.out.row hpl hls n)
                  have HGT : Hid (∀ u, Gp (vsQ gZ l.length rs) (wo.alloc (.cells #[.string x1, .int .i64 p, .int .i64 q] 34)) (w2.setCell ⟨rs.getD p 0, s, none⟩ u)) := fun u => gp_row HG2.out hpl s u
                  rw [IntWalk.i64_left] at HST
                  obtain rfl := size_zero hz
                  clear q1 q2 q3 q4 ht hall hip hcp hvp hz HV2 HG2
                  obtain ⟨rp, hrp⟩ : ∃ r, r = rs.getD p 0 := ⟨_, rfl⟩
                  rw [← hrp] at f1 f2 f3 HST HGT
                  generalize (tA T1 p).getD s 0 = np at *
                  generalize addT T1 p s n = T2 at *
                  clear hrp
                  go_wp2
                  refine gen_world2 (fun w3 => vsF w.heap.size l.length a.nx.length (.int .i64 (a.nx.length : Int)) (.int .i64 a.sa) (.slice a1 a.fi.length k1) (.slice a2 a.nx.length k2) (.slice (some ⟨b, off, none⟩) l.length kg) (.slice al l.length kl) (.slice (some ⟨bm, om, none⟩) (gSm a.nx l).length km) w gO gZ bo rs T2 o1 w3 ∧ Gp (vsQ gZ l.length rs) (wo.alloc (.cells #[.string ⟨#[]⟩, .int .i64 p, .int .i64 q] 34)) w3) ⟨HST.out, HGT.out _⟩ ?_
                  clear f0 f1 f2 f3 HST HGT r0 r1 r2
                  rintro w3 ⟨hV3, hG3⟩
                  have r1 : w3.cell? ⟨wo.heap.size, 1, none⟩ = some (.int .i64 p) := hG3.cell (by simp [go_sem]) HRB.out
                  have r2 : w3.cell? ⟨wo.heap.size, 2, none⟩ = some (.int .i64 q) := hG3.cell (by simp [go_sem]) HRB.out
                  have f0 := hV3.ob
                  have f1 := hV3.vt.out hql
                  obtain ⟨f2, f3⟩ := hV3.vt.get hql htm
                  have f4 := hV3.cs.2.2.2.2.2.2
                  have f5 := cell_later hV3.bel HCP.out
                  have f6 := cell_later hV3.bel HVP.out
                  have HST := Lib.hid (hV3.row hql htm n)
                  have HGT : Hid (∀ u, Gp (vsQ gZ l.length rs) (wo.alloc (.cells #[.string ⟨#[]⟩, .int .i64 p, .int .i64 q] 34)) (w3.setCell ⟨rs.getD q 0, t, none⟩ u)) := fun u => gp_row hG3 hql t u
                  rw [IntWalk.i64_left] at HST
                  obtain ⟨rq, hrq⟩ : ∃ r, r = rs.getD q 0 := ⟨_, rfl⟩
                  rw [← hrq] at f1 f2 f3 HST HGT
                  generalize (tA T2 q).getD t 0 = nq at *
                  clear hrq hV3 hG3
                  go_region
                  go_wp2
                  go_roundw
                  case rel =>
                    refine ⟨s + 1, by omega, by go_num, gp_drew (HGT.out _), ?_⟩
                    rw [HS1.out, HSP.out]
                    exact HST.out.after (Below.refl _ _).drew
                  case measure => first | (simp [intOf]; done) | (simp [intOf]; omega)
                · obtain ⟨t, ht⟩ := Int.eq_ofNat_of_zero_le (HMB.out i s hil hls).1
                  have htm : t < a.nx.length := by have := (HMB.out i s hil hls).2; omega
                  have htI : (t : Int) < a.nx.length := by omega
                  have hiM : (i : Int) < (gSm a.nx l).length := by have := HML.out; omega
                  have HSP : Hid (viS l (gSm a.nx l) i s n (T1, o1) = (T1, addL o1 t n)) := viS_lett (by rw [HX.out.1]; exact hz) ht
                  obtain ⟨bm, om, rfl, hbml, hall⟩ := inT_all HM.out (by have := HML.out; omega)
                  obtain ⟨rp0, cp, hcp, hip⟩ := hall i (by have := HML.out; omega)
                  obtain ⟨gp, fp, rfl, hgpl, hvp⟩ := inI_at hip (show s < (tA (gSm a.nx l) i).length by rw [HMR.out i hil]; exact hls)
                  rw [HMR.out i hil] at hcp
                  rw [ht] at hvp
                  have f4 := HV2.out.cs.2.2.2.2.2.2
                  have f5 := cell_later HV2.out.bel hcp
                  have f6 := cell_later HV2.out.bel hvp
                  have f7 := own_get HV2.out.z HV2.out.ol htm
                  have f8 : w2.frozen? ⟨gZ, t, none⟩ = false := HV2.out.z.frozenAt t
                  have HST := Lib.hid (HV2.out.out t n)
                  have HGT : Hid (∀ u, Gp (vsQ gZ l.length rs) (wo.alloc (.cells #[.string x1, .int .i64 x2, .int .i64 x3] 34)) (w2.setCell ⟨gZ, t, none⟩ u)) := fun u => gp_out HG2.out t u
                  rw [IntWalk.i64_left] at HST
                  clear ht hall hip hcp hvp HV2 HG2
                  generalize o1.getD t 0 = nt at *
                  go_wp2
                  go_roundw
                  case rel =>
                    refine ⟨s + 1, by omega, by go_num, HGT.out _, ?_⟩
                    rw [HS1.out, HSP.out]
                    exact HST.out
                  case measure => first | (simp [intOf]; done) | (simp [intOf]; omega)
              · have hsx : s = a.nx.length := by omega
                have HV3 := Lib.hid hV
                have hsI : ¬ ((s : Int) < a.nx.length) := by omega
                subst hsx
                clear hV hgp hs hls
                go_wp2
                go_roundw
                case rel => exact ⟨i, _, _, _, by omega, by go_num, rfl, HV3.out, HGV.out⟩
                case measure => first | (simp [intOf]; done) | (simp [intOf]; omega)
          · have k0 : k = 0 := by omega
            subst k0
            obtain rfl : x = -1 := by omega
            have hG2 : (T, o) = viG l (gSm a.nx l) a.nx.length l.length (T0, zR a.nx.length) := hG
            have hR := HRES.out
            rw [← hG2] at hR
            have hz := hV.z
            have hbel := hV.bel
            have hR' : o = viV a l j := hR
            rw [hR'] at hz
            clear hV hG hG2 hR hR' hlt hk hx e5
            go_wp2
            go_ret
            exact ⟨.slice (some ⟨gZ, 0, none⟩) a.nx.length a.nx.length, rfl, hz, hbel⟩
end Go.Proofs.Ytimfbnjgodbgoaa

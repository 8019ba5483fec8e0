/- Drawn grammars: l02Drawn. -/
import Derived.Test.YtoejelieogjjpaaY9
import Derived.Test.YtoejelieogjjpaaP2
import Derived.Deep.DeepCutAuto
namespace Go.Proofs.Ytoejelieogjjpaa
open Go.ChangeShapes Go.WideShapes Go.RowKit
set_option linter.unusedVariables false
set_option linter.unusedSimpArgs false
set_option maxHeartbeats 2000000
set_option maxRecDepth 100000
/-- the letters' rules -/
def leS (k : Nat) : ByteArray := ⟨#[UInt8.ofNat (97 + k)]⟩
def leR (k : Nat) : List Ru := (List.range k).map fun j => (leS j, 0, 0)
theorem leR_ok {k : Nat} (h1 : 1 ≤ k) (h3 : k ≤ 3) : gOk (leR k) = true ∧ lastI (gLn (leR k)) = 1 := by
  have : k = 1 ∨ k = 2 ∨ k = 3 := by omega
  rcases this with rfl | rfl | rfl <;> exact ⟨by decide, by decide⟩
theorem leR_len (k : Nat) : (leR k).length = k := by simp [leR]
/-- all letters of the rules' texts are a, b or c -/
def abcL (L : List Ru) : Prop := ∀ r ∈ L, ∀ x ∈ r.1.data.toList, 97 ≤ x.toNat ∧ x.toNat ≤ 99
theorem leR_abc {k : Nat} (h3 : k ≤ 3) : abcL (leR k) := by
  intro r hr x hx
  obtain ⟨j, hj, rfl⟩ := List.mem_map.1 hr
  have hj3 := List.mem_range.1 hj
  have : j = 0 ∨ j = 1 ∨ j = 2 := by omega
  rcases this with rfl | rfl | rfl <;> (simp [leS] at hx; subst hx; decide)
theorem abcL_app {L L2 : List Ru} {p q : Int} (h : abcL L) (he : L ++ [((⟨#[]⟩ : ByteArray), p, q)] = L2) : abcL L2 := by
  subst he
  intro r hr x hx
  rcases List.mem_append.1 hr with hr | hr
  · exact h r hr x hx
  · simp at hr; subst hr; simp at hx
theorem leR_step (k : Nat) : leR (k + 1) = leR k ++ [(leS k, 0, 0)] := by simp [leR, List.range_succ]
/-- a drawn grammar in its box -/
def DrR (w : World) (gs : Nat) (lc : List UInt8) (B : Nat) (L : List Ru) (wr : World) : Prop := ∃ v, wr.cell? ⟨w.heap.size + 1, 0, none⟩ = some v ∧ wr.frozen? ⟨w.heap.size + 1, 0, none⟩ = false ∧ v.ownBlock ≠ some (w.heap.size + 1) ∧ OwnRu wr (w.heap.size + 2) v L ∧ w.grownBy wr (some gs) ∧ Src wr gs lc B ∧ w.heap.size + 1 < wr.heap.size ∧ wr.cell? ⟨w.heap.size, 0, none⟩ = some (.slice none 0 0) ∧ wr.frozen? ⟨w.heap.size, 0, none⟩ = false
theorem bel_al {w Y : World} {o : Obj} (h : Below w.heap.size w Y) : Below w.heap.size w (Y.alloc o) := h.alloc h.size o
theorem app_boxR {wr w2 w4 : World} {o : Obj} {r : Option Nat} {bx : Nat} {v : Value} (t0 : Below wr.heap.size wr w2) (hg : (w2.alloc o).grownBy w4 r) (hb : bx < wr.heap.size) (hne : r ≠ some bx) (hc : wr.cell? ⟨bx, 0, none⟩ = some v) (hf : wr.frozen? ⟨bx, 0, none⟩ = false) : w4.cell? ⟨bx, 0, none⟩ = some v ∧ w4.frozen? ⟨bx, 0, none⟩ = false := by
  have hz := t0.size
  have t1 : Below wr.heap.size wr (w2.alloc o) := t0.alloc hz _
  refine ⟨?_, ?_⟩
  · rw [hg.cell_far _ (by simp; omega) (Ne.symm hne), t1.cell (p := ⟨bx, 0, none⟩) hb]; exact hc
  · rw [hg.frozen_far _ (by simp; omega) (Ne.symm hne), t1.frozen (p := ⟨bx, 0, none⟩) hb]; exact hf
theorem app_neR {wr w2 : World} {o : Obj} {g3 bx : Nat} {v : Value} (t0 : Below wr.heap.size wr w2) (hor : v.ownBlock = some g3 ∨ g3 = (w2.alloc o).heap.size) (hne : v.ownBlock ≠ some bx) (hb : bx < wr.heap.size) : g3 ≠ bx := by
  have hz := t0.size
  rcases hor with h | h
  · intro e; rw [h, e] at hne; exact hne rfl
  · simp at h; omega
theorem grown_new {w w2 w4 : World} {r r2 : Option Nat} (h : w.grownBy w2 r) (h2 : w2.grownBy w4 r2) (hr : ∀ q, r2 = some q → w.heap.size ≤ q) : w.grownBy w4 r :=
  ⟨h2.os.trans h.os, h2.tape.trans h.tape, h2.output.trans h.output, Nat.le_trans h.size h2.size, fun k hk hne => (h2.block k (Nat.lt_of_lt_of_le hk h.size) (fun e => by have := hr k e.symm; omega)).trans (h.block k hk hne)⟩
theorem drR_end {w w5 : World} {gs B g5 c5 n : Nat} {lc : List UInt8} {L : List Ru} {u : Value} (hgs : gs < w.heap.size) (hn : L.length = n) (hc : w5.cell? ⟨w.heap.size + 1, 0, none⟩ = some u) (hf : w5.frozen? ⟨w.heap.size + 1, 0, none⟩ = false) (hne : g5 ≠ w.heap.size + 1)
    (ho : OwnRu w5 (w.heap.size + 2) (.slice (some ⟨g5, 0, none⟩) n c5) L) (hg : w.grownBy w5 (some gs)) (hs : Src w5 gs lc B) (hz : w.heap.size + 1 < w5.heap.size) (hr : w5.cell? ⟨w.heap.size, 0, none⟩ = some (.slice none 0 0)) (hrf : w5.frozen? ⟨w.heap.size, 0, none⟩ = false) :
    DrR w gs lc B L (w5.setCell ⟨w.heap.size + 1, 0, none⟩ (.slice (some ⟨g5, 0, none⟩) n c5)) := by
  refine ⟨_, cell_st_same _ hc, by simpa using hf, by simp [Value.ownBlock]; omega, ho.kept (grownBy_set _ _ _) (.inr (by simp [Value.ownBlock]; omega)), grown_new hg (grownBy_set _ _ _) (fun q e => by injection e with e; simp at e; omega), Src.kept hs (grownBy_set _ _ _) (fun q e => by injection e with e; simp at e; omega), by simpa using hz, ?_, by simpa using hrf⟩
  rw [World.cell?_setCell_far _ _ _ _ (by simp)]; exact hr
theorem DrR.step {w wr w1 : World} {gs B B' : Nat} {lc : List UInt8} {L : List Ru} (h : DrR w gs lc B L wr) (hgs : gs < w.heap.size) (hg : wr.grownBy w1 (some gs)) (hs : Src w1 gs lc B') : DrR w gs lc B' L w1 := by
  obtain ⟨v, hc, hf, hne, hown, hgr, hsr, hsz, hcr, hfr⟩ := h
  have hz := hg.size
  have hgo : ∀ q, v.ownBlock = some q → w.heap.size + 2 ≤ q := fun q e => (hown.lt q e).1
  refine ⟨v, ?_, ?_, hne, hown.kept hg ?_, hgr.trans hg, hs, by omega, ?_, ?_⟩
  · rw [hg.cell_far _ hsz (by simp; omega)]; exact hc
  · rw [hg.frozen_far _ hsz (by simp; omega)]; exact hf
  · cases he : v.ownBlock with
    | none => exact .inl rfl
    | some q => exact .inr (by have := hgo q he; intro e; injection e with e; omega)
  · rw [hg.cell_far _ (by simp; omega) (by simp; omega)]; exact hcr
  · rw [hg.frozen_far _ (by simp; omega) (by simp; omega)]; exact hfr
/-- the drawn rule in its box -/
def RbR (w2 : World) (gs : Nat) (lc : List UInt8) (B n : Nat) (X : World) : Prop := w2.grownBy X (some gs) ∧ Src X gs lc B ∧ w2.heap.size < X.heap.size ∧ X.cell? ⟨w2.heap.size, 0, none⟩ = some (.string ⟨#[]⟩) ∧ X.frozen? ⟨w2.heap.size, 1, none⟩ = false ∧ X.frozen? ⟨w2.heap.size, 2, none⟩ = false ∧ ∃ y1 y2 : Nat, y1 < n ∧ y2 < n ∧ X.cell? ⟨w2.heap.size, 1, none⟩ = some (.int .i64 y1) ∧ X.cell? ⟨w2.heap.size, 2, none⟩ = some (.int .i64 y2)
theorem RbR.step {w2 X Y : World} {gs B B' n : Nat} {lc : List UInt8} (h : RbR w2 gs lc B n X) (hgs : gs < w2.heap.size) (hg : X.grownBy Y (some gs)) (hs : Src Y gs lc B') : RbR w2 gs lc B' n Y := by
  obtain ⟨h1, h2, h3, h4, h5, h6, y1, y2, h7, h8, h9, h10⟩ := h
  have hz := hg.size
  refine ⟨h1.trans hg, hs, by omega, ?_, ?_, ?_, y1, y2, h7, h8, ?_, ?_⟩
  · rw [hg.cell_far _ h3 (by simp; omega)]; exact h4
  · rw [hg.frozen_far _ h3 (by simp; omega)]; exact h5
  · rw [hg.frozen_far _ h3 (by simp; omega)]; exact h6
  · rw [hg.cell_far _ h3 (by simp; omega)]; exact h9
  · rw [hg.cell_far _ h3 (by simp; omega)]; exact h10
theorem RbR.set1 {w2 X : World} {gs B n y : Nat} {lc : List UInt8} (h : RbR w2 gs lc B n X) (hgs : gs < w2.heap.size) (hy : y < n) : RbR w2 gs lc B n (X.setCell ⟨w2.heap.size, 1, none⟩ (.int .i64 y)) := by
  obtain ⟨h1, h2, h3, h4, h5, h6, y1, y2, h7, h8, h9, h10⟩ := h
  refine ⟨grown_new h1 (grownBy_set _ _ _) (fun q e => by injection e with e; simp at e; omega), Src.kept h2 (grownBy_set _ _ _) (fun q e => by injection e with e; simp at e; omega), by simpa using h3, ?_, by simpa using h5, by simpa using h6, y, y2, hy, h8, cell_st_same _ h9, ?_⟩
  · rw [World.cell?_setCell_other (h := by intro h; injection h with _ h _; cases h)]; exact h4
  · rw [World.cell?_setCell_other (h := by intro h; injection h with _ h _; cases h)]; exact h10
theorem RbR.set2 {w2 X : World} {gs B n y : Nat} {lc : List UInt8} (h : RbR w2 gs lc B n X) (hgs : gs < w2.heap.size) (hy : y < n) : RbR w2 gs lc B n (X.setCell ⟨w2.heap.size, 2, none⟩ (.int .i64 y)) := by
  obtain ⟨h1, h2, h3, h4, h5, h6, y1, y2, h7, h8, h9, h10⟩ := h
  refine ⟨grown_new h1 (grownBy_set _ _ _) (fun q e => by injection e with e; simp at e; omega), Src.kept h2 (grownBy_set _ _ _) (fun q e => by injection e with e; simp at e; omega), by simpa using h3, ?_, by simpa using h5, by simpa using h6, y1, y, h7, hy, ?_, cell_st_same _ h10⟩
  · rw [World.cell?_setCell_other (h := by intro h; injection h with _ h _; cases h)]; exact h4
  · rw [World.cell?_setCell_other (h := by intro h; injection h with _ h _; cases h)]; exact h9
/-- append of many rules onto an empty row of the call's own, at a drawn step -/
theorem step_app_rus {ops : Array Oper} {o : Oper} {a : Act} {K : Act → World → Prop} {Q : Exit → Act → World → Prop} {E : Prop} (hgd : o.guard = none) (s x : Operand)
    (ho : o.op = .call { callee := .builtin .append, args := #[s, x], argTypes := #[24, 24] })
    (base : Nat) (w : World) (H0 : Nat) (L : List Ru) (hs : a.eval s = .slice (some ⟨H0, 0, none⟩) 0 0) (hown : w.ownsRow base 59 3 (.slice (some ⟨H0, 0, none⟩) 0 0) 0 [])
    (ad : Option Addr) (cap : Nat) (hx : a.eval x = .slice ad L.length cap) (hin : InRu w (.slice ad L.length cap) L) (h0 : 1 ≤ L.length) (hn : L.length ≤ 1048576) (hbase : base ≤ w.heap.size)
    (h : ∀ g c w', OwnRu w' base (.slice (some ⟨g, 0, none⟩) L.length c) L → w.grownBy w' (some H0) → (g = H0 ∨ g = w.heap.size) → g < w'.heap.size → K (a.put o.dst (.slice (some ⟨g, 0, none⟩) L.length c)) w') :
    if Region.wanted o (yielded ops a.tmps) = true then Oper.wp Try.prog o a w K Q else E := by
  obtain ⟨i0, hi, hz0, hz1, hz2⟩ := info_parts info_ruR
  rcases hin with ⟨hl0, _⟩ | ⟨b, off, cap', hv, hb, hnc, hcm, hc⟩
  · omega
  injection hv with e1 e2 e3
  subst e1 e3
  have hnews : ∀ j u, (ruV L)[j]? = some u → w.cell? ((⟨b, off, none⟩ : Addr).add j) = some u := by
    intro j u hu
    have hj : j < L.length * 3 := by
      rcases Nat.lt_or_ge j (L.length * 3) with hq | hq
      · exact hq
      · rw [List.getElem?_eq_none (by rw [ruV_len]; omega)] at hu; cases hu
    have e : (⟨b, off, none⟩ : Addr).add j = ⟨b, off + j, none⟩ := by unfold Addr.add; split <;> simp_all
    rw [e, hc j hj]
    exact hu
  refine step_append_lies w hgd s x 24 ho base 59 i0 (.agg #[.string ⟨#[]⟩, .int .i64 0, .int .i64 0]) 3 32 Try.underlying24 hi hz0 hz1 hz2 rfl (by decide) _ 0 [] hs hown ⟨b, off, none⟩ L.length cap (ruV L) hx (by rw [ruV_len]) hnews (ruV_one L) (by omega) (by unfold maxLen; omega) (by omega) hbase _ rfl ?_
  intro g c w1 ho1 hg hor hl1
  rw [Nat.zero_add] at ho1 ⊢
  refine h g c w1 ho1 hg ?_ hl1
  rcases hor with e | e
  · injection e with e; exact .inl e.symm
  · exact .inr e
theorem own_madeR {w : World} {base g : Nat} (hg : g = w.heap.size) (hb : base ≤ w.heap.size) : (w.alloc (.cells #[] 59)).ownsRow base 59 3 (.slice (some ⟨g, 0, none⟩) 0 0) 0 [] := by
  subst hg; exact World.ownsRow_made w #[] 0 hb (by decide) (by simp)
theorem bel_put {w Y : World} {b j : Nat} {v : Value} (h : Below w.heap.size w Y) (hb : w.heap.size ≤ b) : Below w.heap.size w (Y.setCell ⟨b, j, none⟩ v) := h.setCell (p := ⟨b, j, none⟩) hb v
theorem grown_of_bel {w w' : World} {r : Option Nat} (h : Below w.heap.size w w') : w.grownBy w' r := ⟨h.os, h.tape, h.output, h.size, fun k hk _ => h.block k hk⟩
theorem cutP {P Q : Prop} (h : P) (k : P → Q) : Q := k h
theorem conv_let (w : World) (k : Nat) (hk : k ≤ 2) : (convert 22 9 (.slice (some ⟨w.heap.size, 0, none⟩) 1 1)).run Try.prog (w.alloc (.cells #[.int .u8 (97 + (k : Int))] 5)) = .ok (.string (leS k)) (w.alloc (.cells #[.int .u8 (97 + (k : Int))] 5)) := by
  have h := own_one w (.int .u8 (97 + (k : Int))) 5
  have e : [Value.int .u8 (97 + (k : Int))] = u8s [UInt8.ofNat (97 + k)] := by
    have : k = 0 ∨ k = 1 ∨ k = 2 := by omega
    rcases this with rfl | rfl | rfl <;> rfl
  have h2 : (w.alloc (.cells #[.int .u8 (97 + (k : Int))] 5)).ownsRow w.heap.size 5 1 (.slice (some ⟨w.heap.size, 0, none⟩) 1 1) [UInt8.ofNat (97 + k)].length (u8s [UInt8.ofNat (97 + k)]) := by rw [← e]; exact h
  exact conv_any h2
theorem s_l02DrawnL (gs B : Nat) (lc : List UInt8) (m : Nat) (w : World) (hm1 : 1 ≤ m) (hm : m ≤ 1000) (hB : B ≤ 100000) (hs : Src w gs lc B) :
    Calls Try.prog 19 #[.pointer (some ⟨gs, 0, none⟩), .int .i64 m] w fun e w' => ∃ v L, e = .returned (.agg #[v]) ∧ gOk L = true ∧ L ≠ [] ∧ lastI (gLn L) ≤ m ∧ OwnRu w' w.heap.size v L ∧ w.grownBy w' (some gs) ∧ Src w' gs lc (B + 200) ∧ abcL L ∧ L.length ≤ 14 := by
  have hgs := hs.lt
  have HS0 := Lib.hid (Src.kept (row := none) (Src.kept (row := none) hs (World.grownBy_alloc w (.cells #[.slice none 0 0] 26) none) (fun r e => by cases e)) (World.grownBy_alloc _ (.cells #[.slice none 0 0] 26) none) (fun r e => by cases e))
  have HG0 : Hid (w.grownBy ((w.alloc (.cells #[.slice none 0 0] 26)).alloc (.cells #[.slice none 0 0] 26)) (some gs)) := (World.grownBy_alloc w _ _).trans (World.grownBy_alloc _ _ _)
  clear hs
  go_enter Try.func19, Try.ntmps19
  go_wp2_with fail
  refine (s_pick gs B lc 3 _ (by omega) (by omega) HS0.out).mono ?_
  rintro e w1 ⟨x, rfl, hx, hg1, hs1⟩
  have hx2 : x ≤ 2 := by omega
  have hz1 : w.heap.size + 2 ≤ w1.heap.size := by have := hg1.size; simp at this; omega
  have hD : DrR w gs lc (B + 2) (leR 0) w1 := by
    refine ⟨.slice none 0 0, ?_, ?_, by simp [Value.ownBlock], ⟨rfl, .inl ⟨rfl, rfl⟩⟩, HG0.out.trans hg1, hs1, by omega, ?_, ?_⟩
    · rw [hg1.cell_far _ (by simp) (by simp; omega)]; simp [go_sem]
    · rw [hg1.frozen_far _ (by simp) (by simp; omega)]; simp [go_sem]
    · rw [hg1.cell_far _ (by simp; omega) (by simp; omega)]; simp [go_sem]
    · rw [hg1.frozen_far _ (by simp; omega) (by simp; omega)]; simp [go_sem]
  have HD := Lib.hid hD
  clear hD hg1 hs1 HG0 HS0 hx
  go_wp2
  go_loopw [7] (fun i wr => ∃ k : Nat, i = .int .i64 k ∧ k ≤ x + 1 ∧ DrR w gs lc (B + 2) (leR k) wr) (fun i _ => x + 1 - (intOf i).toNat)
  case atStart => exact ⟨0, rfl, by omega, HD.out⟩
  case round =>
    obtain ⟨k, rfl, hk, v, hc, hf, hne, hown, hg, hsr, hsz, hcr, hfr⟩ := hrel
    by_cases hlt : k < x + 1
    · have hk3 : k = 0 ∨ k = 1 ∨ k = 2 := by omega
      have HO := Lib.hid hown
      have HG := Lib.hid hg
      have HSR := Lib.hid hsr
      clear hown hg hsr
      have hconv := conv_let wr k (by omega)
      have hgo : ∀ q, v.ownBlock = some q → w.heap.size + 2 ≤ q := fun q e => ((HO.out).lt q e).1
      have HGO := Lib.hid hgo
      have HLEN := Lib.hid (leR_len k)
      clear hgo
      go_wp2_with (at_builtin; refine list_app_ru rfl _ _ rfl (w.heap.size + 2) _ _ (leR k) (leS k, (0 : Int), (0 : Int)) rfl (OwnRu.alloc (OwnRu.alloc HO.out _) _) (wr.heap.size + 1) rfl (by simp [go_sem]) (by simp [go_sem]) (by simp [go_sem]) (by rw [HLEN.out]; omega) (by simp; omega) ?_; rw [HLEN.out]; intro g5 c5 w5 ho5 hg5 hge5 hlt5 hor5; have t0 := bel_al (o := .cells #[.int .u8 (97 + (k : Int))] 5) (Below.refl wr.heap.size wr); have hne5 := app_neR t0 hor5 hne hsz; obtain ⟨ct5, f5⟩ := app_boxR t0 hg5 hsz hne hc hf; obtain ⟨cr5, fr5⟩ := app_boxR (bx := w.heap.size) t0 hg5 (by omega) (fun e => by have := HGO.out _ e; omega) hcr hfr; have HO5 := Lib.hid ho5; have HG5 := Lib.hid (grown_new (grown_bel (HG.out) (bel_al t0)) hg5 (fun q e => by have := HGO.out q e; omega)); have HS5 := Lib.hid (Src.kept (row := v.ownBlock) (Src.kept (row := none) (Src.kept (row := none) HSR.out (World.grownBy_alloc _ _ _) (fun r e => by cases e)) (World.grownBy_alloc _ _ _) (fun r e => by cases e)) hg5 (fun q e => by have := HGO.out q e; omega)); have hs5 : wr.heap.size + 2 ≤ w5.heap.size := (by have := hg5.size; simp at this; omega); clear ho5 hg5 hor5 t0)
      go_roundw
      case rel => exact ⟨k + 1, by go_num, by omega, leR_step k ▸ drR_end hgs (by simp [leR_len]) ct5 f5 hne5 HO5.out HG5.out HS5.out (by omega) cr5 fr5⟩
      case measure => simp [intOf]; omega
    · obtain rfl : k = x + 1 := by omega
      have hD : DrR w gs lc (B + 2) (leR (x + 1)) wr := ⟨v, hc, hf, hne, hown, hg, hsr, hsz, hcr, hfr⟩
      have HD := Lib.hid hD
      have HS := Lib.hid hsr
      clear hD hc hf hne hown hg hsr hcr hfr
      go_wp2_with fail
      refine (s_pick gs (B + 2) lc 12 _ (by omega) (by omega) HS.out).mono ?_
      rintro e w3 ⟨q, rfl, hq, hg3, hs3⟩
      have hq11 : q ≤ 11 := by omega
      have HD3 := Lib.hid (HD.out.step hgs hg3 hs3)
      clear hq hg3 hs3 HD HS
      go_wp2
      go_loopw [8] (fun i wz => ∃ (k : Nat) (L : List Ru), i = .int .i64 k ∧ k ≤ 11 ∧ L.length + k ≤ 14 ∧ 1 ≤ L.length ∧ gOk L = true ∧ lastI (gLn L) ≤ m ∧ abcL L ∧ DrR w gs lc (B + 4 + 10 * (11 - k)) L wz) (fun i _ => (intOf i).toNat)
      case atStart =>
        have hle := leR_ok (k := x + 1) (by omega) (by omega)
        refine ⟨q, leR (x + 1), rfl, hq11, by rw [leR_len]; omega, by rw [leR_len]; omega, hle.1, by omega, leR_abc (by omega), ?_⟩
        obtain ⟨v, hc, hf, hne, hown, hg, hsr, hsz, hcr, hfr⟩ := HD3.out
        exact ⟨v, hc, hf, hne, hown, hg, hsr.more (by omega), hsz, hcr, hfr⟩
      case round =>
        obtain ⟨k, L, rfl, hk11, hL14, hL1, hok, hlast, hab, hD⟩ := hrel
        have HOK := Lib.hid hok
        have HLA := Lib.hid hlast
        have HAB := Lib.hid hab
        clear hok hlast HD3 hab
        by_cases hk0 : 0 < k
        · obtain ⟨v, hc, hf, hne, hown, hg, hsr, hsz, hcr, hfr⟩ := hD
          obtain ⟨g, c, rfl, hg2, hg3⟩ := owns_some3 hown (by omega)
          have HD := Lib.hid (show DrR w gs lc (B + 4 + 10 * (11 - k)) L _ from ⟨_, hc, hf, hne, hown, hg, hsr, hsz, hcr, hfr⟩)
          have HS := Lib.hid hsr
          clear hf hne hown hg hsr hcr hfr
          have hBB : B + 4 + 10 * (11 - k) ≤ 100200 := by omega
          go_wp2_with fail
          refine (s_pick gs (B + 4 + 10 * (11 - k)) lc (L.length : Int) _ (by omega) (by omega) HS.out).mono ?_
          rintro e w4 ⟨y1, rfl, hy1, hg4, hs4⟩
          have HD4 := Lib.hid (HD.out.step hgs hg4 hs4)
          have HS4 := Lib.hid hs4
          clear hg4 hs4 HD HS hc
          go_wp2_with fail
          refine (s_pick gs (B + 4 + 10 * (11 - k) + 2) lc (L.length : Int) _ (by omega) (by omega) HS4.out).mono ?_
          rintro e w5 ⟨y2, rfl, hy2, hg5, hs5⟩
          have hgs5 : gs < w5.heap.size := hs5.lt
          have HD5 := Lib.hid (HD4.out.step hgs hg5 hs5)
          have HR5 : Hid (RbR w5 gs lc (B + 4 + 10 * (11 - k) + 4) L.length (w5.alloc (.cells #[.string ⟨#[]⟩, .int .i64 y1, .int .i64 y2] 59))) := by
            refine ⟨World.grownBy_alloc _ _ _, Src.kept (row := none) (hs5.more (by omega)) (World.grownBy_alloc _ _ _) (fun r e => by cases e), by simp, by simp [go_sem], by simp [go_sem], by simp [go_sem], y1, y2, by omega, by omega, by simp [go_sem], by simp [go_sem]⟩
          have HS5 := Lib.hid HR5.out.2.1
          clear hg5 hs5 HD4 HS4 hy1 hy2
          go_wp2_with fail
          refine (s_one gs (B + 4 + 10 * (11 - k) + 4) lc 2 _ (by omega) (by omega) HS5.out).mono ?_
          rintro e w6 ⟨b1, rfl, hg6, hs6⟩
          have HR6 := Lib.hid (HR5.out.step hgs5 hg6 hs6)
          clear hg6 hs6 HS5 HR5
          go_upto_if 49 with fail
          go_cut [] (fun wx => RbR w5 gs lc (B + 4 + 10 * (11 - k) + 6) L.length wx)
          case first =>
            cases b1
            · go_wp2_with fail
              go_meet
              exact HR6.out
            · have h9 := HR6.out.2.2.2.2.2.2
              have h5 := HR6.out.2.2.2.2.1
              obtain ⟨z1, z2, -, -, h9, -⟩ := h9
              have hz6 := HR6.out.2.2.1
              go_wp2_with fail
              go_meet
              have hE := HR6.out.set1 (y := L.length - 1) hgs5 (by omega)
              rw [show ((L.length - 1 : Nat) : Int) = (L.length : Int) - 1 by omega] at hE
              exact hE
          case rest =>
            have HR7 := Lib.hid hcut
            have HS7 := Lib.hid hcut.2.1
            clear hcut HR6
            go_wp2_with fail
            refine (s_one gs (B + 4 + 10 * (11 - k) + 6) lc 3 _ (by omega) (by omega) HS7.out).mono ?_
            rintro e w8 ⟨b2, rfl, hg8, hs8⟩
            have HR8 := Lib.hid (HR7.out.step hgs5 hg8 hs8)
            clear hg8 hs8 HS7 HR7
            go_upto_if 54 with fail
            go_cut [] (fun wx => RbR w5 gs lc (B + 4 + 10 * (11 - k) + 8) L.length wx)
            case first =>
              cases b2
              · go_wp2_with fail
                go_meet
                exact HR8.out
              · have h9 := HR8.out.2.2.2.2.2.2
                have h5 := HR8.out.2.2.2.2.2.1
                obtain ⟨z1, z2, -, -, -, h9⟩ := h9
                have hz8 := HR8.out.2.2.1
                go_wp2_with fail
                go_meet
                have hE := HR8.out.set2 (y := L.length - 1) hgs5 (by omega)
                rw [show ((L.length - 1 : Nat) : Int) = (L.length : Int) - 1 by omega] at hE
                exact hE
            case rest =>
              have HR9 := Lib.hid hcut
              clear hcut HR8
              rename_i wc
              go_upto_region 16 with fail
              obtain ⟨hgX, hsX, hzX, rc0, -, -, z1, z2, hz1n, hz2n, rc1, rc2⟩ := HR9.out
              have HDC := Lib.hid (HD5.out.step hgs hgX hsX)
              have HSX := Lib.hid hsX
              obtain ⟨v', bc, bf, bne, bown, bgr, -, bsz, -, -⟩ := HDC.out
              obtain ⟨g', c', rfl, hg2', hg3'⟩ := owns_some3 bown (by omega)
              have hI9 := inRu_of_own bown (by intro e; subst e; simp at hL1)
              have HSP : Hid (∀ w', Below wc.heap.size wc w' → Below wc.heap.size wc w' ∧ w'.cell? ⟨w.heap.size + 1, 0, none⟩ = some (.slice (some ⟨g', 0, none⟩) L.length c') ∧ w'.cell? ⟨w5.heap.size, 0, none⟩ = some (.string ⟨#[]⟩) ∧ w'.cell? ⟨w5.heap.size, 1, none⟩ = some (.int .i64 z1) ∧ w'.cell? ⟨w5.heap.size, 2, none⟩ = some (.int .i64 z2)) := fun w' h => ⟨h, cell_later h bc, cell_later h rc0, cell_later h rc1, cell_later h rc2⟩
              have HI9 := Lib.hid hI9
              clear hgX hsX hI9 bown bgr bf
              go_cut [11] (fun s11 wx => ∃ (bb gg cc : Nat) (p q : Int), s11 = .pointer (some ⟨bb, 0, none⟩) ∧ wx.cell? ⟨bb, 0, none⟩ = some (.slice (some ⟨gg, 0, none⟩) (L.length + 1) cc) ∧ OwnRu wx wc.heap.size (.slice (some ⟨gg, 0, none⟩) (L.length + 1) cc) (L ++ [((⟨#[]⟩ : ByteArray), p, q)]) ∧ Below wc.heap.size wc wx)
              case first =>
                go_region_held3 (fun w' => Below wc.heap.size wc w' ∧ w'.cell? ⟨w.heap.size + 1, 0, none⟩ = some (.slice (some ⟨g', 0, none⟩) L.length c') ∧ w'.cell? ⟨w5.heap.size, 0, none⟩ = some (.string ⟨#[]⟩) ∧ w'.cell? ⟨w5.heap.size, 1, none⟩ = some (.int .i64 z1) ∧ w'.cell? ⟨w5.heap.size, 2, none⟩ = some (.int .i64 z2))
                  (exact HSP.out _ (by (repeat (first | with_reducible exact hBb | with_reducible exact hBa | with_reducible exact Below.refl _ _ | with_reducible apply Below.drew | with_reducible apply bel_al | (with_reducible refine bel_put ?_ (by first | omega | (simp <;> omega))))); done))
                  (first | (refine step_app_rus (by rfl) _ _ (by rfl) wc.heap.size _ _ L (by rfl) (by (repeat (first | with_reducible exact own_madeR (by first | omega | (simp <;> omega)) (by first | omega | (simp <;> omega)) | with_reducible apply World.ownsRow.alloc | with_reducible apply ownsRow_drew)); done) (some ⟨g', 0, none⟩) c' (by rfl) (inRu_below HI9.out (by (repeat (first | with_reducible exact hBb | with_reducible exact hBa | with_reducible exact Below.refl _ _ | with_reducible apply Below.drew | with_reducible apply bel_al | (with_reducible refine bel_put ?_ (by first | omega | (simp <;> omega))))); done)) hL1 (by omega) (by first | omega | (simp <;> omega)) ?_; intro g6 c6 wa hoa hga hora hlta; have hBa : Below wc.heap.size wc wa := Below.grown (by (repeat (first | with_reducible exact hBb | with_reducible exact hBa | with_reducible exact Below.refl _ _ | with_reducible apply Below.drew | with_reducible apply bel_al | (with_reducible refine bel_put ?_ (by first | omega | (simp <;> omega))))); done) hga (by first | omega | (simp <;> omega)) (fun q e => by injection e with e; omega); have hza := hga.size; simp at hora hza; (try (refine cutP (P := wa.cell? ⟨wc.heap.size, 0, none⟩ = some (.slice none 0 0)) ?_ ?_; (focus (rw [hga.cell_far] <;> simp [go_sem] <;> omega)); intro ka0)); (try (refine cutP (P := wa.frozen? ⟨wc.heap.size, 0, none⟩ = false) ?_ ?_; (focus (rw [hga.frozen_far] <;> simp [go_sem] <;> omega)); intro fa0)); (try (refine cutP (P := wa.cell? ⟨wc.heap.size, 0, none⟩ = some (.string ⟨#[]⟩)) ?_ ?_; (focus (rw [hga.cell_far] <;> simp [go_sem] <;> omega)); intro kr00)); (try (refine cutP (P := wa.cell? ⟨wc.heap.size, 1, none⟩ = some (.int .i64 z1)) ?_ ?_; (focus (rw [hga.cell_far] <;> simp [go_sem] <;> omega)); intro kr01)); (try (refine cutP (P := wa.cell? ⟨wc.heap.size, 2, none⟩ = some (.int .i64 z2)) ?_ ?_; (focus (rw [hga.cell_far] <;> simp [go_sem] <;> omega)); intro kr02)); (try (refine cutP (P := wa.cell? ⟨wc.heap.size + 1, 0, none⟩ = some (.slice none 0 0)) ?_ ?_; (focus (rw [hga.cell_far] <;> simp [go_sem] <;> omega)); intro ka1)); (try (refine cutP (P := wa.frozen? ⟨wc.heap.size + 1, 0, none⟩ = false) ?_ ?_; (focus (rw [hga.frozen_far] <;> simp [go_sem] <;> omega)); intro fa1)); (try (refine cutP (P := wa.cell? ⟨wc.heap.size + 1, 0, none⟩ = some (.string ⟨#[]⟩)) ?_ ?_; (focus (rw [hga.cell_far] <;> simp [go_sem] <;> omega)); intro kr10)); (try (refine cutP (P := wa.cell? ⟨wc.heap.size + 1, 1, none⟩ = some (.int .i64 z1)) ?_ ?_; (focus (rw [hga.cell_far] <;> simp [go_sem] <;> omega)); intro kr11)); (try (refine cutP (P := wa.cell? ⟨wc.heap.size + 1, 2, none⟩ = some (.int .i64 z2)) ?_ ?_; (focus (rw [hga.cell_far] <;> simp [go_sem] <;> omega)); intro kr12)); (try (refine cutP (P := wa.cell? ⟨wc.heap.size + 1 + 1, 0, none⟩ = some (.slice none 0 0)) ?_ ?_; (focus (rw [hga.cell_far] <;> simp [go_sem] <;> omega)); intro ka2)); (try (refine cutP (P := wa.frozen? ⟨wc.heap.size + 1 + 1, 0, none⟩ = false) ?_ ?_; (focus (rw [hga.frozen_far] <;> simp [go_sem] <;> omega)); intro fa2)); (try (refine cutP (P := wa.cell? ⟨wc.heap.size + 1 + 1, 0, none⟩ = some (.string ⟨#[]⟩)) ?_ ?_; (focus (rw [hga.cell_far] <;> simp [go_sem] <;> omega)); intro kr20)); (try (refine cutP (P := wa.cell? ⟨wc.heap.size + 1 + 1, 1, none⟩ = some (.int .i64 z1)) ?_ ?_; (focus (rw [hga.cell_far] <;> simp [go_sem] <;> omega)); intro kr21)); (try (refine cutP (P := wa.cell? ⟨wc.heap.size + 1 + 1, 2, none⟩ = some (.int .i64 z2)) ?_ ?_; (focus (rw [hga.cell_far] <;> simp [go_sem] <;> omega)); intro kr22))) | (refine step_app_ru (by rfl) _ _ (by rfl) wc.heap.size _ (.slice (some ⟨g6, 0, none⟩) L.length c6) L ((⟨#[]⟩ : ByteArray), (z1 : Int), (z2 : Int)) (by rfl) (by (repeat (first | with_reducible exact hoa | with_reducible apply OwnRu.alloc)); done) _ (by rfl) (by first | assumption | (simp [go_sem] <;> fail) | (refine cell_later ((Below.refl wa.heap.size wa).alloc (Nat.le_refl _) _) ?_; assumption)) (by first | assumption | (simp [go_sem] <;> fail) | (refine cell_later ((Below.refl wa.heap.size wa).alloc (Nat.le_refl _) _) ?_; assumption)) (by first | assumption | (simp [go_sem] <;> fail) | (refine cell_later ((Below.refl wa.heap.size wa).alloc (Nat.le_refl _) _) ?_; assumption)) (by omega) (by first | omega | (simp <;> omega)) ?_; intro g7 c7 wb hob hgb hgeb hltb horb; have hBb : Below wc.heap.size wc wb := Below.grown (by (repeat (first | with_reducible exact hBb | with_reducible exact hBa | with_reducible exact Below.refl _ _ | with_reducible apply Below.drew | with_reducible apply bel_al | (with_reducible refine bel_put ?_ (by first | omega | (simp <;> omega))))); done) hgb (by first | omega | (simp <;> omega)) (fun q e => by simp [Value.ownBlock] at e; omega); replace hgb : World.grownBy _ wb (some g6) := hgb; have hzb := hgb.size; (try simp at hzb); (try simp [Value.ownBlock] at horb); (try (refine cutP (P := wb.cell? ⟨wc.heap.size, 0, none⟩ = some (.slice none 0 0)) ?_ ?_; (focus (rw [hgb.cell_far] <;> first | (simp [go_sem] <;> fail) | omega | assumption | (simp <;> omega) | (refine cell_later ((Below.refl wa.heap.size wa).alloc (Nat.le_refl _) _) ?_; assumption))); intro kb0)); (try (refine cutP (P := wb.frozen? ⟨wc.heap.size, 0, none⟩ = false) ?_ ?_; (focus (rw [hgb.frozen_far] <;> first | (simp [go_sem] <;> fail) | omega | assumption | (rw [((Below.refl wa.heap.size wa).alloc (Nat.le_refl _) _).frozen] <;> first | assumption | omega | (simp <;> omega)) | (simp <;> omega))); intro fb0)); (try (refine cutP (P := wb.cell? ⟨wc.heap.size + 1, 0, none⟩ = some (.slice none 0 0)) ?_ ?_; (focus (rw [hgb.cell_far] <;> first | (simp [go_sem] <;> fail) | omega | assumption | (simp <;> omega) | (refine cell_later ((Below.refl wa.heap.size wa).alloc (Nat.le_refl _) _) ?_; assumption))); intro kb1)); (try (refine cutP (P := wb.frozen? ⟨wc.heap.size + 1, 0, none⟩ = false) ?_ ?_; (focus (rw [hgb.frozen_far] <;> first | (simp [go_sem] <;> fail) | omega | assumption | (rw [((Below.refl wa.heap.size wa).alloc (Nat.le_refl _) _).frozen] <;> first | assumption | omega | (simp <;> omega)) | (simp <;> omega))); intro fb1)); (try (refine cutP (P := wb.cell? ⟨wc.heap.size + 1 + 1, 0, none⟩ = some (.slice none 0 0)) ?_ ?_; (focus (rw [hgb.cell_far] <;> first | (simp [go_sem] <;> fail) | omega | assumption | (simp <;> omega) | (refine cell_later ((Below.refl wa.heap.size wa).alloc (Nat.le_refl _) _) ?_; assumption))); intro kb2)); (try (refine cutP (P := wb.frozen? ⟨wc.heap.size + 1 + 1, 0, none⟩ = false) ?_ ?_; (focus (rw [hgb.frozen_far] <;> first | (simp [go_sem] <;> fail) | omega | assumption | (rw [((Below.refl wa.heap.size wa).alloc (Nat.le_refl _) _).frozen] <;> first | assumption | omega | (simp <;> omega)) | (simp <;> omega))); intro fb2)); (try (refine cutP (P := wb.cell? ⟨wa.heap.size, 0, none⟩ = some (.slice none 0 0)) ?_ ?_; (focus (rw [hgb.cell_far] <;> first | (simp [go_sem] <;> fail) | omega | assumption | (simp <;> omega) | (refine cell_later ((Below.refl wa.heap.size wa).alloc (Nat.le_refl _) _) ?_; assumption))); intro kb3)); (try (refine cutP (P := wb.frozen? ⟨wa.heap.size, 0, none⟩ = false) ?_ ?_; (focus (rw [hgb.frozen_far] <;> first | (simp [go_sem] <;> fail) | omega | assumption | (rw [((Below.refl wa.heap.size wa).alloc (Nat.le_refl _) _).frozen] <;> first | assumption | omega | (simp <;> omega)) | (simp <;> omega))); intro fb3)); (try (refine cutP (P := wb.cell? ⟨wa.heap.size + 1, 0, none⟩ = some (.slice none 0 0)) ?_ ?_; (focus (rw [hgb.cell_far] <;> first | (simp [go_sem] <;> fail) | omega | assumption | (simp <;> omega) | (refine cell_later ((Below.refl wa.heap.size wa).alloc (Nat.le_refl _) _) ?_; assumption))); intro kb4)); (try (refine cutP (P := wb.frozen? ⟨wa.heap.size + 1, 0, none⟩ = false) ?_ ?_; (focus (rw [hgb.frozen_far] <;> first | (simp [go_sem] <;> fail) | omega | assumption | (rw [((Below.refl wa.heap.size wa).alloc (Nat.le_refl _) _).frozen] <;> first | assumption | omega | (simp <;> omega)) | (simp <;> omega))); intro fb4))))
                all_goals
                  go_wp2_with fail
                  go_meet
                  refine ⟨_, g7, c7, z1, z2, rfl, ?_, ?_, (by (repeat (first | with_reducible exact hBb | with_reducible exact Below.refl _ _ | with_reducible apply Below.drew | with_reducible apply bel_al | (with_reducible refine bel_put ?_ (by first | omega | (simp <;> omega))))); done)⟩
                  · first | (simp [go_sem] <;> fail) | (refine cell_st_same _ (?_ : _ = some (.slice none 0 0)); assumption)
                  · repeat (first | with_reducible exact hob | with_reducible apply OwnRu.alloc | (with_reducible refine OwnRu.kept ?_ (grownBy_set _ _ _) (.inr (by simp [Value.ownBlock]; omega))))
              case rest =>
                obtain ⟨bb, gg, cc, p, q, rfl, hcb, hownL, hbel⟩ := hcut
                obtain ⟨L2, hL2⟩ : ∃ L2, L ++ [((⟨#[]⟩ : ByteArray), p, q)] = L2 := ⟨_, rfl⟩
                have hlen2 : L2.length = L.length + 1 := by rw [← hL2]; simp
                have hsm2 : ∀ r ∈ L2, r.1.size ≤ 1048576 := by
                  intro r hr
                  rw [← hL2] at hr
                  rcases List.mem_append.1 hr with hr | hr
                  · have := ru_small HOK.out r hr; omega
                  · simp at hr; subst hr; simp [ByteArray.size]
                have HAB2 := Lib.hid (abcL_app HAB.out hL2)
                rw [hL2, ← hlen2] at hownL
                rw [← hlen2] at hcb
                have hin2 := inRu_of_own hownL (by intro e; subst e; simp at hlen2)
                have HOKC := Lib.hid (s_l02Ok bb 0 cc (some ⟨gg, 0, none⟩) L2 _ (by omega) hsm2 hcb hin2)
                have HLEN := Lib.hid (fun w1 c i h => s_l02Length bb 0 cc (some ⟨gg, 0, none⟩) L2 w1 (by omega) hsm2 c i h)
                have HDD := Lib.hid (HDC.out.step hgs (grown_of_bel hbel) (Src.kept (row := none) HSX.out (grown_of_bel hbel) (fun r e => by cases e)))
                have HSD := Lib.hid (Src.kept (row := none) HSX.out (grown_of_bel hbel) (fun r e => by cases e))
                have HOL := Lib.hid (OwnRu.weak hownL (show w.heap.size + 2 ≤ _ by omega))
                have HI2 := Lib.hid hin2
                have hgne : gg ≠ w.heap.size + 1 := by have := (hownL.lt gg rfl).1; omega
                clear hL2 hsm2 hownL hin2 hbel HDC HSX HSP HI9 bc rc0 rc1 rc2 HR9 HD5
                go_wp2_with fail
                refine HOKC.out.mono ?_
                rintro e we ⟨rfl, hbe⟩
                have HDE := Lib.hid (HDD.out.step hgs (grown_of_bel hbe) (Src.kept (row := none) HSD.out (grown_of_bel hbe) (fun r e => by cases e)))
                have HSE := Lib.hid (Src.kept (row := none) HSD.out (grown_of_bel hbe) (fun r e => by cases e))
                have HOE := Lib.hid (owns_after HOL.out hbe)
                have hce := cell_later hbe hcb
                have HIE := Lib.hid (inRu_below HI2.out hbe)
                clear hbe HOKC HDD HSD HOL HI2 hcb
                cases hok2 : gOk L2
                · clear HLEN hok2 hce HIE HOE HSE
                  obtain ⟨v9, ec, ef, ene, eown, egr, esr, esz, ecr, efr⟩ := HDE.out
                  obtain ⟨g9, c9, rfl, eg1, eg2⟩ := owns_some3 eown (by omega)
                  have EO := Lib.hid eown
                  have EG := Lib.hid egr
                  have ES := Lib.hid esr
                  clear eown egr esr ef ene
                  go_wp2
                  refine bodyPost_ret (v := .agg #[.slice (some ⟨g9, 0, none⟩) L.length c9]) (by simp [results, Try.results19, go_sem, cell_st_same _ ecr]) rfl ⟨_, L, rfl, HOK.out, (by intro e; subst e; simp at hL1), HLA.out, ?_, ?_, ?_, HAB.out, by omega⟩
                  · exact OwnRu.weak (OwnRu.kept EO.out (grownBy_set _ _ _) (.inr (by simp [Value.ownBlock]; omega))) (by omega)
                  · exact grown_new EG.out (grownBy_set _ _ _) (fun q e => by injection e with e; simp at e; omega)
                  · exact Src.more (Src.kept ES.out (grownBy_set _ _ _) (fun q e => by injection e with e; simp at e; omega)) (by omega)
                · have hsome : (lnT L2 L2.length).isSome = true := by rw [(gOk_some hok2).2.1]; rfl
                  have HOK2 := Lib.hid hok2
                  have HLN := Lib.hid (HLEN.out we hce HIE.out hsome)
                  clear HLEN hok2 hsome
                  go_wp2_with fail
                  refine HLN.out.mono ?_
                  rintro e wf ⟨rfl, hbf⟩
                  have HDF := Lib.hid (HDE.out.step hgs (grown_of_bel hbf) (Src.kept (row := none) HSE.out (grown_of_bel hbf) (fun r e => by cases e)))
                  have HSF := Lib.hid (Src.kept (row := none) HSE.out (grown_of_bel hbf) (fun r e => by cases e))
                  have HOF := Lib.hid (owns_after HOE.out hbf)
                  have hcf := cell_later hbf hce
                  clear hbf HDE HSE HOE hce HIE HLN
                  by_cases hbig : (m : Int) < lastI (gLn L2)
                  · clear HSF HOF hcf
                    obtain ⟨v9, ec, ef, ene, eown, egr, esr, esz, ecr, efr⟩ := HDF.out
                    obtain ⟨g9, c9, rfl, eg1, eg2⟩ := owns_some3 eown (by omega)
                    have EO := Lib.hid eown
                    have EG := Lib.hid egr
                    have ES := Lib.hid esr
                    clear eown egr esr ef ene
                    go_wp2
                    refine bodyPost_ret (v := .agg #[.slice (some ⟨g9, 0, none⟩) L.length c9]) (by simp [results, Try.results19, go_sem, cell_st_same _ ecr]) rfl ⟨_, L, rfl, HOK.out, (by intro e; subst e; simp at hL1), HLA.out, ?_, ?_, ?_, HAB.out, by omega⟩
                    · exact OwnRu.weak (OwnRu.kept EO.out (grownBy_set _ _ _) (.inr (by simp [Value.ownBlock]; omega))) (by omega)
                    · exact grown_new EG.out (grownBy_set _ _ _) (fun q e => by injection e with e; simp at e; omega)
                    · exact Src.more (Src.kept ES.out (grownBy_set _ _ _) (fun q e => by injection e with e; simp at e; omega)) (by omega)
                  · obtain ⟨v9, ec, ef, ene, eown, egr, esr, esz, ecr, efr⟩ := HDF.out
                    have EG := Lib.hid egr
                    have ES := Lib.hid esr
                    have HOG : Hid (OwnRu wf (w.heap.size + 2) (.slice (some ⟨gg, 0, none⟩) (L.length + 1) cc) L2) := by show OwnRu _ _ _ _; rw [← hlen2]; exact HOF.out
                    clear ene eown egr esr HDF HSF HOF
                    go_wp2
                    go_roundw
                    case rel => exact ⟨k - 1, L2, by congr 1; omega, by omega, by omega, by omega, HOK2.out, by omega, HAB2.out, drR_end hgs hlen2 ec ef hgne HOG.out EG.out (ES.out.more (by omega)) esz ecr efr⟩
                    case measure => simp [intOf]; omega
        · obtain rfl : k = 0 := by omega
          have HDZ := Lib.hid hD
          clear hD
          obtain ⟨v9, ec, ef, ene, eown, egr, esr, esz, ecr, efr⟩ := HDZ.out
          obtain ⟨g9, c9, rfl, eg1, eg2⟩ := owns_some3 eown (by omega)
          have EO := Lib.hid eown
          have EG := Lib.hid egr
          have ES := Lib.hid esr
          clear eown egr esr ef ene
          go_wp2
          refine bodyPost_ret (v := .agg #[.slice (some ⟨g9, 0, none⟩) L.length c9]) (by simp [results, Try.results19, go_sem, cell_st_same _ ecr]) rfl ⟨_, L, rfl, HOK.out, (by intro e; subst e; simp at hL1), HLA.out, ?_, ?_, ?_, HAB.out, by omega⟩
          · exact OwnRu.weak (OwnRu.kept EO.out (grownBy_set _ _ _) (.inr (by simp [Value.ownBlock]; omega))) (by omega)
          · exact grown_new EG.out (grownBy_set _ _ _) (fun q e => by injection e with e; simp at e; omega)
          · exact Src.more (Src.kept ES.out (grownBy_set _ _ _) (fun q e => by injection e with e; simp at e; omega)) (by omega)
theorem s_l02Drawn (gs B : Nat) (lc : List UInt8) (m : Nat) (w : World) (hm1 : 1 ≤ m) (hm : m ≤ 1000) (hB : B ≤ 100000) (hs : Src w gs lc B) :
    Calls Try.prog 19 #[.pointer (some ⟨gs, 0, none⟩), .int .i64 m] w fun e w' => ∃ v L, e = .returned (.agg #[v]) ∧ gOk L = true ∧ L ≠ [] ∧ lastI (gLn L) ≤ m ∧ OwnRu w' w.heap.size v L ∧ w.grownBy w' (some gs) ∧ Src w' gs lc (B + 200) := by
  refine (s_l02DrawnL gs B lc m w hm1 hm hB hs).mono ?_
  rintro e w' ⟨v, L, h1, h2, h3, h4, h5, h6, h7, -, -⟩
  exact ⟨v, L, h1, h2, h3, h4, h5, h6, h7⟩
end Go.Proofs.Ytoejelieogjjpaa

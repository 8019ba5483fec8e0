/- newWeave: tables of prints, the boxes of a round. -/
import Derived.Test.YtoejelieogjjpaaZD
import Derived.Test.YtoejelieogjjpaaUT
import Derived.Test.YtoejelieogjjpaaUR
import Derived.Test.YtoejelieogjjpaaY2
import Derived.Deep.AppendLies
namespace Go.Proofs.Ytoejelieogjjpaa
open Go.ChangeShapes Go.WideShapes Go.RowKit
set_option linter.unusedVariables false
set_option linter.unusedSimpArgs false
set_option maxHeartbeats 4000000
set_option maxRecDepth 100000
theorem i_timesE (a b c d x y : Nat) (ha : a < fP) (hb : b < fP) (hc : c < fP) (hd : d < fP) (hx : x = a * c % fP) (hy : y = b * d % fP) (w : World) :
    Calls Try.prog 39 #[pv a b, pv c d] w fun e w' => e = .returned (pv x y) ∧ Below w.heap.size w w' := by
  subst hx hy; exact i_times a b c d ha hb hc hd w
theorem i_plusE (a b c d x y : Nat) (ha : a < fP) (hb : b < fP) (hc : c < fP) (hd : d < fP) (hx : x = (a + c) % fP) (hy : y = (b + d) % fP) (w : World) :
    Calls Try.prog 40 #[pv a b, pv c d] w fun e w' => e = .returned (pv x y) ∧ Below w.heap.size w w' := by
  subst hx hy; exact i_plus a b c d ha hb hc hd w
theorem let_oneC {p : ByteArray} (h1 : p.size = 1) : ∃ c : UInt8, p.data.toList = [c] := by
  have hl : p.data.toList.length = 1 := by rw [Array.length_toList]; exact h1
  exact List.length_eq_one_iff.1 hl
theorem info_prt : (Try.prog.info? 74).map (fun i => (i.zero, i.size, i.bytes)) = some (some (.agg #[.int .u64 0, .int .u64 0]), 2, 16) := by kernel_rfl
/-- the cells of a table of prints -/
def ptV (f g : Nat → Nat) : Nat → List Value
  | 0 => []
  | k + 1 => ptV f g k ++ [.int .u64 (f k : Nat), .int .u64 (g k : Nat)]
theorem ptV_len (f g : Nat → Nat) : ∀ k, (ptV f g k).length = k * 2
  | 0 => rfl
  | k + 1 => by rw [ptV, List.length_append, ptV_len f g k]; simp; omega
theorem ptV_at (f g : Nat → Nat) : ∀ (n k : Nat), k < n → (ptV f g n)[k * 2]? = some (.int .u64 (f k : Nat)) ∧ (ptV f g n)[k * 2 + 1]? = some (.int .u64 (g k : Nat))
  | 0, _, h => by omega
  | n + 1, k, h => by
    have hl := ptV_len f g n
    by_cases he : k = n
    · subst he
      rw [ptV, List.getElem?_append_right (by omega), List.getElem?_append_right (by omega), hl, Nat.sub_self, show k * 2 + 1 - k * 2 = 1 by omega]
      exact ⟨rfl, rfl⟩
    · obtain ⟨h1, h2⟩ := ptV_at f g n k (by omega)
      rw [ptV, List.getElem?_append_left (by omega), List.getElem?_append_left (by omega)]
      exact ⟨h1, h2⟩
def mkV (l : List Ru) (k : Nat) : List Value := ptV (fun j => evN bA (rwd l j)) (fun j => evN bB (rwd l j)) k
def stV (l : List Ru) (k : Nat) : List Value := ptV (fun j => poN bA (rwd l j).length) (fun j => poN bB (rwd l j).length) k
/-- a grammar with its prints, in a block of the call's own -/
def WvR (base : Nat) (X : World) (bw : Nat) (l : List Ru) (vg : Value) : Prop :=
  ∃ gl cl gm cm gs cs, X.cell? ⟨bw, 0, none⟩ = some vg ∧ X.cell? ⟨bw, 1, none⟩ = some (.slice (some ⟨gl, 0, none⟩) l.length cl) ∧ X.cell? ⟨bw, 2, none⟩ = some (.slice (some ⟨gm, 0, none⟩) l.length cm) ∧ X.cell? ⟨bw, 3, none⟩ = some (.slice (some ⟨gs, 0, none⟩) l.length cs) ∧
    InRu X vg l ∧ X.ownsRow base 2 1 (.slice (some ⟨gl, 0, none⟩) l.length cl) l.length ((gLn l).map (Value.int .i64)) ∧
    X.ownsRow base 74 2 (.slice (some ⟨gm, 0, none⟩) l.length cm) l.length (mkV l l.length) ∧ X.ownsRow base 74 2 (.slice (some ⟨gs, 0, none⟩) l.length cs) l.length (stV l l.length)
theorem WvR.bel {base bw : Nat} {X Y : World} {l : List Ru} {vg : Value} (h : WvR base X bw l vg) (hb : Below X.heap.size X Y) : WvR base Y bw l vg := by
  obtain ⟨gl, cl, gm, cm, gs, cs, h0, h1, h2, h3, h4, h5, h6, h7⟩ := h
  exact ⟨gl, cl, gm, cm, gs, cs, cell_later hb h0, cell_later hb h1, cell_later hb h2, cell_later hb h3, inRu_below h4 hb, owns_after h5 hb, owns_after h6 hb, owns_after h7 hb⟩
/-- what stands while the prints are reckoned -/
def NwR (w : World) (bw gl cl : Nat) (l : List Ru) (vg : Value) (k : Nat) (vm vs : Value) (X : World) : Prop :=
  X.cell? ⟨bw, 0, none⟩ = some vg ∧ X.cell? ⟨bw, 1, none⟩ = some (.slice (some ⟨gl, 0, none⟩) l.length cl) ∧ X.cell? ⟨bw, 2, none⟩ = some vm ∧ X.cell? ⟨bw, 3, none⟩ = some vs ∧ X.frozen? ⟨bw, 2, none⟩ = false ∧ X.frozen? ⟨bw, 3, none⟩ = false ∧
    X.ownsRow (w.heap.size + 1) 2 1 (.slice (some ⟨gl, 0, none⟩) l.length cl) l.length ((gLn l).map (Value.int .i64)) ∧
    X.ownsRow (bw + 1) 74 2 vm k (mkV l k) ∧ X.ownsRow (bw + 1) 74 2 vs k (stV l k) ∧ Apart2 vm vs ∧ Below w.heap.size w X ∧ w.heap.size < bw ∧ bw < X.heap.size ∧ gl < bw
theorem NwR.bel {w X Y : World} {bw gl cl k : Nat} {l : List Ru} {vg vm vs : Value} (h : NwR w bw gl cl l vg k vm vs X) (hb : Below X.heap.size X Y) : NwR w bw gl cl l vg k vm vs Y := by
  obtain ⟨h0, h1, h2, h3, f2, f3, h4, h5, h6, h7, h8, h9, h10, h11⟩ := h
  have hz := hb.size
  refine ⟨cell_later hb h0, cell_later hb h1, cell_later hb h2, cell_later hb h3, ?_, ?_, owns_after h4 hb, owns_after h5 hb, owns_after h6 hb, h7, h8.trans (hb.mono h8.size), h9, by omega, h11⟩
  · rw [hb.frozen (by simpa using h10)]; exact f2
  · rw [hb.frozen (by simpa using h10)]; exact f3
theorem Apart2.nil (v : Value) : Apart2 (.slice none 0 0) v := .inl rfl
theorem owns_slP {w : World} {base e n size : Nat} {v : Value} {xs : List Value} (h : w.ownsRow base e size v n xs) : ∃ a cap, v = .slice a n cap ∧ (n ≠ 0 → ∃ g, a = some ⟨g, 0, none⟩) ∧ True := by
  rcases owns_cases3 h with ⟨rfl, h0, -⟩ | ⟨g, cap, rfl, -⟩
  · exact ⟨none, 0, by rw [h0], fun h => absurd h0 h, trivial⟩
  · exact ⟨_, _, rfl, fun _ => ⟨g, rfl⟩, trivial⟩
theorem own_prt {w : World} {base g n cap : Nat} {f h : Nat → Nat} (ho : w.ownsRow base 74 2 (.slice (some ⟨g, 0, none⟩) n cap) n (ptV f h n)) {k : Nat} (hk : k < n) : w.cell? ⟨g, k * 2, none⟩ = some (.int .u64 (f k : Nat)) ∧ w.cell? ⟨g, k * 2 + 1, none⟩ = some (.int .u64 (h k : Nat)) := by
  obtain ⟨h1, h2⟩ := ptV_at f h n k hk
  rw [ho.cellAt (k * 2) (by omega), ho.cellAt (k * 2 + 1) (by omega)]
  exact ⟨h1, h2⟩
/-- the boxes of a round -/
def BxR (b8 b9 : Nat) (p : ByteArray) (x y : Int) (m0 m1 q0 q1 : Nat) (Y : World) : Prop :=
  Y.cell? ⟨b8, 0, none⟩ = some (.string p) ∧ Y.cell? ⟨b8, 1, none⟩ = some (.int .i64 x) ∧ Y.cell? ⟨b8, 2, none⟩ = some (.int .i64 y) ∧ Y.cell? ⟨b9, 0, none⟩ = some (.int .u64 m0) ∧ Y.cell? ⟨b9, 1, none⟩ = some (.int .u64 m1) ∧ Y.cell? ⟨b9 + 1, 0, none⟩ = some (.int .u64 q0) ∧ Y.cell? ⟨b9 + 1, 1, none⟩ = some (.int .u64 q1) ∧
  Y.frozen? ⟨b9, 0, none⟩ = false ∧ Y.frozen? ⟨b9, 1, none⟩ = false ∧ Y.frozen? ⟨b9 + 1, 0, none⟩ = false ∧ Y.frozen? ⟨b9 + 1, 1, none⟩ = false ∧ b9 + 1 < Y.heap.size
theorem BxR.bel {b8 b9 : Nat} {p : ByteArray} {x y : Int} {m0 m1 q0 q1 : Nat} {Y Z : World} (h : BxR b8 b9 p x y m0 m1 q0 q1 Y) (hb : Below Y.heap.size Y Z) : BxR b8 b9 p x y m0 m1 q0 q1 Z := by
  obtain ⟨h0, h1, h2, h3, h4, h5, h6, f3, f4, f5, f6, h7⟩ := h
  have hz := hb.size
  refine ⟨cell_later hb h0, cell_later hb h1, cell_later hb h2, cell_later hb h3, cell_later hb h4, cell_later hb h5, cell_later hb h6, ?_, ?_, ?_, ?_, by omega⟩
  · rw [hb.frozen (by simp; omega)]; exact f3
  · rw [hb.frozen (by simp; omega)]; exact f4
  · rw [hb.frozen (by simp; omega)]; exact f5
  · rw [hb.frozen (by simp; omega)]; exact f6
theorem st_ne {w : World} {a b : Addr} (v : Value) (h : a ≠ b) : (w.setCell a v).cell? b = w.cell? b := by rw [World.cell?_setCell_other (h := h)]
theorem BxR.set9 {b8 b9 : Nat} {p : ByteArray} {x y : Int} {m0 m1 q0 q1 : Nat} {Y : World} (h : BxR b8 b9 p x y m0 m1 q0 q1 Y) (hb : b8 < b9) (r1 r2 : Nat) : BxR b8 b9 p x y r1 r2 q0 q1 ((Y.setCell ⟨b9, 0, none⟩ (.int .u64 r1)).setCell ⟨b9, 1, none⟩ (.int .u64 r2)) := by
  obtain ⟨h0, h1, h2, h3, h4, h5, h6, f3, f4, f5, f6, h7⟩ := h
  have e : ∀ (u : Nat) (o : Nat), u ≠ b9 → ((Y.setCell ⟨b9, 0, none⟩ (.int .u64 r1)).setCell ⟨b9, 1, none⟩ (.int .u64 r2)).cell? ⟨u, o, none⟩ = Y.cell? ⟨u, o, none⟩ := fun u o hu => by
    rw [cell_st_ne _ (by simpa using fun e => hu e.symm), cell_st_ne _ (by simpa using fun e => hu e.symm)]
  refine ⟨by rw [e _ _ (by omega)]; exact h0, by rw [e _ _ (by omega)]; exact h1, by rw [e _ _ (by omega)]; exact h2, ?_, ?_, by rw [e _ _ (by omega)]; exact h5, by rw [e _ _ (by omega)]; exact h6, by simpa using f3, by simpa using f4, by simpa using f5, by simpa using f6, by simpa using h7⟩
  · rw [st_ne _ (by intro h; injection h with _ h _; cases h)]; exact cell_st_same _ h3
  · exact cell_st_same _ (by rw [st_ne _ (by intro h; injection h with _ h _; cases h)]; exact h4)
theorem BxR.set10 {b8 b9 : Nat} {p : ByteArray} {x y : Int} {m0 m1 q0 q1 : Nat} {Y : World} (h : BxR b8 b9 p x y m0 m1 q0 q1 Y) (hb : b8 < b9) (r1 r2 : Nat) : BxR b8 b9 p x y m0 m1 r1 r2 ((Y.setCell ⟨b9 + 1, 0, none⟩ (.int .u64 r1)).setCell ⟨b9 + 1, 1, none⟩ (.int .u64 r2)) := by
  obtain ⟨h0, h1, h2, h3, h4, h5, h6, f3, f4, f5, f6, h7⟩ := h
  have e : ∀ (u : Nat) (o : Nat), u ≠ b9 + 1 → ((Y.setCell ⟨b9 + 1, 0, none⟩ (.int .u64 r1)).setCell ⟨b9 + 1, 1, none⟩ (.int .u64 r2)).cell? ⟨u, o, none⟩ = Y.cell? ⟨u, o, none⟩ := fun u o hu => by
    rw [cell_st_ne _ (by simpa using fun e => hu e.symm), cell_st_ne _ (by simpa using fun e => hu e.symm)]
  refine ⟨by rw [e _ _ (by omega)]; exact h0, by rw [e _ _ (by omega)]; exact h1, by rw [e _ _ (by omega)]; exact h2, by rw [e _ _ (by omega)]; exact h3, by rw [e _ _ (by omega)]; exact h4, ?_, ?_, by simpa using f3, by simpa using f4, by simpa using f5, by simpa using f6, by simpa using h7⟩
  · rw [st_ne _ (by intro h; injection h with _ h _; cases h)]; exact cell_st_same _ h5
  · exact cell_st_same _ (by rw [st_ne _ (by intro h; injection h with _ h _; cases h)]; exact h6)
theorem BxR.dr {b8 b9 : Nat} {p : ByteArray} {x y : Int} {m0 m1 q0 q1 : Nat} {Y : World} (h : BxR b8 b9 p x y m0 m1 q0 q1 Y) : BxR b8 b9 p x y m0 m1 q0 q1 Y.drew := h.bel (Below.drew (Below.refl _ _))
theorem step_app_prt {ops : Array Oper} {o : Oper} {a : Act} {K : Act → World → Prop} {Q : Exit → Act → World → Prop} {E : Prop} (hgd : o.guard = none) (s x : Operand)
    (ho : o.op = .call { callee := .builtin .append, args := #[s, x], argTypes := #[70, 70] })
    (base : Nat) (w : World) (v : Value) (n : Nat) (xs : List Value) (hs : a.eval s = v) (hown : w.ownsRow base 74 2 v n xs)
    (B : Nat) (hx : a.eval x = .slice (some ⟨B, 0, none⟩) 1 1) (a1 a2 : Nat) (hc0 : w.cell? ⟨B, 0, none⟩ = some (.int .u64 a1)) (hc1 : w.cell? ⟨B, 1, none⟩ = some (.int .u64 a2)) (hn : n ≤ 1048576) (hbase : base ≤ w.heap.size)
    (h : ∀ g cap w', w'.ownsRow base 74 2 (.slice (some ⟨g, 0, none⟩) (n + 1) cap) (n + 1) (xs ++ [.int .u64 a1, .int .u64 a2]) → w.grownBy w' v.ownBlock → (v.ownBlock = some g ∨ g = w.heap.size) → K (a.put o.dst (.slice (some ⟨g, 0, none⟩) (n + 1) cap)) w') :
    if Region.wanted o (yielded ops a.tmps) = true then Oper.wp Try.prog o a w K Q else E := by
  obtain ⟨i0, hi, hz0, hz1, hz2⟩ := info_parts info_prt
  refine step_append_lies w hgd s x 70 ho base 74 i0 (.agg #[.int .u64 0, .int .u64 0]) 2 16 Try.underlying70 hi hz0 hz1 hz2 rfl (by decide) v n xs hs hown ⟨B, 0, none⟩ 1 1 [.int .u64 a1, .int .u64 a2] hx rfl ?_ (fun u hu => by simp at hu; rcases hu with rfl | rfl <;> rfl) (by decide) ?_ ?_ hbase _ rfl ?_
  · intro j u hj
    have : (⟨B, 0, none⟩ : Addr).add j = ⟨B, j, none⟩ := by unfold Addr.add; split <;> simp_all
    rw [this]
    match j, hj with
    | 0, hj => simp at hj; subst hj; exact hc0
    | 1, hj => simp at hj; subst hj; exact hc1
    | j + 2, hj => simp at hj
  · unfold maxLen; omega
  · omega
  · intro g cap w1 ho1 hg hor hl1
    refine h g cap w1 ho1 hg ?_
    rcases hor with e | e
    · exact .inl e
    · exact .inr e
/-- behind the first append -/
def NwH (w : World) (bw gl cl : Nat) (l : List Ru) (vg : Value) (k : Nat) (vm vs vm2 vs2 : Value) (k1 k2 : Nat) (X : World) : Prop :=
  X.cell? ⟨bw, 0, none⟩ = some vg ∧ X.cell? ⟨bw, 1, none⟩ = some (.slice (some ⟨gl, 0, none⟩) l.length cl) ∧ X.cell? ⟨bw, 2, none⟩ = some vm ∧ X.cell? ⟨bw, 3, none⟩ = some vs ∧ X.frozen? ⟨bw, 2, none⟩ = false ∧ X.frozen? ⟨bw, 3, none⟩ = false ∧
    X.ownsRow (w.heap.size + 1) 2 1 (.slice (some ⟨gl, 0, none⟩) l.length cl) l.length ((gLn l).map (Value.int .i64)) ∧
    X.ownsRow (bw + 1) 74 2 vm2 k1 (mkV l k1) ∧ X.ownsRow (bw + 1) 74 2 vs2 k2 (stV l k2) ∧ Apart2 vm2 vs2 ∧ Below w.heap.size w X ∧ w.heap.size < bw ∧ bw < X.heap.size ∧ gl < bw
theorem NwH.bel {w X Y : World} {bw gl cl k k1 k2 : Nat} {l : List Ru} {vg vm vs vm2 vs2 : Value} (h : NwH w bw gl cl l vg k vm vs vm2 vs2 k1 k2 X) (hb : Below X.heap.size X Y) : NwH w bw gl cl l vg k vm vs vm2 vs2 k1 k2 Y := by
  obtain ⟨h0, h1, h2, h3, f2, f3, h4, h5, h6, h7, h8, h9, h10, h11⟩ := h
  have hz := hb.size
  refine ⟨cell_later hb h0, cell_later hb h1, cell_later hb h2, cell_later hb h3, ?_, ?_, owns_after h4 hb, owns_after h5 hb, owns_after h6 hb, h7, h8.trans (hb.mono h8.size), h9, by omega, h11⟩
  · rw [hb.frozen (by simpa using h10)]; exact f2
  · rw [hb.frozen (by simpa using h10)]; exact f3
theorem NwR.half {w X : World} {bw gl cl k : Nat} {l : List Ru} {vg vm vs : Value} (h : NwR w bw gl cl l vg k vm vs X) : NwH w bw gl cl l vg k vm vs vm vs k k X := h
theorem NwH.grow {w X Z : World} {bw gl cl k k1 k2 k3 k4 : Nat} {l : List Ru} {vg vm vs vm2 vs2 vm3 vs3 : Value} {r : Option Nat} (h : NwH w bw gl cl l vg k vm vs vm2 vs2 k1 k2 X) (hg : X.grownBy Z r) (hr : ∀ q, r = some q → bw + 1 ≤ q)
    (h5 : Z.ownsRow (bw + 1) 74 2 vm3 k3 (mkV l k3)) (h6 : Z.ownsRow (bw + 1) 74 2 vs3 k4 (stV l k4)) (h7 : Apart2 vm3 vs3) : NwH w bw gl cl l vg k vm vs vm3 vs3 k3 k4 Z := by
  obtain ⟨h0, h1, h2, h3, f2, f3, h4, -, -, -, h8, h9, h10, h11⟩ := h
  have hz := hg.size
  have hne : some bw ≠ r := fun e => by have := hr _ e.symm; omega
  have hgl : some gl ≠ r := fun e => by have := hr _ e.symm; omega
  refine ⟨?_, ?_, ?_, ?_, ?_, ?_, World.ownsRow.kept h4 hg (.inr (fun e => hgl e)), h5, h6, h7, h8.grown hg h8.size (fun q e => by have := hr q e; omega), h9, by omega, h11⟩
  · rw [hg.cell_far _ h10 hne]; exact h0
  · rw [hg.cell_far _ h10 hne]; exact h1
  · rw [hg.cell_far _ h10 hne]; exact h2
  · rw [hg.cell_far _ h10 hne]; exact h3
  · rw [hg.frozen_far _ h10 hne]; exact f2
  · rw [hg.frozen_far _ h10 hne]; exact f3
theorem own_blk {w : World} {base e size n : Nat} {v : Value} {xs : List Value} (h : w.ownsRow base e size v n xs) : ∀ q, v.ownBlock = some q → base ≤ q ∧ q < w.heap.size := fun q e => h.lt q e
/-- the append to the marks -/
theorem NwH.app1 {w X Z : World} {bw gl cl k g cap : Nat} {l : List Ru} {vg vm vs vs2 : Value} {k2 : Nat} (h : NwH w bw gl cl l vg k vm vs vm vs2 k k2 X) (hg : X.grownBy Z vm.ownBlock) (hor : vm.ownBlock = some g ∨ g = X.heap.size) (ho : Z.ownsRow (bw + 1) 74 2 (.slice (some ⟨g, 0, none⟩) (k + 1) cap) (k + 1) (mkV l (k + 1))) :
    NwH w bw gl cl l vg k vm vs (.slice (some ⟨g, 0, none⟩) (k + 1) cap) vs2 (k + 1) k2 Z := by
  have h0 := h
  obtain ⟨-, -, -, -, -, -, -, h5, h6, h7, -, -, h10, -⟩ := h0
  have hap : vs2.ownBlock = none ∨ vs2.ownBlock ≠ vm.ownBlock := by
    rcases h7 with e | e
    · rw [e]
      cases hv : vs2.ownBlock with
      | none => exact .inl rfl
      | some q => exact .inr (by simp)
    · exact .inr (fun e2 => e e2.symm)
  refine h.grow hg (fun q e => (own_blk h5 q e).1) ho (World.ownsRow.kept h6 hg hap) ?_
  refine .inr (fun e => ?_)
  have e : some g = vs2.ownBlock := e
  have hq := own_blk h6 g e.symm
  rcases hor with e2 | e2
  · rcases hap with e3 | e3
    · rw [e3] at e; cases e
    · exact e3 (by rw [← e, e2])
  · omega
/-- the append to the steps -/
theorem NwH.app2 {w X Z : World} {bw gl cl k g cap : Nat} {l : List Ru} {vg vm vs vm2 : Value} {k1 : Nat} (h : NwH w bw gl cl l vg k vm vs vm2 vs k1 k X) (hg : X.grownBy Z vs.ownBlock) (hor : vs.ownBlock = some g ∨ g = X.heap.size) (ho : Z.ownsRow (bw + 1) 74 2 (.slice (some ⟨g, 0, none⟩) (k + 1) cap) (k + 1) (stV l (k + 1))) :
    NwH w bw gl cl l vg k vm vs vm2 (.slice (some ⟨g, 0, none⟩) (k + 1) cap) k1 (k + 1) Z := by
  have h0 := h
  obtain ⟨-, -, -, -, -, -, -, h5, h6, h7, -, -, h10, -⟩ := h0
  refine h.grow hg (fun q e => (own_blk h6 q e).1) (World.ownsRow.kept h5 hg h7) ho ?_
  cases hv : vm2.ownBlock with
  | none => exact .inl hv
  | some q =>
    refine .inr (fun e => ?_)
    have e : vm2.ownBlock = some g := e
    have hq := own_blk h5 g e
    rcases hor with e2 | e2
    · rcases h7 with e3 | e3
      · rw [e3] at e; cases e
      · exact e3 (by rw [e, e2])
    · omega
/-- the two stores -/
theorem NwH.fin {w Z : World} {bw gl cl k : Nat} {l : List Ru} {vg vm vs vm2 vs2 : Value} {k1 : Nat} (h : NwH w bw gl cl l vg k vm vs vm2 vs2 k1 k1 Z) : NwR w bw gl cl l vg k1 vm2 vs2 ((Z.setCell ⟨bw, 2, none⟩ vm2).setCell ⟨bw, 3, none⟩ vs2) := by
  obtain ⟨h0, h1, h2, h3, f2, f3, h4, h5, h6, h7, h8, h9, h10, h11⟩ := h
  have hk : ∀ v : Value, (∀ q, v.ownBlock = some q → bw + 1 ≤ q) → v.ownBlock = none ∨ v.ownBlock ≠ some bw := fun v hv => by
    cases he : v.ownBlock with
    | none => exact .inl rfl
    | some q => exact .inr (fun e => by injection e with e; have := hv q he; omega)
  have gs : ∀ (Y : World) (j : Nat) (u : Value), Y.grownBy (Y.setCell ⟨bw, j, none⟩ u) (some bw) := fun Y j u => ⟨rfl, rfl, rfl, ((Below.refl 0 Y).setCell (Nat.zero_le _) _).size, fun k _ hk => Below.heap_setCell _ _ _ k (fun e => hk (by rw [e]))⟩
  have keep : ∀ {base e size n : Nat} {v : Value} {xs : List Value}, Z.ownsRow base e size v n xs → (v.ownBlock = none ∨ v.ownBlock ≠ some bw) → ((Z.setCell ⟨bw, 2, none⟩ vm2).setCell ⟨bw, 3, none⟩ vs2).ownsRow base e size v n xs := fun hh hn => World.ownsRow.kept (World.ownsRow.kept hh (gs _ _ _) hn) (gs _ _ _) hn
  refine ⟨?_, ?_, ?_, ?_, by simpa using f2, by simpa using f3, keep h4 (.inr (fun e => by have e : some gl = some bw := e; injection e with e; omega)), keep h5 (hk _ fun q e => (own_blk h5 q e).1), keep h6 (hk _ fun q e => (own_blk h6 q e).1), h7, (h8.setCell (p := ⟨bw, 2, none⟩) (Nat.le_of_lt h9) _).setCell (p := ⟨bw, 3, none⟩) (Nat.le_of_lt h9) _, h9, by simpa using h10, h11⟩
  · rw [st_ne _ (by intro h; injection h with _ h _; cases h), st_ne _ (by intro h; injection h with _ h _; cases h)]; exact h0
  · rw [st_ne _ (by intro h; injection h with _ h _; cases h), st_ne _ (by intro h; injection h with _ h _; cases h)]; exact h1
  · rw [st_ne _ (by intro h; injection h with _ h _; cases h)]; exact cell_st_same _ h2
  · exact cell_st_same _ (by rw [st_ne _ (by intro h; injection h with _ h _; cases h)]; exact h3)
theorem wpAnyL_gen {P : Program} {md : Region.Mode} {ops : Array Oper} {Q : Exit → Act → World → Prop} {S : World → Prop} {T : List Nat} {fuel : Nat} {listed : Array Bool} {a : Act} {w : World} (F : World → Prop) (h : F w) (k : ∀ w, F w → wpAnyL P md ops Q S T fuel listed a w) : wpAnyL P md ops Q S T fuel listed a w := k w h
/-- an element that has been laid -/
def ElP (b8 B a b : Nat) (X : World) : Prop := X.cell? ⟨B, 0, none⟩ = some (.int .u64 a) ∧ X.cell? ⟨B, 1, none⟩ = some (.int .u64 b) ∧ b8 ≤ B
theorem ElP.bel {b8 B a b : Nat} {X Y : World} (h : ElP b8 B a b X) (hb : Below X.heap.size X Y) : ElP b8 B a b Y := ⟨cell_later hb h.1, cell_later hb h.2.1, h.2.2⟩
theorem ElP.grow {b8 B a b : Nat} {X Z : World} {r : Option Nat} (h : ElP b8 B a b X) (hg : X.grownBy Z r) (hr : ∀ q, r = some q → q < b8) : ElP b8 B a b Z := by
  obtain ⟨h1, h2, h3⟩ := h
  have hB := World.block_lt_of_cell? _ _ h1
  have hne : some B ≠ r := fun e => by have := hr _ e.symm; omega
  exact ⟨(hg.cell_far ⟨B, 0, none⟩ hB hne).trans h1, (hg.cell_far ⟨B, 1, none⟩ hB hne).trans h2, h3⟩
theorem el_new (X : World) (b8 a b : Nat) (h : b8 ≤ X.heap.size) : ElP b8 X.heap.size a b (X.alloc (.cells #[.int .u64 a, .int .u64 b] 74)) := ⟨by simp [go_sem], by simp [go_sem], h⟩
theorem BxR.lo {b8 b9 : Nat} {p : ByteArray} {x y : Int} {m0 m1 q0 q1 : Nat} {Y : World} (h : BxR b8 b9 p x y m0 m1 q0 q1 Y) (hb : b8 < b9) : b8 ≤ Y.heap.size := by
  obtain ⟨-, -, -, -, -, -, -, -, -, -, -, h7⟩ := h
  omega
theorem BxR.grow {b8 b9 : Nat} {p : ByteArray} {x y : Int} {m0 m1 q0 q1 : Nat} {Y Z : World} {r : Option Nat} (h : BxR b8 b9 p x y m0 m1 q0 q1 Y) (hb : b8 < b9) (hg : Y.grownBy Z r) (hr : ∀ q, r = some q → q < b8) : BxR b8 b9 p x y m0 m1 q0 q1 Z := by
  obtain ⟨h0, h1, h2, h3, h4, h5, h6, f3, f4, f5, f6, h7⟩ := h
  have hz := hg.size
  have n8 : some b8 ≠ r := fun e => by have := hr _ e.symm; omega
  have n9 : some b9 ≠ r := fun e => by have := hr _ e.symm; omega
  have n10 : some (b9 + 1) ≠ r := fun e => by have := hr _ e.symm; omega
  refine ⟨?_, ?_, ?_, ?_, ?_, ?_, ?_, ?_, ?_, ?_, ?_, by omega⟩
  · rw [hg.cell_far _ (by simp; omega) n8]; exact h0
  · rw [hg.cell_far _ (by simp; omega) n8]; exact h1
  · rw [hg.cell_far _ (by simp; omega) n8]; exact h2
  · rw [hg.cell_far _ (by simp; omega) n9]; exact h3
  · rw [hg.cell_far _ (by simp; omega) n9]; exact h4
  · rw [hg.cell_far _ (by simp; omega) n10]; exact h5
  · rw [hg.cell_far _ (by simp; omega) n10]; exact h6
  · rw [hg.frozen_far _ (by simp; omega) n9]; exact f3
  · rw [hg.frozen_far _ (by simp; omega) n9]; exact f4
  · rw [hg.frozen_far _ (by simp; omega) n10]; exact f5
  · rw [hg.frozen_far _ (by simp; omega) n10]; exact f6
theorem s6_of {w X : World} {bw gl cl k k1 k2 : Nat} {l : List Ru} {vg vm vs vm2 vs2 : Value} {b8 b9 : Nat} {p : ByteArray} {x y : Int} {m1 m2 s1 s2 : Nat} (h : NwH w bw gl cl l vg k vm vs vm2 vs2 k1 k2 X) (hx : BxR b8 b9 p x y m1 m2 s1 s2 X) :
    X.cell? ⟨bw, 2, none⟩ = some vm ∧ X.cell? ⟨bw, 3, none⟩ = some vs ∧ X.cell? ⟨b9, 0, none⟩ = some (.int .u64 m1) ∧ X.cell? ⟨b9, 1, none⟩ = some (.int .u64 m2) ∧ X.cell? ⟨b9 + 1, 0, none⟩ = some (.int .u64 s1) ∧ X.cell? ⟨b9 + 1, 1, none⟩ = some (.int .u64 s2) :=
  ⟨h.2.2.1, h.2.2.2.1, hx.2.2.2.1, hx.2.2.2.2.1, hx.2.2.2.2.2.1, hx.2.2.2.2.2.2.1⟩
end Go.Proofs.Ytoejelieogjjpaa

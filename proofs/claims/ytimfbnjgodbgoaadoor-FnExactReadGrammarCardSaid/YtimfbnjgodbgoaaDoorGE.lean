/- What a part of a word's rules calls: frames, the cover of a part; the walk of 'pieces' for whatever function is called. -/
import Derived.Test.YtimfbnjgodbgoaaDoorY2
import Derived.StillTactics
import Derived.RegionCalls
import Derived.FnLit
namespace Go.Proofs.YtimfbnjgodbgoaaDoor
open Go.ChangeShapes Go.WideShapes Go.RowKit
set_option linter.unusedVariables false
set_option linter.unusedSimpArgs false
set_option maxHeartbeats 2000000
set_option maxRecDepth 100000
/-- w' is as w, but for blocks that may be written, and new ones -/
structure Fr (mod : World → Nat → Prop) (w w' : World) : Prop where
  os : w'.os = w.os
  tape : w'.tape = w.tape
  output : w'.output = w.output
  size : w.heap.size ≤ w'.heap.size
  block : ∀ k, k < w.heap.size → ¬ mod w k → w'.heap[k]? = w.heap[k]?
  new : ∀ k, k < w.heap.size → mod w' k → mod w k
theorem Fr.refl (mod : World → Nat → Prop) (w : World) : Fr mod w w := ⟨rfl, rfl, rfl, Nat.le_refl _, fun _ _ _ => rfl, fun _ _ h => h⟩
theorem Fr.trans {mod : World → Nat → Prop} {a b c : World} (h : Fr mod a b) (k : Fr mod b c) : Fr mod a c :=
  ⟨k.os.trans h.os, k.tape.trans h.tape, k.output.trans h.output, Nat.le_trans h.size k.size, fun i hi hm => (k.block i (by have := h.size; omega) (fun e => hm (h.new i hi e))).trans (h.block i hi hm), fun i hi hm => h.new i hi (k.new i (by have := h.size; omega) hm)⟩
theorem Fr.cell {mod : World → Nat → Prop} {w w' : World} (h : Fr mod w w') {b o : Nat} {v : Value} (hc : w.cell? ⟨b, o, none⟩ = some v) (hm : ¬ mod w b) : w'.cell? ⟨b, o, none⟩ = some v := by
  have hb := World.block_lt_of_cell? _ _ hc
  have := h.block b hb hm
  rw [← hc]
  unfold World.cell?
  rw [this]
theorem Fr.below {mod : World → Nat → Prop} {w w' : World} {B : Nat} (h : Fr mod w w') (hB : B ≤ w.heap.size) (hm : ∀ k, k < B → ¬ mod w k) : Below B w w' :=
  ⟨h.os, h.tape, h.output, h.size, fun k hk => h.block k (by omega) (hm k hk)⟩
/-- the rules that a part calls, from left to right -/
theorem Fr.alloc {mod : World → Nat → Prop} {w : World} {o : Obj} (h : ∀ k, mod (w.alloc o) k → mod w k) : Fr mod w (w.alloc o) := ⟨rfl, rfl, rfl, by simp, fun k hk _ => Below.heap_alloc _ _ _ hk, fun k _ hm => h k hm⟩
theorem Fr.drew {mod : World → Nat → Prop} {w : World} (h : ∀ k, mod w.drew k → mod w k) : Fr mod w w.drew := ⟨rfl, rfl, rfl, Nat.le_refl _, fun k hk _ => rfl, fun k _ hm => h k hm⟩
theorem Fr.not {mod : World → Nat → Prop} {w w' : World} (h : Fr mod w w') {b : Nat} (hb : b < w.heap.size) (hm : ¬ mod w b) : ¬ mod w' b := fun e => hm (h.new b hb e)
end Go.Proofs.YtimfbnjgodbgoaaDoor

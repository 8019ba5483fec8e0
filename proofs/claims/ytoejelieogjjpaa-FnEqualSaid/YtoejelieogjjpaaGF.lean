/- strings.Builder in this program: copyCheck, WriteString, with a frame. -/
import Derived.Test.YtoejelieogjjpaaGE
import Derived.Test.YtoejelieogjjpaaShelf
namespace Go.Proofs.Ytoejelieogjjpaa
open Go.ChangeShapes Go.WideShapes Go.RowKit
set_option linter.unusedVariables false
set_option linter.unusedSimpArgs false
set_option maxHeartbeats 2000000
set_option maxRecDepth 100000
def bMod (B b : Nat) (w : World) (k : Nat) : Prop := k = b ∨ (B ≤ k ∧ ∃ cs fr, w.heap[k]? = some (.cells cs 5 fr))
theorem i_copyCheck (B b : Nat) (bs : List Value) (w : World) (h : Lib.IsBuilder 111 5 B b bs w) :
    Calls Try.prog 78 #[.pointer (some ⟨b, 0, none⟩)] w fun e w' => e = .returned (.tuple #[]) ∧ Lib.BuilderAt 111 5 B b (.pointer (some ⟨b, 0, none⟩)) bs w' ∧ (w' = w ∨ w' = w.setCell ⟨b, 0, none⟩ (.pointer (some ⟨b, 0, none⟩))) := by
  obtain ⟨j, hj, hjs⟩ := Option.map_eq_some_iff.1 (Try.Builder_Extra_169.sizeBuilder : (Try.prog.info? 111).map (·.size) = some 2)
  have hlies : liesAt Try.prog Try.prog.depth 111 (2 / Try.prog.cellsOf 111) 0 111 1 = true := Try.Builder_Extra_169.liesBuilder
  have u70 := Try.underlying109
  have u164 := Try.underlying118
  rcases h with h | h
  · have hsh := h.shape
    have h0 := h.cell0
    have hfz := h.frozen0
    have HU := Lib.hid h
    clear h
    go_enter Try.func78, Try.ntmps78
    go_wp2
    rw [Lib.run_to_unsafe w ⟨b, 0, none⟩ u70 u164 hj (by rw [hjs]; decide) hsh (Nat.zero_lt_succ 1)]
    simp only [Result.andThen]
    rw [Oper.upon_value]
    go_wp2
    rw [run_callFunc_extern Try.func79 (by kernel_rfl) (by kernel_rfl) (by kernel_rfl) (e := Extern.AbiNoEscape.same) (by kernel_rfl)]
    rw [Lib.run_noEscape]
    simp only [Result.andThen]
    rw [Oper.upon_value]
    go_wp2
    rw [Lib.run_from_unsafe w ⟨b, 0, none⟩ u164 u70 hj hsh hlies]
    simp only [Result.andThen]
    rw [Oper.upon_value]
    go_wp2
    go_end0
    exact ⟨rfl, HU.out.used _, .inr rfl⟩
  · have h0 := h.cell0
    have HU := Lib.hid h
    clear h
    go_enter Try.func78, Try.ntmps78
    go_wp2
    rw [Lib.run_neq_ptr_same w _ u70 hj]
    go_wp2
    go_end0
    exact ⟨rfl, HU.out, .inl rfl⟩
theorem info_u8b : (Try.prog.info? 5).map (fun i => (i.zero, i.size, i.bytes)) = some (some (.int .u8 0), 1, 1) := by kernel_rfl
theorem bMod_of {B b : Nat} {w : World} {k n : Nat} {size : Nat} {xs : List Value} {v : Value} (h : w.ownsRow B 5 size v n xs) (hk : v.ownBlock = some k) : bMod B b w k := by
  have hlt := (h.lt k hk).1
  obtain ⟨_, h2⟩ := h
  rcases h2 with ⟨hv, _⟩ | ⟨g', cap', cur, hv, _, hb, _⟩
  · subst hv; cases hk
  · subst hv; injection hk with hk; subst hk; exact .inr ⟨hlt, _, _, hb⟩
/-- a world that differs in the builder's block and in a row of bytes -/
theorem fr_bMod {B b : Nat} {w w' : World} {r : Option Nat} (hg : w.grownBy w' r) (hr : ∀ k, r = some k → bMod B b w k) : Fr (bMod B b) w w' :=
  ⟨hg.os, hg.tape, hg.output, hg.size, fun k hk hm => hg.block k hk (fun e => hm (hr k e.symm)), fun k hk hm => by
    rcases hm with rfl | ⟨hBk, cs, fr, hm⟩
    · exact .inl rfl
    · by_cases he : some k = r
      · exact hr k he.symm
      · rw [hg.block k hk he] at hm; exact .inr ⟨hBk, cs, fr, hm⟩⟩
theorem grown_set2 (w : World) (g j : Nat) (u : Value) : w.grownBy (w.setCell ⟨g, j, none⟩ u) (some g) := grown_set (World.grownBy.refl _ _) j u
theorem i_WriteString (B b : Nat) (bs : List Value) (s : ByteArray) (w : World) (h : Lib.IsBuilder 111 5 B b bs w) (hlen : bs.length + s.size ≤ 140737488355328) (hBw : B ≤ w.heap.size) :
    Calls Try.prog 75 #[.pointer (some ⟨b, 0, none⟩), .string s] w fun e w' => e = .returned (.tuple #[.int .i64 s.size, .nilIface]) ∧ Lib.BuilderAt 111 5 B b (.pointer (some ⟨b, 0, none⟩)) (bs ++ Lib.strCells s) w' ∧ Fr (bMod B b) w w' := by
  obtain ⟨i0, hi, hz0, hz1, hz2⟩ := info_parts info_u8b
  go_enter Try.func75, Try.ntmps75
  go_wp2_with fail
  refine (i_copyCheck B b bs _ h).mono ?_
  rintro e w1 ⟨rfl, h1, hb1⟩
  have f1 : Fr (bMod B b) w w1 := by
    rcases hb1 with rfl | rfl
    · exact Fr.refl _ _
    · exact fr_bMod (grown_set2 _ _ _ _) (fun k hk => by injection hk with hk; exact .inl hk.symm)
  clear hb1
  obtain ⟨hB, v, hbk, hown, hne⟩ := h1
  have c0 : w1.cell? ⟨b, 0, none⟩ = some (.pointer (some ⟨b, 0, none⟩)) := by rw [Lib.cell_of_heap hbk]; rfl
  have c1 : w1.cell? ⟨b, 1, none⟩ = some v := by rw [Lib.cell_of_heap hbk]; rfl
  go_wp2_with (at_builtin; refine Lib.wpList_append_own_string _ rfl _ _ 22 9 rfl B 5 i0 Try.underlying22 Try.underlying9 hi hz0 hz1 hz2 _ _ _ rfl hown s rfl ?c3 ?c4 ?c5 ?_)
  case c3 => unfold maxLen; omega
  case c4 => omega
  case c5 => have := f1.size; omega
  intro v' w2 hown' hgrow _
  have hlt : b < w1.heap.size := by
    rcases Nat.lt_or_ge b w1.heap.size with h' | h'
    · exact h'
    · simp [Array.getElem?_eq_none h'] at hbk
  have hb2 : w2.heap[b]? = some (.cells #[.pointer (some ⟨b, 0, none⟩), v] 111 (0, 0)) := by
    rw [hgrow.block b hlt (fun e => hne e.symm)]
    exact hbk
  have d0 : w2.cell? ⟨b, 0, none⟩ = some (.pointer (some ⟨b, 0, none⟩)) := by rw [Lib.cell_of_heap hb2]; rfl
  have d1 : w2.cell? ⟨b, 1, none⟩ = some v := by rw [Lib.cell_of_heap hb2]; rfl
  have g1 : w2.frozen? ⟨b, 1, none⟩ = false := Lib.frozen_of_heap hb2 1
  have f2 : Fr (bMod B b) w1 w2 := fr_bMod hgrow (fun k hk => bMod_of hown hk)
  obtain ⟨ao, n', cap, rfl⟩ : ∃ ao n' cap, v' = .slice ao n' cap := by
    rcases hown'.2 with ⟨hv, _⟩ | ⟨g, cap, cur, hv, _⟩
    · exact ⟨_, _, _, hv⟩
    · exact ⟨_, _, _, hv⟩
  have HO := Lib.hid hown'
  have HB2 := Lib.hid hb2
  have HF2 := Lib.hid (f1.trans f2)
  clear hown hown' hgrow hbk c0 c1 f1 f2 hb2
  go_wp2
  go_ret2
  refine ⟨rfl, ?_, ?_⟩
  · exact Lib.BuilderAt.put (T := 111) (e := 5) hB HB2.out (bs' := bs ++ Lib.strCells s) (by simpa [Lib.strCells_length] using HO.out) (by decide)
  · exact HF2.out.trans (fr_bMod (grown_set2 _ _ _ _) (fun k hk => by injection hk with hk; exact .inl hk.symm))
end Go.Proofs.Ytoejelieogjjpaa

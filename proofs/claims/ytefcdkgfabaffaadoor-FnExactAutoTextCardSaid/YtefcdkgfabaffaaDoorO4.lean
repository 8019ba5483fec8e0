/- An automaton that comes in as an argument: how it reads. -/
import Derived.Test.YtefcdkgfabaffaaDoorHA
import Derived.Test.YtefcdkgfabaffaaDoorO1
import Derived.Deep.Strs
namespace Go.Proofs.YtefcdkgfabaffaaDoor
open Go.ChangeShapes Go.WideShapes Go.RowKit
set_option linter.unusedVariables false
set_option linter.unusedSimpArgs false
set_option maxHeartbeats 4000000
set_option maxRecDepth 100000
theorem addr_add (b off k : Nat) : (⟨b, off, none⟩ : Addr).add k = ⟨b, off + k, none⟩ := by unfold Addr.add; split <;> simp_all
theorem openI {H : Type} {enc : TypeId × Value → H} {W : World} {u : Value} {n : Nat} {y : DataW H × List MemPlace}
    (hf : DataW.trod enc Tryd.prog W 0 (fun _ => true) true n 22 [u] = some y) : ∃ xs, InI W u xs ∧ xs.length ≤ 9223372036854775807 := by
  have hc2 : Tryd.prog.cellsOf 2 = 1 := by kernel_rfl
  rcases Go.Deep.open_slice1 Tryd.underlying22 hc2 hf with ⟨hcs, _⟩ | ⟨a, len, cap, m, n', V, D, Pl, hcs, hb, hl, hm, hmm, _, hi⟩
  · injection hcs with hcs _
    subst hcs
    exact ⟨[], .inl ⟨rfl, rfl, _, _, rfl⟩, by simp⟩
  · injection hcs with hcs _
    subst hcs
    simp only [if_true] at hmm
    subst hmm
    have key : ∀ i, i < len → ∃ x : Int, W.cell? (a.add i) = some (.int .i64 x) := by
      intro i hil
      obtain ⟨h1, h2⟩ := hi i (by omega)
      obtain ⟨x, hx, _, _⟩ := DataW.trod_int Tryd.underlying2 h2
      injection hx with hx _
      rw [hx] at h1
      exact ⟨x, h1⟩
    obtain ⟨l, hll, hp⟩ := list_of key
    have hlm : l.length ≤ 9223372036854775807 := by rw [hll]; unfold maxLen at hm; omega
    refine ⟨l, ?_, hlm⟩
    by_cases h0 : len = 0
    · subst h0
      have : l = [] := List.eq_nil_of_length_eq_zero hll
      subst this
      exact .inl ⟨rfl, rfl, _, _, rfl⟩
    · obtain ⟨b, off, spot⟩ := a
      have hc := hp 0 _ (List.getElem?_eq_getElem (by omega : 0 < l.length))
      have hspot : spot = none := by simpa [Addr.add] using World.cell?_spot hc
      subst hspot
      rw [← hll]
      refine .inr ⟨b, off, _, rfl, World.block_lt_of_cell? _ _ hc, by omega, hm, fun j hj => ?_⟩
      have hj2 : j < l.length := by omega
      have hq := hp j _ (List.getElem?_eq_getElem hj2)
      rw [addr_add] at hq
      rw [hq]
      simp [iv, List.getElem?_eq_getElem hj2]
theorem openT {H : Type} {enc : TypeId × Value → H} {W : World} {u : Value} {n : Nat} {y : DataW H × List MemPlace}
    (hf : DataW.trod enc Tryd.prog W 0 (fun _ => true) true n 23 [u] = some y) : ∃ t : Tb, InT W u t ∧ t.length ≤ 9223372036854775807 ∧ ∀ r ∈ t, r.length ≤ 9223372036854775807 := by
  have hc2 : Tryd.prog.cellsOf 22 = 1 := by kernel_rfl
  rcases Go.Deep.open_slice1 Tryd.underlying23 hc2 hf with ⟨hcs, _⟩ | ⟨a, len, cap, m, n', V, D, Pl, hcs, hb, hl, hm, hmm, _, hi⟩
  · injection hcs with hcs _
    subst hcs
    exact ⟨[], ⟨[], rfl, .inl ⟨rfl, rfl, _, _, rfl⟩, fun k hk => by cases hk⟩, by simp, fun r hr => by cases hr⟩
  · injection hcs with hcs _
    subst hcs
    simp only [if_true] at hmm
    subst hmm
    have key : ∀ i, i < len → ∃ x : Value × List Int, W.cell? (a.add i) = some x.1 ∧ InI W x.1 x.2 ∧ x.2.length ≤ 9223372036854775807 := by
      intro i hil
      obtain ⟨h1, h2⟩ := hi i (by omega)
      obtain ⟨xs, h3, h4⟩ := openI h2
      exact ⟨(V i, xs), h1, h3, h4⟩
    obtain ⟨l, hll, hp⟩ := list_of key
    have hlm : l.length ≤ 9223372036854775807 := by rw [hll]; unfold maxLen at hm; omega
    refine ⟨l.map (·.2), ⟨l.map (·.1), by simp, ?_, fun k hk => ?_⟩, by simpa using hlm, fun r hr => ?_⟩
    · by_cases h0 : len = 0
      · subst h0
        have : l = [] := List.eq_nil_of_length_eq_zero hll
        subst this
        exact .inl ⟨rfl, rfl, _, _, rfl⟩
      · obtain ⟨b, off, spot⟩ := a
        have hc := (hp 0 _ (List.getElem?_eq_getElem (by omega : 0 < l.length))).1
        have hspot : spot = none := by simpa [Addr.add] using World.cell?_spot hc
        subst hspot
        rw [List.length_map, ← hll]
        refine .inr ⟨b, off, _, rfl, World.block_lt_of_cell? _ _ hc, by omega, hm, fun j hj => ?_⟩
        have hj2 : j < l.length := by omega
        have hq := (hp j _ (List.getElem?_eq_getElem hj2)).1
        rw [addr_add] at hq
        rw [hq]
        simp [List.getElem?_eq_getElem hj2]
    · have hk2 : k < l.length := by simpa using hk
      have := (hp k _ (List.getElem?_eq_getElem hk2)).2.1
      simpa [tA, List.getD, List.getElem?_eq_getElem hk2] using this
    · obtain ⟨x, hx, rfl⟩ := List.mem_map.1 hr
      obtain ⟨t, ht, rfl⟩ := List.getElem_of_mem hx
      exact (hp t _ (List.getElem?_eq_getElem ht)).2.2
theorem trod_struct4 {H : Type} {enc : TypeId × Value → H} {P : Program} {w : World} {base : Nat} {spare : Nat → Bool} {held : Bool} {t : TypeId} {f0 f1 f2 f3 : Field} {fuel : Nat} {cs : List Value} {x : DataW H × List MemPlace} (ht : P.underlying t = some (.struct #[f0, f1, f2, f3])) (h : DataW.trod enc P w base spare held fuel t cs = some x) :
    ∃ y0 y1 y2 y3 n, DataW.trod enc P w base spare held n f0.type ((cs.drop f0.offset).take (P.cellsOf f0.type)) = some y0 ∧ DataW.trod enc P w base spare held n f1.type ((cs.drop f1.offset).take (P.cellsOf f1.type)) = some y1 ∧ DataW.trod enc P w base spare held n f2.type ((cs.drop f2.offset).take (P.cellsOf f2.type)) = some y2 ∧ DataW.trod enc P w base spare held n f3.type ((cs.drop f3.offset).take (P.cellsOf f3.type)) = some y3 := by
  obtain ⟨xs, n, _, _, hl, hlen, hf⟩ := DataW.trod_struct ht h
  match xs, hlen with
  | [y0, y1, y2, y3], _ => exact ⟨y0, y1, y2, y3, n, by simpa using hf 0 f0 rfl, by simpa using hf 1 f1 rfl, by simpa using hf 2 f2 rfl, by simpa using hf 3 f3 rfl⟩
theorem openAuto {H : Type} {enc : TypeId × Value → H} {W : World} {base : Nat} {v : Value} {d : DataW H} {p : List MemPlace}
    (hv : Value.okWide Tryd.prog W .any base 25 v) (h : DataW.Trod enc Tryd.prog W 0 (fun _ => true) true 25 v d p) :
    ∃ a : Au, InAu W v a ∧ (a.fi.length ≤ 9223372036854775807 ∧ a.nx.length ≤ 9223372036854775807) ∧ ∀ r ∈ a.nx, r.length ≤ 9223372036854775807 := by
  obtain ⟨cs, rfl, hcs⟩ := okWide_struct Tryd.underlying25 hv
  obtain ⟨fuel, hf0⟩ := h
  have hcA : Tryd.prog.cellsOf 25 = 4 := by kernel_rfl
  have hc2 : Tryd.prog.cellsOf 2 = 1 := by kernel_rfl
  have hcI : Tryd.prog.cellsOf 22 = 1 := by kernel_rfl
  have hcT : Tryd.prog.cellsOf 23 = 1 := by kernel_rfl
  rw [hcA] at hcs
  obtain ⟨y0, y1, y2, y3, n, g0, g1, g2, g3⟩ := trod_struct4 Tryd.underlying25 hf0
  rw [hc2] at g0 g1
  rw [hcI] at g2
  rw [hcT] at g3
  obtain ⟨c0, c1, c2, c3, rfl⟩ : ∃ c0 c1 c2 c3, cs = #[c0, c1, c2, c3] := by
    match cs, hcs with
    | ⟨[c0, c1, c2, c3]⟩, _ => exact ⟨c0, c1, c2, c3, rfl⟩
  simp [Value.cells] at g0 g1 g2 g3
  obtain ⟨x0, hx0, _, _⟩ := DataW.trod_int Tryd.underlying2 g0
  obtain ⟨x1, hx1, _, _⟩ := DataW.trod_int Tryd.underlying2 g1
  obtain ⟨f, hf1, hf2⟩ := openI g2
  obtain ⟨t, ht1, ht2, ht3⟩ := openT g3
  injection hx0 with hx0 _
  injection hx1 with hx1 _
  subst hx0 hx1
  exact ⟨⟨x0, x1, f, t⟩, ⟨c2, c3, rfl, hf1, ht1⟩, ⟨hf2, ht2⟩, ht3⟩
end Go.Proofs.YtefcdkgfabaffaaDoor

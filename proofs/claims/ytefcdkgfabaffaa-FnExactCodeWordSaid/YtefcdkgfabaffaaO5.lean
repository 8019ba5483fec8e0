/- A coder that comes in as an argument: how it reads. -/
import Derived.Test.YtefcdkgfabaffaaJA
import Derived.Test.YtefcdkgfabaffaaO4
namespace Go.Proofs.Ytefcdkgfabaffaa
open Go.ChangeShapes Go.WideShapes Go.RowKit
set_option linter.unusedVariables false
set_option linter.unusedSimpArgs false
set_option maxHeartbeats 4000000
set_option maxRecDepth 100000
theorem openS {H : Type} {enc : TypeId × Value → H} {W : World} {u : Value} {n : Nat} {y : DataW H × List MemPlace}
    (hf : DataW.trod enc Try.prog W 0 (fun _ => true) true n 96 [u] = some y) : ∃ xs, InS W u xs ∧ xs.length ≤ 9223372036854775807 ∧ ∀ x ∈ xs, x.size ≤ 9223372036854775807 := by
  have hc2 : Try.prog.cellsOf 9 = 1 := by kernel_rfl
  rcases Go.Deep.open_slice1 Try.underlying96 hc2 hf with ⟨hcs, _⟩ | ⟨a, len, cap, m, n', V, D, Pl, hcs, hb, hl, hm, hmm, _, hi⟩
  · injection hcs with hcs _
    subst hcs
    exact ⟨[], .inl ⟨rfl, rfl, _, _, rfl⟩, by simp, fun x hx => by cases hx⟩
  · injection hcs with hcs _
    subst hcs
    simp only [if_true] at hmm
    subst hmm
    have key : ∀ i, i < len → ∃ x : ByteArray, W.cell? (a.add i) = some (.string x) ∧ x.size ≤ 9223372036854775807 := by
      intro i hil
      obtain ⟨h1, h2⟩ := hi i (by omega)
      obtain ⟨s, hs, _, hsz⟩ := DataW.trod_string Try.underlying9 h2
      injection hs with hs _
      rw [hs] at h1
      exact ⟨s, h1, by unfold maxLen at hsz; simpa using hsz⟩
    obtain ⟨l, hll, hp⟩ := list_of key
    have hlm : l.length ≤ 9223372036854775807 := by rw [hll]; unfold maxLen at hm; omega
    refine ⟨l, ?_, hlm, fun x hx => by
      obtain ⟨t, ht, rfl⟩ := List.getElem_of_mem hx
      exact (hp t _ (List.getElem?_eq_getElem ht)).2⟩
    by_cases h0 : len = 0
    · subst h0
      have : l = [] := List.eq_nil_of_length_eq_zero hll
      subst this
      exact .inl ⟨rfl, rfl, _, _, rfl⟩
    · obtain ⟨b, off, spot⟩ := a
      have hc := (hp 0 _ (List.getElem?_eq_getElem (by omega : 0 < l.length))).1
      have hspot : spot = none := by simpa [Addr.add] using World.cell?_spot hc
      subst hspot
      rw [← hll]
      refine .inr ⟨b, off, _, rfl, World.block_lt_of_cell? _ _ hc, by omega, hm, fun j hj => ?_⟩
      have hj2 : j < l.length := by omega
      have hq := (hp j _ (List.getElem?_eq_getElem hj2)).1
      rw [addr_add] at hq
      rw [hq]
      simp [sv, List.getElem?_eq_getElem hj2]
theorem openU {H : Type} {enc : TypeId × Value → H} {W : World} {u : Value} {n : Nat} {y : DataW H × List MemPlace}
    (hf : DataW.trod enc Try.prog W 0 (fun _ => true) true n 37 [u] = some y) : ∃ t : Ts, InU W u t ∧ t.length ≤ 9223372036854775807 ∧ (∀ r ∈ t, r.length ≤ 9223372036854775807) ∧ ∀ r ∈ t, ∀ x ∈ r, x.size ≤ 9223372036854775807 := by
  have hc2 : Try.prog.cellsOf 96 = 1 := by kernel_rfl
  rcases Go.Deep.open_slice1 Try.underlying37 hc2 hf with ⟨hcs, _⟩ | ⟨a, len, cap, m, n', V, D, Pl, hcs, hb, hl, hm, hmm, _, hi⟩
  · injection hcs with hcs _
    subst hcs
    exact ⟨[], ⟨[], rfl, .inl ⟨rfl, rfl, _, _, rfl⟩, fun k hk => by cases hk⟩, by simp, (by intro r hr; cases hr), (by intro r hr; cases hr)⟩
  · injection hcs with hcs _
    subst hcs
    simp only [if_true] at hmm
    subst hmm
    have key : ∀ i, i < len → ∃ x : Value × List ByteArray, W.cell? (a.add i) = some x.1 ∧ InS W x.1 x.2 ∧ x.2.length ≤ 9223372036854775807 ∧ ∀ y ∈ x.2, y.size ≤ 9223372036854775807 := by
      intro i hil
      obtain ⟨h1, h2⟩ := hi i (by omega)
      obtain ⟨xs, h3, h4, h5⟩ := openS h2
      exact ⟨(V i, xs), h1, h3, h4, h5⟩
    obtain ⟨l, hll, hp⟩ := list_of key
    have hlm : l.length ≤ 9223372036854775807 := by rw [hll]; unfold maxLen at hm; omega
    refine ⟨l.map (·.2), ⟨l.map (·.1), by simp, ?_, fun k hk => ?_⟩, by simpa using hlm, fun r hr => ?_, fun r hr => ?_⟩
    · by_cases h0 : len = 0
      · subst h0
        have : l = [] := List.eq_nil_of_length_eq_zero hll
        subst this
        exact .inl ⟨rfl, rfl, _, _, rfl⟩
      · obtain ⟨b, off, spot⟩ := a
        have hc := (hp 0 _ (List.getElem?_eq_getElem (by omega : 0 < l.length))).1
        have hspot : spot = none := by simpa [Addr.add] using World.cell?_spot hc
        subst hspot
        rw [List.length_map, ← hll]
        refine .inr ⟨b, off, _, rfl, World.block_lt_of_cell? _ _ hc, by omega, hm, fun j hj => ?_⟩
        have hj2 : j < l.length := by omega
        have hq := (hp j _ (List.getElem?_eq_getElem hj2)).1
        rw [addr_add] at hq
        rw [hq]
        simp [List.getElem?_eq_getElem hj2]
    · have hk2 : k < l.length := by simpa using hk
      have := (hp k _ (List.getElem?_eq_getElem hk2)).2.1
      simpa [uA, List.getD, List.getElem?_eq_getElem hk2] using this
    · obtain ⟨x, hx, rfl⟩ := List.mem_map.1 hr
      obtain ⟨t, ht, rfl⟩ := List.getElem_of_mem hx
      exact (hp t _ (List.getElem?_eq_getElem ht)).2.2.1
    · obtain ⟨x, hx, rfl⟩ := List.mem_map.1 hr
      obtain ⟨t, ht, rfl⟩ := List.getElem_of_mem hx
      exact (hp t _ (List.getElem?_eq_getElem ht)).2.2.2
theorem openCoder {H : Type} {enc : TypeId × Value → H} {W : World} {base : Nat} {v : Value} {d : DataW H} {p : List MemPlace}
    (hv : Value.okWide Try.prog W .any base 39 v) (h : DataW.Trod enc Try.prog W 0 (fun _ => true) true 39 v d p) :
    ∃ a : Co, InCo W v a ∧ (a.nx.length ≤ 9223372036854775807 ∧ ∀ r ∈ a.nx, r.length ≤ 9223372036854775807) ∧ a.ou.length ≤ 9223372036854775807 ∧ (∀ r ∈ a.ou, r.length ≤ 9223372036854775807) ∧ ∀ r ∈ a.ou, ∀ x ∈ r, x.size ≤ 9223372036854775807 := by
  obtain ⟨cs, rfl, hcs⟩ := okWide_struct Try.underlying39 hv
  obtain ⟨fuel, hf0⟩ := h
  have hcA : Try.prog.cellsOf 39 = 4 := by kernel_rfl
  have hc2 : Try.prog.cellsOf 2 = 1 := by kernel_rfl
  have hcI : Try.prog.cellsOf 37 = 1 := by kernel_rfl
  have hcT : Try.prog.cellsOf 23 = 1 := by kernel_rfl
  rw [hcA] at hcs
  obtain ⟨y0, y1, y2, y3, n, g0, g1, g2, g3⟩ := trod_struct4 Try.underlying39 hf0
  rw [hc2] at g0 g1
  rw [hcT] at g2
  rw [hcI] at g3
  obtain ⟨c0, c1, c2, c3, rfl⟩ : ∃ c0 c1 c2 c3, cs = #[c0, c1, c2, c3] := by
    match cs, hcs with
    | ⟨[c0, c1, c2, c3]⟩, _ => exact ⟨c0, c1, c2, c3, rfl⟩
  simp [Value.cells] at g0 g1 g2 g3
  obtain ⟨x0, hx0, _, _⟩ := DataW.trod_int Try.underlying2 g0
  obtain ⟨x1, hx1, _, _⟩ := DataW.trod_int Try.underlying2 g1
  obtain ⟨f, hf1, hf2, hf3⟩ := openT g2
  obtain ⟨t, ht1, ht2, ht3, ht4⟩ := openU g3
  injection hx0 with hx0 _
  injection hx1 with hx1 _
  subst hx0 hx1
  exact ⟨⟨x0, x1, f, t⟩, ⟨c2, c3, rfl, hf1, ht1⟩, ⟨hf2, hf3⟩, ht2, ht3, ht4⟩
end Go.Proofs.Ytefcdkgfabaffaa

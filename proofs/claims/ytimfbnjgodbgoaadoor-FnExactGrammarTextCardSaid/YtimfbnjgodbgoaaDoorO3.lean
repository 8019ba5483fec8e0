/- A grammar that comes in as an argument: how it reads. -/
import Derived.Test.YtimfbnjgodbgoaaDoorY2
import Derived.Test.YtimfbnjgodbgoaaDoorO1
import Derived.Deep.Strs
namespace Go.Proofs.YtimfbnjgodbgoaaDoor
open Go.ChangeShapes Go.WideShapes Go.RowKit
set_option linter.unusedVariables false
set_option linter.unusedSimpArgs false
set_option maxHeartbeats 4000000
set_option maxRecDepth 100000
theorem openGram {H : Type} {enc : TypeId × Value → H} {W : World} {base : Nat} {v : Value} {d : DataW H} {p : List MemPlace}
    (hv : Value.okWide Tryd.prog W .any base 24 v) (h : DataW.Trod enc Tryd.prog W 0 (fun _ => true) true 24 v d p) :
    ∃ l : List Ru, GrIn W v l ∧ l.length ≤ 9223372036854775807 ∧ ∀ r ∈ l, r.1.size ≤ 9223372036854775807 := by
  obtain ⟨cs, rfl, hcs⟩ := okWide_struct Tryd.underlying24 hv
  obtain ⟨fuel, hf0⟩ := h
  have hcG : Tryd.prog.cellsOf 24 = 1 := by kernel_rfl
  have hcS : Tryd.prog.cellsOf 22 = 1 := by kernel_rfl
  have hcells : Tryd.prog.cellsOf 68 = 3 := by kernel_rfl
  have hc9 : Tryd.prog.cellsOf 9 = 1 := by kernel_rfl
  have hc2 : Tryd.prog.cellsOf 2 = 1 := by kernel_rfl
  rw [hcG] at hcs
  obtain ⟨y0, n0, _, _, hf⟩ := trod_struct1 Tryd.underlying24 hf0
  rw [hcS] at hf
  obtain ⟨u, rfl⟩ : ∃ u, cs = #[u] := by
    match cs, hcs with
    | ⟨[u]⟩, _ => exact ⟨u, rfl⟩
  simp [Value.cells] at hf
  rcases Go.Deep.open_slice Tryd.underlying22 hf with ⟨hcs, _⟩ | ⟨a, len', cap', m, n, D, Pl, hcs, hb, hl, hm, hmm, _, hi⟩
  · simp at hcs
    subst hcs
    exact ⟨[], ⟨_, rfl, .inl ⟨rfl, rfl, _, _, rfl⟩⟩, by simp, fun r hr => by cases hr⟩
  · simp at hcs
    subst hcs
    simp only [if_true] at hmm
    subst hmm
    have key : ∀ i, i < len' → ∃ r : Ru, W.cell? (a.add (i * 3)) = some (.string r.1) ∧ W.cell? (a.add (i * 3 + 1)) = some (.int .i64 r.2.1) ∧ W.cell? (a.add (i * 3 + 2)) = some (.int .i64 r.2.2) ∧ r.1.size ≤ 9223372036854775807 := by
      intro i hil
      obtain ⟨cs', hc, ht⟩ := hi i (by omega)
      rw [hcells] at hc
      obtain ⟨_, hcl, hat⟩ := World.cells?_some hc
      obtain ⟨y0, y1, y2, n', _, _, h0, h1, h2⟩ := Go.Deep.trod_struct3 Tryd.underlying68 ht
      rw [hc9] at h0
      rw [hc2] at h1 h2
      obtain ⟨s, hs, _, hsz⟩ := DataW.trod_string Tryd.underlying9 h0
      obtain ⟨x, hx, _, _⟩ := DataW.trod_int Tryd.underlying2 h1
      obtain ⟨x2, hx2, _, _⟩ := DataW.trod_int Tryd.underlying2 h2
      match cs', hcl with
      | [c0, c1, c2], _ =>
        simp at hs hx hx2
        subst hs hx hx2
        have e0 := hat 0 (by omega)
        have e1 := hat 1 (by omega)
        have e2 := hat 2 (by omega)
        rw [Go.Deep.add_add, Nat.add_zero] at e0
        rw [Go.Deep.add_add] at e1 e2
        exact ⟨(s, x, x2), e0, e1, e2, by unfold maxLen at hsz; simpa using hsz⟩
    obtain ⟨l, hll, hp⟩ := list_of key
    have hlm : l.length ≤ 9223372036854775807 := by rw [hll]; unfold maxLen at hm; omega
    refine ⟨l, ⟨_, rfl, ?_⟩, hlm, fun r hr => ?_⟩
    · by_cases h0 : len' = 0
      · subst h0
        have : l = [] := List.eq_nil_of_length_eq_zero hll
        subst this
        exact .inl ⟨rfl, rfl, _, _, rfl⟩
      · obtain ⟨b, off, spot⟩ := a
        have hc := (hp 0 _ (List.getElem?_eq_getElem (by omega : 0 < l.length))).1
        have hspot : spot = none := by simpa [Addr.add] using World.cell?_spot hc
        subst hspot
        rw [← hll]
        refine .inr ⟨b, off, _, rfl, World.block_lt_of_cell? _ _ hc, by omega, hm, fun j hj => ?_⟩
        have hadd : ∀ k, (⟨b, off, none⟩ : Addr).add k = ⟨b, off + k, none⟩ := fun k => by unfold Addr.add; split <;> simp_all
        have hj2 : j / 3 < l.length := by omega
        have hq := hp (j / 3) _ (List.getElem?_eq_getElem hj2)
        rw [hadd, hadd, hadd] at hq
        have hr0 := ruV_at l (j / 3) hj2
        rw [ruA, List.getD, List.getElem?_eq_getElem hj2] at hr0
        by_cases he : j % 3 = 0
        · have e : j = j / 3 * 3 := by omega
          rw [e, hr0.1]; exact hq.1
        · by_cases he1 : j % 3 = 1
          · have e : j = j / 3 * 3 + 1 := by omega
            rw [e, hr0.2.1]; exact hq.2.1
          · have e : j = j / 3 * 3 + 2 := by omega
            rw [e, hr0.2.2]; exact hq.2.2.1
    · obtain ⟨t, ht, rfl⟩ := List.getElem_of_mem hr
      exact (hp t _ (List.getElem?_eq_getElem ht)).2.2.2
end Go.Proofs.YtimfbnjgodbgoaaDoor

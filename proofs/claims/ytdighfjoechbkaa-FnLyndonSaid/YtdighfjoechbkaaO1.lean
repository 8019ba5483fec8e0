/- A slice of runs that comes in as an argument: how it reads. -/
import Derived.Test.YtdighfjoechbkaaM1
import Derived.ProofKit
import Derived.Deep.Slices
import Derived.ChangeSame
namespace Go.Proofs.Ytdighfjoechbkaa
open Go.ChangeShapes Go.WideShapes Go.RowKit
set_option linter.unusedVariables false
set_option linter.unusedSimpArgs false
set_option maxHeartbeats 4000000
set_option maxRecDepth 100000
/-- from cells that are there to a list of them -/
theorem list_of {α : Type} {n : Nat} {p : Nat → α → Prop} (h : ∀ i, i < n → ∃ x, p i x) : ∃ l : List α, l.length = n ∧ ∀ i x, l[i]? = some x → p i x := by
  induction n with
  | zero => exact ⟨[], rfl, fun i x hx => by simp at hx⟩
  | succ n ih =>
    obtain ⟨l, hl, hp⟩ := ih (fun i hi => h i (by omega))
    obtain ⟨x, hx⟩ := h n (by omega)
    refine ⟨l ++ [x], by simp [hl], fun i y hy => ?_⟩
    by_cases hi : i < l.length
    · rw [List.getElem?_append_left hi] at hy; exact hp i y hy
    · have hlt := (List.getElem?_eq_some_iff.1 hy).1
      have e : i = n := by simp at hlt; omega
      subst e
      rw [List.getElem?_append_right (by omega), hl, Nat.sub_self] at hy
      simp at hy
      subst hy
      exact hx
theorem openRuns {H : Type} {enc : TypeId × Value → H} {W : World} {base : Nat} {v : Value} {d : DataW H} {p : List MemPlace}
    (hv : Value.okWide Try.prog W .any base 47 v) (h : DataW.Trod enc Try.prog W 0 (fun _ => true) true 47 v d p) :
    ∃ l : List (ByteArray × Int), InRow W v l.length 2 (rnV l) ∧ l.length ≤ 9223372036854775807 ∧ ∀ r ∈ l, r.1.size ≤ 9223372036854775807 := by
  obtain ⟨a0, len, cap, rfl⟩ := okWide_slice Try.underlying47 hv
  obtain ⟨fuel, hf⟩ := h
  have hcells : Try.prog.cellsOf 78 = 2 := by kernel_rfl
  have hc9 : Try.prog.cellsOf 9 = 1 := by kernel_rfl
  have hc2 : Try.prog.cellsOf 2 = 1 := by kernel_rfl
  rcases Go.Deep.open_slice Try.underlying47 hf with ⟨hcs, _⟩ | ⟨a, len', cap', m, n, D, Pl, hcs, hb, hl, hm, hmm, _, hi⟩
  · simp [Value.cells] at hcs
    obtain ⟨rfl, rfl, rfl⟩ := hcs
    exact ⟨[], .inl ⟨rfl, rfl, _, _, rfl⟩, by simp, fun r hr => by cases hr⟩
  · simp [Value.cells] at hcs
    obtain ⟨rfl, rfl, rfl⟩ := hcs
    simp only [if_true] at hmm
    subst hmm
    have key : ∀ i, i < len → ∃ r : ByteArray × Int, W.cell? (a.add (i * 2)) = some (.string r.1) ∧ W.cell? (a.add (i * 2 + 1)) = some (.int .i64 r.2) ∧ r.1.size ≤ 9223372036854775807 := by
      intro i hil
      obtain ⟨cs', hc, ht⟩ := hi i (by omega)
      rw [hcells] at hc
      obtain ⟨_, hcl, hat⟩ := World.cells?_some hc
      obtain ⟨y0, y1, n', _, _, h0, h1⟩ := trod_struct2 Try.underlying78 ht
      rw [hc9] at h0
      rw [hc2] at h1
      obtain ⟨s, hs, _, hsz⟩ := DataW.trod_string Try.underlying9 h0
      obtain ⟨x, hx, _, _⟩ := DataW.trod_int Try.underlying2 h1
      match cs', hcl with
      | [c0, c1], _ =>
        simp at hs hx
        subst hs hx
        have e0 := hat 0 (by omega)
        have e1 := hat 1 (by omega)
        rw [Go.Deep.add_add, Nat.add_zero] at e0
        rw [Go.Deep.add_add] at e1
        exact ⟨(s, x), e0, e1, by unfold maxLen at hsz; simpa using hsz⟩
    obtain ⟨l, hll, hp⟩ := list_of key
    have hlm : l.length ≤ 9223372036854775807 := by rw [hll]; unfold maxLen at hm; omega
    refine ⟨l, ?_, hlm, fun r hr => ?_⟩
    · by_cases h0 : len = 0
      · subst h0
        have : l = [] := List.eq_nil_of_length_eq_zero hll
        subst this
        exact .inl ⟨rfl, rfl, _, _, rfl⟩
      · obtain ⟨b, off, spot⟩ := a
        have hc := (hp 0 _ (List.getElem?_eq_getElem (by omega : 0 < l.length))).1
        have hspot : spot = none := by simpa [Addr.add] using World.cell?_spot hc
        subst hspot
        rw [← hll]
        refine .inr ⟨b, off, _, rfl, World.block_lt_of_cell? _ _ hc, by omega, hm, fun j hj => ?_⟩
        have hadd : ∀ k, (⟨b, off, none⟩ : Addr).add k = ⟨b, off + k, none⟩ := fun k => by unfold Addr.add; split <;> simp_all
        have hj2 : j / 2 < l.length := by omega
        have hq := hp (j / 2) _ (List.getElem?_eq_getElem hj2)
        rw [hadd, hadd] at hq
        have hr0 := rnV_0 l (j / 2) hj2
        have hr1 := rnV_1 l (j / 2) hj2
        rw [List.getD, List.getElem?_eq_getElem hj2] at hr0 hr1
        by_cases he : j % 2 = 0
        · have e : j = j / 2 * 2 := by omega
          rw [e, hr0]; exact hq.1
        · have e : j = j / 2 * 2 + 1 := by omega
          rw [e, hr1]; exact hq.2.1
    · obtain ⟨t, ht, rfl⟩ := List.getElem_of_mem hr
      exact (hp t _ (List.getElem?_eq_getElem ht)).2.2
end Go.Proofs.Ytdighfjoechbkaa

/- Bytes that come in as an argument: how they read. -/
import Derived.Test.YtoejelieogjjpaaO1
import Derived.Test.YtoejelieogjjpaaP1
namespace Go.Proofs.Ytoejelieogjjpaa
open Go.ChangeShapes Go.WideShapes Go.RowKit
set_option linter.unusedVariables false
set_option linter.unusedSimpArgs false
set_option maxHeartbeats 4000000
set_option maxRecDepth 100000
theorem openBytes {H : Type} {enc : TypeId × Value → H} {W : World} {base : Nat} {v : Value} {d : DataW H} {p : List MemPlace}
    (hv : Value.okWide Try.prog W .any base 22 v) (h : DataW.Trod enc Try.prog W 0 (fun _ => true) true 22 v d p) :
    ∃ l : List UInt8, InRow W v l.length 1 (u8s l) ∧ l.length ≤ 9223372036854775807 ∧ True := by
  obtain ⟨a0, len, cap, rfl⟩ := okWide_slice Try.underlying22 hv
  obtain ⟨fuel, hf⟩ := h
  have hcells : Try.prog.cellsOf 5 = 1 := by kernel_rfl
  rcases Go.Deep.open_slice Try.underlying22 hf with ⟨hcs, _⟩ | ⟨a, len', cap', m, n, D, Pl, hcs, hb, hl, hm, hmm, _, hi⟩
  · simp [Value.cells] at hcs
    obtain ⟨rfl, rfl, rfl⟩ := hcs
    exact ⟨[], .inl ⟨rfl, rfl, _, _, rfl⟩, by simp, trivial⟩
  · simp [Value.cells] at hcs
    obtain ⟨rfl, rfl, rfl⟩ := hcs
    simp only [if_true] at hmm
    subst hmm
    have key : ∀ i, i < len → ∃ r : UInt8, W.cell? (a.add i) = some (.int .u8 (r.toNat : Int)) := by
      intro i hil
      obtain ⟨cs', hc, ht⟩ := hi i (by omega)
      rw [hcells] at hc
      obtain ⟨_, hcl, hat⟩ := World.cells?_some hc
      obtain ⟨x, hx, h1, h2⟩ := DataW.trod_int Try.underlying5 ht
      match cs', hcl with
      | [c0], _ =>
        simp at hx
        subst hx
        have e0 := hat 0 (by omega)
        rw [Go.Deep.add_add, Nat.add_zero, Nat.mul_one] at e0
        have hx : 0 ≤ x ∧ x < 256 := by
          have e1 : IntKind.u8.min = 0 := rfl
          have e2 : IntKind.u8.max = 255 := rfl
          simp [Lit.wf] at h2
          omega
        refine ⟨UInt8.ofNat x.toNat, ?_⟩
        rw [e0]
        have e3 : (((UInt8.ofNat x.toNat).toNat : Nat) : Int) = x := by
          rw [UInt8.toNat_ofNat']
          omega
        rw [e3]
        rfl
    obtain ⟨l, hll, hp⟩ := list_of key
    have hlm : l.length ≤ 9223372036854775807 := by rw [hll]; unfold maxLen at hm; omega
    refine ⟨l, ?_, hlm, trivial⟩
    by_cases h0 : len = 0
    · subst h0
      have : l = [] := List.eq_nil_of_length_eq_zero hll
      subst this
      exact .inl ⟨rfl, rfl, _, _, rfl⟩
    · obtain ⟨b, off, spot⟩ := a
      have hc := hp 0 _ (List.getElem?_eq_getElem (by omega : 0 < l.length))
      have hspot : spot = none := by simpa [Addr.add] using World.cell?_spot hc
      subst hspot
      rw [← hll]
      refine .inr ⟨b, off, _, rfl, World.block_lt_of_cell? _ _ hc, by omega, hm, fun j hj => ?_⟩
      have hadd : ∀ k, (⟨b, off, none⟩ : Addr).add k = ⟨b, off + k, none⟩ := fun k => by unfold Addr.add; split <;> simp_all
      have hj2 : j < l.length := by omega
      have hq := hp j _ (List.getElem?_eq_getElem hj2)
      rw [hadd] at hq
      rw [hq]
      simp [u8s, List.getElem?_eq_getElem hj2]
end Go.Proofs.Ytoejelieogjjpaa

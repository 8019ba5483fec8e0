/- A part of a grammar's word, as a grammar: plain. -/
import Derived.Test.YtoejelieogjjpaaQF
import Derived.Test.YtoejelieogjjpaaY8
namespace Go.Proofs.Ytoejelieogjjpaa
open Go.ChangeShapes Go.WideShapes Go.RowKit
set_option linter.unusedVariables false
set_option linter.unusedSimpArgs false
set_option maxHeartbeats 2000000
set_option maxRecDepth 100000
/-- the rule that stands for the first m + 1 pieces of a cover -/
def ctL (C : List Int) (n : Nat) : Nat → Int
  | 0 => C.getD 0 0
  | m + 1 => (n : Int) + m
/-- the rules when m pairs have been added -/
def ctR (l : List Ru) (C : List Int) : Nat → List Ru
  | 0 => l
  | m + 1 => ctR l C m ++ [((⟨#[]⟩ : ByteArray), ctL C l.length m, C.getD (m + 1) 0)]
theorem ctR_len (l : List Ru) (C : List Int) : ∀ m, (ctR l C m).length = l.length + m
  | 0 => rfl
  | m + 1 => by rw [ctR, List.length_append, ctR_len l C m]; simp; omega
theorem abcL_pair {l : List Ru} {p q : Int} (h : abcL l) : abcL (l ++ [((⟨#[]⟩ : ByteArray), p, q)]) := abcL_app h rfl
theorem abcL_ctR {l : List Ru} (h : abcL l) (C : List Int) : ∀ m, abcL (ctR l C m)
  | 0 => h
  | m + 1 => abcL_pair (abcL_ctR h C m)
theorem flat_take (l : List Ru) (C : List Int) {m : Nat} (h : m < C.length) : (C.take (m + 1)).flatMap (fun x => wo l x.toNat) = (C.take m).flatMap (fun x => wo l x.toNat) ++ wo l (C.getD m 0).toNat := by
  rw [List.take_succ_eq_append_getElem h, List.flatMap_append, List.getD, List.getElem?_eq_getElem h]
  simp
/-- what is known of the rules that have been added -/
theorem ctR_law {l : List Ru} (hw : gW l) {C : List Int} (hC : ∀ x ∈ C, 0 ≤ x ∧ x < l.length) (B : Nat) (hb : ∀ k, k < l.length → (wo l k).length ≤ B) (hB : (C.flatMap (fun x => wo l x.toNat)).length ≤ B) : ∀ m, m < C.length →
    gW (ctR l C m) ∧ 0 ≤ ctL C l.length m ∧ ctL C l.length m < l.length + m ∧ wo (ctR l C m) (ctL C l.length m).toNat = (C.take (m + 1)).flatMap (fun x => wo l x.toNat) ∧ ∀ k, k < l.length + m → (wo (ctR l C m) k).length ≤ B
  | 0, h => by
    have h0 := hC (C.getD 0 0) (by rw [List.getD, List.getElem?_eq_getElem h]; exact List.getElem_mem _)
    refine ⟨hw, h0.1, by have := h0.2; simpa [ctL] using this, ?_, fun k hk => hb k (by simpa using hk)⟩
    rw [flat_take l C h]
    rfl
  | m + 1, h => by
    obtain ⟨a1, a2, a3, a4, a5⟩ := ctR_law hw hC B hb hB m (by omega)
    have hc := hC (C.getD (m + 1) 0) (by rw [List.getD, List.getElem?_eq_getElem h]; exact List.getElem_mem _)
    have hlen := ctR_len l C m
    have hr : okR ((⟨#[]⟩ : ByteArray), ctL C l.length m, C.getD (m + 1) 0) (ctR l C m).length := ⟨fun _ => ⟨a2, by rw [hlen]; simpa using a3, hc.1, by rw [hlen]; show C.getD (m + 1) 0 < _; omega⟩, fun h => absurd rfl h⟩
    have hnew : wo (ctR l C (m + 1)) (l.length + m) = (C.take (m + 2)).flatMap (fun x => wo l x.toNat) := by
      have e := wo_new a1 (p := ctL C l.length m) (q := C.getD (m + 1) 0) a2 (by rw [hlen]; simpa using a3) hc.1 (by rw [hlen]; omega)
      rw [hlen] at e
      rw [ctR, e, a4, flat_take l C h]
      congr 1
      have hext : ∀ m, m < C.length → wo (ctR l C m) (C.getD (m + 1) 0).toNat = wo l (C.getD (m + 1) 0).toNat → True := fun _ _ _ => trivial
      have key : ∀ t, t ≤ m → ∀ k, k < l.length → wo (ctR l C t) k = wo l k := by
        intro t
        induction t with
        | zero => intro _ k _; rfl
        | succ t ih =>
          intro ht k hk
          have b1 := (ctR_law hw hC B hb hB t (by omega)).1
          rw [ctR, wo_app b1 _ (by rw [ctR_len]; omega)]
          exact ih (by omega) k hk
      exact key m (Nat.le_refl _) _ (by omega)
    refine ⟨gW_app a1 hr, by simp [ctL]; omega, by simp [ctL]; omega, ?_, fun k hk => ?_⟩
    · show wo _ ((l.length : Int) + m).toNat = _
      rw [show ((l.length : Int) + m).toNat = l.length + m by omega]
      exact hnew
    · by_cases hk2 : k < l.length + m
      · rw [ctR, wo_app a1 _ (by rw [hlen]; exact hk2)]
        exact a5 k hk2
      · obtain rfl : k = l.length + m := by omega
        rw [hnew]
        refine Nat.le_trans ?_ hB
        have e := List.take_append_drop (m + 2) C
        have : (C.flatMap (fun x => wo l x.toNat)).length = ((C.take (m + 2)).flatMap (fun x => wo l x.toNat)).length + ((C.drop (m + 2)).flatMap (fun x => wo l x.toNat)).length := by
          rw [← List.length_append, ← List.flatMap_append, e]
        omega
/-- a cover of one piece -/
theorem cut_one {l : List Ru} (hok : gOk l = true) {c : Int} (h0 : 0 ≤ c) (hc : c < l.length) : gOk (l.take (c.toNat + 1)) = true ∧ wd (l.take (c.toNat + 1)) = wo l c.toNat ∧ l.take (c.toNat + 1) ≠ [] ∧ (l.take (c.toNat + 1)).length = c.toNat + 1 := by
  have hlen : (l.take (c.toNat + 1)).length = c.toNat + 1 := by rw [List.length_take]; omega
  have hne : l.take (c.toNat + 1) ≠ [] := fun e => by rw [e] at hlen; simp at hlen
  have hw := gW_take (gW_of hok) (c.toNat + 1)
  have h4 := (gOk_some hok).1
  refine ⟨gOk_of hw (by omega) (fun k hk => ?_), ?_, hne, hlen⟩
  · rw [wo_take (gW_of hok) (by omega) (by omega)]
    exact wo_bd hok (by omega)
  · rw [wd_wo hw hne, hlen, Nat.add_sub_cancel, wo_take (gW_of hok) (by omega) (by omega)]
/-- a cover of more pieces -/
theorem cut_more {l : List Ru} (hok : gOk l = true) {C : List Int} (hC : ∀ x ∈ C, 0 ≤ x ∧ x < l.length) (h2 : 2 ≤ C.length) (h4 : l.length + C.length ≤ 400) (hB : (C.flatMap (fun x => wo l x.toNat)).length ≤ 1000000000000000) :
    gOk (ctR l C (C.length - 1)) = true ∧ wd (ctR l C (C.length - 1)) = C.flatMap (fun x => wo l x.toNat) ∧ ctR l C (C.length - 1) ≠ [] := by
  have hlen := ctR_len l C (C.length - 1)
  have hne : ctR l C (C.length - 1) ≠ [] := fun e => by rw [e] at hlen; simp at hlen; omega
  obtain ⟨a1, a2, a3, a4, a5⟩ := ctR_law (gW_of hok) hC 1000000000000000 (fun k hk => wo_bd hok hk) hB (C.length - 1) (by omega)
  refine ⟨gOk_of a1 (by omega) (fun k hk => a5 k (by omega)), ?_, hne⟩
  rw [wd_wo a1 hne, hlen]
  obtain ⟨t, ht⟩ : ∃ t, C.length - 1 = t + 1 := ⟨C.length - 2, by omega⟩
  have e : (ctL C l.length (C.length - 1)).toNat = l.length + (C.length - 1) - 1 := by rw [ht]; simp [ctL]; omega
  rw [e, show C.length - 1 + 1 = C.length by omega, List.take_length] at a4
  exact a4
/-- the cover of a part of a grammar's word -/
theorem cover_law {l : List Ru} (hok : gOk l = true) (h0 : l ≠ []) {i j : Int} (hi : 0 ≤ i) (hij : i < j) (hj : j ≤ lastI (gLn l)) :
    (cvF l l.length (l.length - 1) i j).flatMap (fun x => wo l x.toNat) = ptX l i j ∧ (∀ x ∈ cvF l l.length (l.length - 1) i j, 0 ≤ x ∧ x < l.length) ∧ ((cvF l l.length (l.length - 1) i j).length : Int) ≤ j - i ∧ 1 ≤ (cvF l l.length (l.length - 1) i j).length ∧ (gLn l).getD (l.length - 1) 0 = lastI (gLn l) := by
  have hl : 0 < l.length := List.length_pos_iff.2 h0
  have he : (gLn l).getD (l.length - 1) 0 = lastI (gLn l) := by rw [lastI_at (by rw [(gOk_some hok).2.2.1]; omega), (gOk_some hok).2.2.1]
  obtain ⟨a1, a2, a3, a4⟩ := cv_law hok l.length (l.length - 1) i j (by omega) (by omega) hi (by omega)
  refine ⟨?_, fun x hx => by have := a2 x hx; omega, by omega, ?_, he⟩
  · rw [a1, ← wd_wo (gW_of hok) h0]; rfl
  · have := a4 hij
    have : (cvF l l.length (l.length - 1) i j).length ≠ 0 := fun e => this (List.eq_nil_of_length_eq_zero e)
    omega
theorem pt_len {l : List Ru} (hok : gOk l = true) (i j : Int) : (ptX l i j).length ≤ 1000000000000000 := by
  have := wd_len hok
  have h2 := last_bd hok
  unfold ptX
  rw [List.length_drop, List.length_take]
  omega
theorem inRu_take {w : World} {a : Option Addr} {cap n : Nat} {l : List Ru} (h : InRu w (.slice a l.length cap) l) (h0 : l ≠ []) (hn : n ≤ l.length) : InRu w (.slice a (l.take n).length cap) (l.take n) := by
  have hp : 0 < l.length := List.length_pos_iff.2 h0
  rcases h with ⟨hl0, _⟩ | ⟨b, off, cap', hv, hb, hnc, hcm, hc⟩
  · omega
  injection hv with e1 e2 e3
  subst e1 e3
  have hlen : (l.take n).length = n := by rw [List.length_take]; omega
  refine .inr ⟨b, off, cap, rfl, hb, by omega, hcm, fun j hj => ?_⟩
  rw [hlen] at hj
  rw [hc j (by omega)]
  have e : ruV l = ruV (l.take n) ++ ruV (l.drop n) := by rw [← ruV_app, List.take_append_drop]
  rw [e, List.getElem?_append_left (by rw [ruV_len, hlen]; exact hj)]
end Go.Proofs.Ytoejelieogjjpaa

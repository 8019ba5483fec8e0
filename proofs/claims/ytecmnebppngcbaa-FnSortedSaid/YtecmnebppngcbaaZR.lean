/- FnSorted: what its checks look at; plain. -/
import Derived.Test.YtecmnebppngcbaaZQ
namespace Go.Proofs.Ytecmnebppngcbaa
open Go.ChangeShapes Go.WideShapes Go.RowKit
set_option linter.unusedVariables false
set_option linter.unusedSimpArgs false
set_option maxHeartbeats 1000000
set_option maxRecDepth 100000
theorem wd_size {X : ByteArray} {l : List Ru} (hX : X.data.toList = wd l) : (wd l).length = X.size := by
  rw [← hX, Array.length_toList]; rfl
theorem ex_sfx {X : ByteArray} {l : List Ru} (hX : X.data.toList = wd l) (a : Nat) : (X.extract a X.size).toList = sfx l a := by
  have h := wd_size hX
  rw [ByteArray.toList_eq, Lib.extract_data, hX, sfx, Int.toNat_natCast]
  apply List.take_of_length_le
  rw [List.length_drop]; omega
/-- what is known of the sorted row -/
structure SrtF (X : ByteArray) (d ps : List Int) (n : Nat) : Prop where
  len : d.length = n
  len2 : ps.length = n
  at_ : ∀ i, i < n → ∃ a : Nat, d.getD i 0 = a ∧ a ≤ X.size
  le : ∀ i a b : Nat, i + 1 < n → d.getD i 0 = a → d.getD (i + 1) 0 = b → (!Op.bytesLess (X.extract a X.size).toList (X.extract b X.size).toList && !(X.extract a X.size).toList == (X.extract b X.size).toList) = false
  cnt : ∀ x, ps.count x = d.count x
theorem srt_of {X : ByteArray} {l : List Ru} {d ps : List Int} {n : Nat} (hX : X.data.toList = wd l) (h1 : d.length = n) (h2 : ps.length = n) (ho : ordU l d n) (hc : ∀ x, d.count x = ps.count x) (hp : ∀ x ∈ ps, 0 ≤ x ∧ x ≤ (X.size : Int)) : SrtF X d ps n := by
  refine ⟨h1, h2, fun i hi => ?_, fun i a b hi ha hb => ?_, fun x => (hc x).symm⟩
  · have hm : d.getD i 0 ∈ d := by rw [List.getD, List.getElem?_eq_getElem (by omega)]; exact List.getElem_mem _
    have hm2 : d.getD i 0 ∈ ps := List.count_pos_iff.1 (by rw [← hc]; exact List.count_pos_iff.2 hm)
    obtain ⟨q1, q2⟩ := hp _ hm2
    exact ⟨(d.getD i 0).toNat, by omega, by omega⟩
  · have h := ho i (i + 1) (by omega) hi
    rw [ha, hb] at h
    rw [ex_sfx hX, ex_sfx hX, bl_lt]
    by_cases h1 : sfx l a < sfx l b
    · rw [decide_eq_true h1]; rfl
    · have e : sfx l a = sfx l b := List.le_antisymm (List.not_lt.1 h) (List.not_lt.1 h1)
      rw [e, beq_self_eq_true]; simp
def cnT (xs : List Int) (x : Int) (k : Nat) : Nat := (xs.take k).count x
theorem cnT_step {xs : List Int} {x : Int} {k : Nat} (h : k < xs.length) : cnT xs x (k + 1) = cnT xs x k + if xs.getD k 0 = x then 1 else 0 := by
  rw [cnT, cnT, List.take_add_one, List.count_append, List.getD, List.getElem?_eq_getElem h]
  simp [List.count_singleton]
theorem cnT_all {xs : List Int} {x : Int} {k : Nat} (h : xs.length = k) : cnT xs x k = xs.count x := by
  rw [cnT, List.take_of_length_le (by omega)]
theorem cnT_le (xs : List Int) (x : Int) (k : Nat) : cnT xs x k ≤ k := by
  have := List.count_le_length (a := x) (l := xs.take k)
  rw [List.length_take] at this
  unfold cnT; omega
theorem ltF_spec (s : ByteArray) : ∀ h : Nat, ∃ N : Nat, ltF s h = N ∧ N ≤ h ∧ ((s.extract 0 N).toList == (s.extract N (2 * N)).toList) = true ∧ ∀ k, N < k → k ≤ h → ((s.extract 0 k).toList == (s.extract k (2 * k)).toList) = false
  | 0 => ⟨0, rfl, Nat.le_refl _, by simp, fun k h1 h2 => by omega⟩
  | h + 1 => by
    cases hq : ((s.extract 0 (h + 1)).toList == (s.extract (h + 1) (2 * (h + 1))).toList)
    · obtain ⟨N, h1, h2, h3, h4⟩ := ltF_spec s h
      refine ⟨N, by rw [ltF_no hq, h1], by omega, h3, fun k k1 k2 => ?_⟩
      by_cases hk : k = h + 1
      · rw [hk]; exact hq
      · exact h4 k k1 (by omega)
    · exact ⟨h + 1, ltF_yes hq, Nat.le_refl _, hq, fun k k1 k2 => by omega⟩
theorem tw_facts {l : List Ru} {X : ByteArray} (hok : gOk l = true) (hX : X.data.toList = wd l) (hsz : (X.size : Int) = lastI (gLn l)) (h30 : X.size ≤ 30) (i : Nat) (hi : i ≤ X.size) :
    ∃ N : Nat, ltC l i = 0 ∧ ltN l i = N ∧ i + 2 * N ≤ X.size ∧ ((X.extract i (i + N)).toList == (X.extract (i + N) (i + 2 * N)).toList) = true ∧ ∀ k : Nat, N < k → i + 2 * k ≤ X.size → ((X.extract i (i + k)).toList == (X.extract (i + k) (i + 2 * k)).toList) = false := by
  obtain ⟨h1, h2⟩ := lt_ok (i := (i : Int)) hok ⟨by omega, by omega⟩ (by omega)
  have hwl := wd_size hX
  have hp : ptX l i (lastI (gLn l)) = (wd l).drop i := by
    rw [ptX, ← hsz, Int.toNat_natCast, Int.toNat_natCast, ← hwl, List.take_length]
  rw [hp] at h2
  obtain ⟨N, q1, q2, q3, q4⟩ := ltF_spec ⟨((wd l).drop i).toArray⟩ (((wd l).drop i).length / 2)
  have e1 : ∀ k : Nat, (X.extract i (i + k)).toList = ((⟨((wd l).drop i).toArray⟩ : ByteArray).extract 0 k).toList := fun k => by
    rw [ByteArray.toList_eq, ByteArray.toList_eq, Lib.extract_data, Lib.extract_data, hX]
    simp
  have e2 : ∀ k : Nat, (X.extract (i + k) (i + 2 * k)).toList = ((⟨((wd l).drop i).toArray⟩ : ByteArray).extract k (2 * k)).toList := fun k => by
    rw [ByteArray.toList_eq, ByteArray.toList_eq, Lib.extract_data, Lib.extract_data, hX]
    simp only [List.drop_drop]
    congr 1; omega
  rw [List.length_drop] at h2 q1 q2 q4
  refine ⟨N, h1, h2.trans q1, by omega, by rw [e1, e2]; exact q3, fun k k1 k2 => by rw [e1, e2]; exact q4 k k1 (by omega)⟩
end Go.Proofs.Ytecmnebppngcbaa

/- A grammar without rules that do not matter: plain. -/
import Derived.Test.YtoejelieogjjpaaQE
namespace Go.Proofs.Ytoejelieogjjpaa
open Go.ChangeShapes Go.WideShapes Go.RowKit
set_option linter.unusedVariables false
set_option linter.unusedSimpArgs false
set_option maxHeartbeats 1000000
set_option maxRecDepth 100000
/-- a rule with first numbers of rules -/
def tmR (F : List Int) (r : Ru) : Ru := if r.1.size = 0 then (⟨#[]⟩, F.getD r.2.1.toNat 0, F.getD r.2.2.toNat 0) else r
/-- the first i rules have been gone through -/
structure T1 (l : List Ru) (i : Nat) (F : List Int) (K : List Ru) : Prop where
  fl : F.length = i
  kl : K.length = i
  fb : ∀ j, j < i → 0 ≤ F.getD j 0 ∧ F.getD j 0 ≤ j
  kw : gW K
  wf : ∀ j, j < i → wo K (F.getD j 0).toNat = wo l j
  wk : ∀ j, j < i → wo K j = wo l j
  ab : abcL l → abcL K
theorem T1.nil (l : List Ru) : T1 l 0 [] [] := ⟨rfl, rfl, fun j h => by omega, gW_nil, fun j h => by omega, fun j h => by omega, fun _ r hr => by cases hr⟩
theorem getD_app {α : Type} (F : List α) (x d : α) {j : Nat} (h : j < F.length) : (F ++ [x]).getD j d = F.getD j d := by
  rw [List.getD, List.getD, List.getElem?_append_left h]
theorem getD_end {α : Type} (F : List α) (x d : α) {j : Nat} (h : j = F.length) : (F ++ [x]).getD j d = x := by
  subst h
  rw [List.getD, List.getElem?_append_right (Nat.le_refl _)]; simp
theorem wo_same {l : List Ru} (hw : gW l) {j k : Nat} (hj : j < l.length) (hk : k < l.length) (h : ruA l j = ruA l k) : wo l j = wo l k := by
  by_cases hz : (ruA l j).1.size = 0
  · rw [wo_pair hw hj hz, wo_pair hw hk (by rw [← h]; exact hz), h]
  · rw [wo_let hz, wo_let (by rw [← h]; exact hz), h]
theorem T1.ok {l : List Ru} {i : Nat} {F : List Int} {K : List Ru} (h : T1 l i F K) (hl : gW l) (hi : i < l.length) : okR (tmR F (ruA l i)) i := by
  have hr := hl i hi
  by_cases hz : (ruA l i).1.size = 0
  · obtain ⟨q1, q2, q3, q4⟩ := hr.1 hz
    have a := h.fb (ruA l i).2.1.toNat (by omega)
    have b := h.fb (ruA l i).2.2.toNat (by omega)
    rw [tmR, if_pos hz]
    exact ⟨fun _ => ⟨a.1, by show F.getD _ 0 < (i : Int); omega, b.1, by show F.getD _ 0 < (i : Int); omega⟩, fun h => absurd rfl h⟩
  · rw [tmR, if_neg hz]; exact hr
theorem T1.step {l : List Ru} {i : Nat} {F : List Int} {K : List Ru} (h : T1 l i F K) (hl : gW l) (hi : i < l.length) {own : Nat} (ho : own = i ∨ (own < i ∧ ruA K own = tmR F (ruA l i))) : T1 l (i + 1) (F ++ [(own : Int)]) (K ++ [tmR F (ruA l i)]) := by
  have hok := h.ok hl hi
  have hkw : gW (K ++ [tmR F (ruA l i)]) := gW_app h.kw (by rw [h.kl]; exact hok)
  have hlen : (K ++ [tmR F (ruA l i)]).length = i + 1 := by rw [List.length_append, h.kl]; rfl
  have hold : ∀ j, j < i → wo (K ++ [tmR F (ruA l i)]) j = wo l j := fun j hj => by
    rw [wo_app h.kw _ (by rw [h.kl]; exact hj)]; exact h.wk j hj
  have hnew : wo (K ++ [tmR F (ruA l i)]) i = wo l i := by
    have hr := hl i hi
    by_cases hz : (ruA l i).1.size = 0
    · obtain ⟨q1, q2, q3, q4⟩ := hr.1 hz
      have a := h.fb (ruA l i).2.1.toNat (by omega)
      have b := h.fb (ruA l i).2.2.toNat (by omega)
      have e : tmR F (ruA l i) = ((⟨#[]⟩ : ByteArray), F.getD (ruA l i).2.1.toNat 0, F.getD (ruA l i).2.2.toNat 0) := by rw [tmR, if_pos hz]
      have hn := wo_new h.kw (p := F.getD (ruA l i).2.1.toNat 0) (q := F.getD (ruA l i).2.2.toNat 0) a.1 (by rw [h.kl]; omega) b.1 (by rw [h.kl]; omega)
      rw [h.kl] at hn
      rw [e, hn, h.wf _ (by omega), h.wf _ (by omega), wo_pair hl hi hz]
    · have e : tmR F (ruA l i) = ruA l i := by rw [tmR, if_neg hz]
      have hn := wo_newlet (l := K) (r := ruA l i) hz
      rw [h.kl] at hn
      rw [e, hn, wo_let hz]
  have hend : ruA (K ++ [tmR F (ruA l i)]) i = tmR F (ruA l i) := by have := ruA_end K (tmR F (ruA l i)); rwa [h.kl] at this
  have hown : wo (K ++ [tmR F (ruA l i)]) own = wo l i := by
    rcases ho with rfl | ⟨ho, he⟩
    · exact hnew
    · rw [← hnew]
      refine wo_same hkw (by omega) (by omega) ?_
      rw [hend, ruA_app (by rw [h.kl]; exact ho), he]
  refine ⟨by simp [h.fl], hlen, fun j hj => ?_, hkw, fun j hj => ?_, fun j hj => ?_, fun ha r hr => ?_⟩
  · by_cases hji : j < i
    · rw [getD_app _ _ _ (by rw [h.fl]; exact hji)]; exact h.fb j hji
    · rw [getD_end _ _ _ (by rw [h.fl]; omega)]; omega
  · by_cases hji : j < i
    · have hb := h.fb j hji
      rw [getD_app _ _ _ (by rw [h.fl]; exact hji), hold _ (by omega), ← h.wk _ (by omega), h.wf j hji]
    · obtain rfl : j = i := by omega
      rw [getD_end _ _ _ h.fl.symm, Int.toNat_natCast]; exact hown
  · by_cases hji : j < i
    · exact hold j hji
    · obtain rfl : j = i := by omega
      exact hnew
  · rcases List.mem_append.1 hr with hr | hr
    · exact h.ab ha r hr
    · rw [List.mem_singleton] at hr
      subst hr
      by_cases hz : (ruA l i).1.size = 0
      · rw [tmR, if_pos hz]; intro x hx; simp at hx
      · rw [tmR, if_neg hz]; exact ha _ (ruA_mem hi)
/-- which rules are needed: those from i on have been gone through -/
structure T2 (K : List Ru) (n ro i : Nat) (N : List Bool) : Prop where
  nl : N.length = n
  root : N.getD ro false = true
  high : ∀ j, ro < j → j < n → N.getD j false = false
  cl : ∀ j, i ≤ j → j < n → N.getD j false = true → (ruA K j).1.size = 0 → N.getD (ruA K j).2.1.toNat false = true ∧ N.getD (ruA K j).2.2.toNat false = true
theorem setB (N : List Bool) {p j : Nat} (hp : p < N.length) : (N.set p true).getD j false = if j = p then true else N.getD j false := by
  by_cases h : j = p
  · subst h; rw [if_pos rfl, List.getD, List.getElem?_set_self hp]; rfl
  · rw [if_neg h, List.getD, List.getD, List.getElem?_set_ne (by omega)]
theorem T2.start {K : List Ru} {n ro : Nat} (h : ro < n) : T2 K n ro n ((List.replicate n false).set ro true) := by
  refine ⟨by simp, ?_, fun j h1 h2 => ?_, fun j h1 h2 => by omega⟩
  · rw [setB _ (by simpa using h), if_pos rfl]
  · rw [setB _ (by simpa using h), if_neg (by omega), List.getD, List.getElem?_replicate]; simp [h2]
theorem T2.skip {K : List Ru} {n ro i : Nat} {N : List Bool} (h : T2 K n ro (i + 1) N) (hs : ¬ (N.getD i false = true ∧ (ruA K i).1.size = 0)) : T2 K n ro i N := by
  refine ⟨h.nl, h.root, h.high, fun j h1 h2 h3 h4 => ?_⟩
  by_cases hji : j = i
  · subst hji; exact absurd ⟨h3, h4⟩ hs
  · exact h.cl j (by omega) h2 h3 h4
theorem T2.mark {K : List Ru} {n ro i : Nat} {N : List Bool} (h : T2 K n ro (i + 1) N) (hK : gW K) (hn : K.length = n) (hi : i < n) (h1 : N.getD i false = true) (h2 : (ruA K i).1.size = 0) : T2 K n ro i ((N.set (ruA K i).2.1.toNat true).set (ruA K i).2.2.toNat true) := by
  obtain ⟨q1, q2, q3, q4⟩ := (hK i (by omega)).1 h2
  have hir : i ≤ ro := by
    apply Classical.byContradiction
    intro hc
    rw [h.high i (by omega) hi] at h1; cases h1
  have hg : ∀ j, ((N.set (ruA K i).2.1.toNat true).set (ruA K i).2.2.toNat true).getD j false = if j = (ruA K i).2.2.toNat then true else if j = (ruA K i).2.1.toNat then true else N.getD j false := fun j => by
    rw [setB _ (by rw [List.length_set, h.nl]; omega), setB _ (by rw [h.nl]; omega)]
  refine ⟨by simp [h.nl], ?_, fun j h3 h4 => ?_, fun j h3 h4 h5 h6 => ?_⟩
  · rw [hg]; split
    · rfl
    · split
      · rfl
      · exact h.root
  · rw [hg, if_neg (by omega), if_neg (by omega)]; exact h.high j h3 h4
  · by_cases hji : j = i
    · subst hji
      refine ⟨?_, ?_⟩
      · rw [hg]; split
        · rfl
        · rw [if_pos rfl]
      · rw [hg, if_pos rfl]
    · rw [hg, if_neg (by omega), if_neg (by omega)] at h5
      obtain ⟨a, b⟩ := h.cl j (by omega) h4 h5 h6
      refine ⟨?_, ?_⟩
      · rw [hg]; split
        · rfl
        · split
          · rfl
          · exact a
      · rw [hg]; split
        · rfl
        · split
          · rfl
          · exact b
/-- the rules that are handed on -/
structure T3 (l K : List Ru) (n ro i : Nat) (N : List Bool) (M : List Int) (O : List Ru) : Prop where
  ml : M.length = n
  ol : O.length ≤ i
  ow : gW O
  ab : abcL l → abcL O
  mv : ∀ j, j < i → N.getD j false = true → 0 ≤ M.getD j 0 ∧ M.getD j 0 < O.length ∧ wo O (M.getD j 0).toNat = wo l j
  ob : ∀ k, k < O.length → ∃ j, j < n ∧ wo O k = wo l j
  last : ro < i → (M.getD ro 0).toNat = O.length - 1 ∧ 1 ≤ O.length
theorem T3.start (l K : List Ru) (n ro : Nat) (N : List Bool) : T3 l K n ro 0 N (List.replicate n 0) [] := ⟨by simp, by simp, gW_nil, fun _ r hr => (by cases hr), fun j h => by omega, fun k h => by simp at h, fun h => by omega⟩
theorem T3.skip {l K : List Ru} {n ro i : Nat} {N : List Bool} {M : List Int} {O : List Ru} (h : T3 l K n ro i N M O) (h2 : T2 K n ro 0 N) (hs : N.getD i false = false) : T3 l K n ro (i + 1) N M O := by
  refine ⟨h.ml, by have := h.ol; omega, h.ow, h.ab, fun j hj hN => ?_, h.ob, fun hr => ?_⟩
  · by_cases hji : j = i
    · subst hji; rw [hs] at hN; cases hN
    · exact h.mv j (by omega) hN
  · by_cases hri : ro = i
    · subst hri; rw [h2.root] at hs; cases hs
    · exact h.last (by omega)
theorem getD_set_ne {M : List Int} {p j : Nat} {x : Int} (h : j ≠ p) : (M.set p x).getD j 0 = M.getD j 0 := by
  rw [List.getD, List.getD, List.getElem?_set_ne (by omega)]
theorem getD_set_eq {M : List Int} {p : Nat} {x : Int} (h : p < M.length) : (M.set p x).getD p 0 = x := by
  rw [List.getD, List.getElem?_set_self h]; rfl
theorem T3.add {l K F' : List Ru} {F : List Int} {n ro i : Nat} {N : List Bool} {M : List Int} {O : List Ru} (h : T3 l K n ro i N M O) (h1 : T1 l n F K) (h2 : T2 K n ro 0 N) (hi : i < n) (hs : N.getD i false = true) :
    T3 l K n ro (i + 1) N (M.set i (O.length : Int)) (O ++ [tmR (M.set i (O.length : Int)) (ruA K i)]) := by
  have hir : i ≤ ro := by
    apply Classical.byContradiction
    intro hc
    rw [h2.high i (by omega) hi] at hs; cases hs
  have hK := h1.kw i (by rw [h1.kl]; exact hi)
  have hM : ∀ j, j < i → (M.set i (O.length : Int)).getD j 0 = M.getD j 0 := fun j hj => getD_set_ne (by omega)
  have hpair : ∀ hz : (ruA K i).1.size = 0, (0 ≤ M.getD (ruA K i).2.1.toNat 0 ∧ M.getD (ruA K i).2.1.toNat 0 < O.length ∧ wo O (M.getD (ruA K i).2.1.toNat 0).toNat = wo l (ruA K i).2.1.toNat) ∧ (0 ≤ M.getD (ruA K i).2.2.toNat 0 ∧ M.getD (ruA K i).2.2.toNat 0 < O.length ∧ wo O (M.getD (ruA K i).2.2.toNat 0).toNat = wo l (ruA K i).2.2.toNat) := fun hz => by
    obtain ⟨q1, q2, q3, q4⟩ := hK.1 hz
    obtain ⟨a, b⟩ := h2.cl i (Nat.zero_le _) hi hs hz
    exact ⟨h.mv _ (by omega) a, h.mv _ (by omega) b⟩
  have hr : okR (tmR (M.set i (O.length : Int)) (ruA K i)) O.length := by
    by_cases hz : (ruA K i).1.size = 0
    · obtain ⟨q1, q2, q3, q4⟩ := hK.1 hz
      obtain ⟨⟨a1, a2, -⟩, b1, b2, -⟩ := hpair hz
      rw [tmR, if_pos hz, hM _ (by omega), hM _ (by omega)]
      exact ⟨fun _ => ⟨a1, a2, b1, b2⟩, fun h => absurd rfl h⟩
    · rw [tmR, if_neg hz]
      exact ⟨fun h => absurd h hz, hK.2⟩
  have hw := gW_app h.ow hr
  have hnew : wo (O ++ [tmR (M.set i (O.length : Int)) (ruA K i)]) O.length = wo l i := by
    rw [← h1.wk i hi]
    by_cases hz : (ruA K i).1.size = 0
    · obtain ⟨q1, q2, q3, q4⟩ := hK.1 hz
      obtain ⟨⟨a1, a2, a3⟩, b1, b2, b3⟩ := hpair hz
      rw [tmR, if_pos hz, hM _ (by omega), hM _ (by omega), wo_new h.ow a1 a2 b1 b2, a3, b3, wo_pair h1.kw (by rw [h1.kl]; exact hi) hz, h1.wk _ (by omega), h1.wk _ (by omega)]
    · rw [tmR, if_neg hz, wo_newlet hz, wo_let hz]
  have hlen : (O ++ [tmR (M.set i (O.length : Int)) (ruA K i)]).length = O.length + 1 := by simp
  refine ⟨by simp [h.ml], by have := h.ol; omega, hw, fun ha r hr2 => ?_, fun j hj hN => ?_, fun k hk => ?_, fun hro => ?_⟩
  · rcases List.mem_append.1 hr2 with hr2 | hr2
    · exact h.ab ha r hr2
    · rw [List.mem_singleton] at hr2
      subst hr2
      by_cases hz : (ruA K i).1.size = 0
      · rw [tmR, if_pos hz]; intro x hx; simp at hx
      · rw [tmR, if_neg hz]; exact h1.ab ha _ (ruA_mem (by rw [h1.kl]; exact hi))
  · by_cases hji : j = i
    · subst hji
      rw [getD_set_eq (by rw [h.ml]; exact hi), Int.toNat_natCast, hlen]
      exact ⟨by omega, by omega, hnew⟩
    · obtain ⟨a, b, c⟩ := h.mv j (by omega) hN
      rw [hM j (by omega), hlen]
      exact ⟨a, by omega, by rw [wo_app h.ow _ (by omega)]; exact c⟩
  · rw [hlen] at hk
    by_cases hkl : k < O.length
    · obtain ⟨j, hj, e⟩ := h.ob k hkl
      exact ⟨j, hj, by rw [wo_app h.ow _ hkl]; exact e⟩
    · obtain rfl : k = O.length := by omega
      exact ⟨i, hi, hnew⟩
  · have hri : ro = i := by omega
    subst hri
    rw [getD_set_eq (by rw [h.ml]; exact hi), hlen, Int.toNat_natCast]
    omega
/-- what comes out -/
theorem T3.fin {l K O : List Ru} {F : List Int} {n : Nat} {N : List Bool} {M : List Int} (hok : gOk l = true) (h0 : l ≠ []) (hn : n = l.length) (h1 : T1 l n F K) (h2 : T2 K n (F.getD (n - 1) 0).toNat 0 N) (h : T3 l K n (F.getD (n - 1) 0).toNat n N M O) :
    gOk O = true ∧ wd O = wd l ∧ O ≠ [] ∧ O.length ≤ l.length ∧ (abcL l → abcL O) := by
  have hp : 0 < l.length := List.length_pos_iff.2 h0
  have hb := h1.fb (n - 1) (by omega)
  obtain ⟨a1, a2⟩ := h.last (by omega)
  have hne : O ≠ [] := fun e => by rw [e] at a2; simp at a2
  obtain ⟨b1, b2, b3⟩ := h.mv (F.getD (n - 1) 0).toNat (by omega) h2.root
  refine ⟨gOk_of h.ow (by have := h.ol; have := (gOk_some hok).1; omega) (fun k hk => ?_), ?_, hne, by have := h.ol; omega, h.ab⟩
  · obtain ⟨j, hj, e⟩ := h.ob k hk
    rw [e]; exact wo_bd hok (by omega)
  · rw [wd_wo h.ow hne, wd_wo (gW_of hok) h0, ← a1, b3, ← h1.wk _ (by omega), h1.wf (n - 1) (by omega), hn]
end Go.Proofs.Ytoejelieogjjpaa

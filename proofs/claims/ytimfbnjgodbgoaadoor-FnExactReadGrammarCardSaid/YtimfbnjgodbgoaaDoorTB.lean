/- ReadGrammar: plain law: what the program reads and what the reference reads. -/
import Derived.Test.YtimfbnjgodbgoaaDoorTA
namespace Go.Proofs.YtimfbnjgodbgoaaDoor
open Go.ChangeShapes Go.WideShapes Go.RowKit
set_option linter.unusedVariables false
set_option linter.unusedSimpArgs false
set_option maxHeartbeats 1000000
set_option maxRecDepth 100000
/-- a rule's line -/
def rlT (r : Ru) : List UInt8 := if r.1.size = 0 then dcL r.2.1 ++ (32 :: dcL r.2.2) else r.1.data.toList
theorem ruT_rl (r : Ru) : ruT r = rlT r ++ [10] := by unfold ruT rlT; split <;> rfl
theorem ruA_snoc (l : List Ru) {k : Nat} (hk : k < l.length) : l.take (k + 1) = l.take k ++ [ruA l k] := by
  rw [List.take_succ_eq_append_getElem hk, ruA, List.getD, List.getElem?_eq_getElem hk]; rfl
theorem grT_map (l : List Ru) : ∀ k, k ≤ l.length → grT l k = ((l.take k).map rlT).flatMap (· ++ [10])
  | 0, _ => by simp [grT]
  | k + 1, h => by
    rw [grT, grT_map l k (by omega), ruA_snoc l (by omega), List.map_append, List.flatMap_append, ruT_rl]
    simp
/-- what the reference reads in a line -/
def lnR (a : List UInt8) : Option Ru :=
  if a.length = 1 ∧ validB ⟨a.toArray⟩ = true then some (⟨a.toArray⟩, 0, 0) else
  match spl 32 a with
  | [x, y] => match nuF x, nuF y with
    | some m, some n => some (⟨#[]⟩, (m : Int), (n : Int))
    | _, _ => none
  | _ => none
theorem lnR_cases {a : List UInt8} {r : Ru} (h : lnR a = some r) : (a.length = 1 ∧ validB ⟨a.toArray⟩ = true ∧ r = (⟨a.toArray⟩, 0, 0)) ∨ ∃ (x y : List UInt8) (m n : Nat), a = x ++ 32 :: y ∧ (32 : UInt8) ∉ x ∧ nuF x = some m ∧ nuF y = some n ∧ r = (⟨#[]⟩, (m : Int), (n : Int)) := by
  unfold lnR at h
  split at h
  · rename_i hc
    injection h with h
    exact .inl ⟨hc.1, hc.2, h.symm⟩
  · refine .inr ?_
    split at h
    · rename_i x y hs
      have hj := spl_join (A := [x]) (b := y) (s := a) hs
      have hm : (32 : UInt8) ∉ x := spl_mem (s := a) (by rw [hs]; exact List.mem_cons_self ..)
      split at h
      · rename_i m n h1 h2
        injection h with h
        exact ⟨x, y, m, n, by rw [hj]; simp, hm, h1, h2, h.symm⟩
      · cases h
    · cases h
theorem let_one {p : ByteArray} (h1 : p.size = 1) (h2 : validB p = true) : ∃ c : UInt8, p.data.toList = [c] ∧ 97 ≤ c.toNat ∧ c.toNat ≤ 100 := by
  have hl : p.data.toList.length = 1 := by rw [Array.length_toList]; exact h1
  obtain ⟨c, hc⟩ := List.length_eq_one_iff.1 hl
  simp only [validB, Bool.and_eq_true, allL, List.all_eq_true] at h2
  have := letB_t (h2.1 c (by rw [hc]; exact List.mem_cons_self ..))
  exact ⟨c, hc, by omega, by omega⟩
theorem dec_digs : ∀ (f u : Nat), u < f → ∀ c ∈ Lib.decDigits u, 48 ≤ c.toNat ∧ c.toNat ≤ 57
  | 0, _, h => by omega
  | f + 1, u, h => by
    intro c hc
    by_cases hu : u < 10
    · rw [dec_small hu, List.mem_singleton] at hc
      rw [hc, dig_ok hu]; omega
    · rw [dec_last hu] at hc
      rcases List.mem_append.1 hc with q | q
      · exact dec_digs f (u / 10) (by omega) c q
      · rw [List.mem_singleton] at q
        rw [q, dig_ok (by omega)]; omega
theorem dec_not {u : Nat} {c : UInt8} (h : c.toNat < 48) : c ∉ Lib.decDigits u := fun hm => by
  have := dec_digs (u + 1) u (by omega) c hm
  omega
theorem not_eq_nat {c d : UInt8} (h : c.toNat ≠ d.toNat) : c ≠ d := fun e => h (by rw [e])
/-- a right rule's line reads as the rule -/
theorem lnR_rl {l : List Ru} (hok : gOk l = true) {k : Nat} (hk : k < l.length) : lnR (rlT (ruA l k)) = some (ruA l k) ∧ (10 : UInt8) ∉ rlT (ruA l k) := by
  obtain ⟨r1, r2⟩ := gOk_rule hok hk
  have h4 := (gOk_some hok).1
  obtain ⟨⟨p, a, b⟩, hr⟩ : ∃ r, ruA l k = r := ⟨_, rfl⟩
  rw [hr] at r1 r2 ⊢
  simp only at r1 r2
  by_cases hz : p.size = 0
  · obtain ⟨q1, q2, q3, q4⟩ := r1 hz
    obtain ⟨m, rfl⟩ := Int.eq_ofNat_of_zero_le q1
    obtain ⟨n, rfl⟩ := Int.eq_ofNat_of_zero_le q3
    have hx : (32 : UInt8) ∉ Lib.decDigits m := dec_not (by decide)
    have hy : (32 : UInt8) ∉ Lib.decDigits n := dec_not (by decide)
    have hlm := (dec_head (m + 1) m (by omega)).1
    have hln := (dec_head (n + 1) n (by omega)).1
    have e : rlT (p, (m : Int), (n : Int)) = Lib.decDigits m ++ 32 :: Lib.decDigits n := by
      unfold rlT dcL; rw [if_pos hz]; simp
    rw [e]
    refine ⟨?_, ?_⟩
    · have hs : spl 32 (Lib.decDigits m ++ 32 :: Lib.decDigits n) = [Lib.decDigits m, Lib.decDigits n] := by rw [spl_cons _ hx, spl_none hy]
      unfold lnR
      rw [if_neg (by rintro ⟨h1, -⟩; rw [List.length_append, List.length_cons] at h1; omega), hs]
      simp only [nuF_dec (show m < 1000000000000000000 by omega), nuF_dec (show n < 1000000000000000000 by omega)]
      rw [size_zero hz]
    · intro hm
      rcases List.mem_append.1 hm with q | q
      · exact dec_not (by decide) q
      · rcases List.mem_cons.1 q with q | q
        · exact absurd q (by decide)
        · exact dec_not (by decide) q
  · obtain ⟨q1, q2, q3, q4⟩ := r2 hz
    subst q3 q4
    obtain ⟨c, hc, hc1, hc2⟩ := let_one q1 q2
    have e : rlT (p, 0, 0) = [c] := by unfold rlT; rw [if_neg hz]; exact hc
    have ep : (⟨[c].toArray⟩ : ByteArray) = p := by rw [← hc]
    rw [e]
    refine ⟨?_, ?_⟩
    · unfold lnR
      rw [if_pos ⟨rfl, by rw [ep]; exact q2⟩, ep]
    · intro hm
      rw [List.mem_singleton] at hm
      rw [← hm] at hc1
      exact absurd hc1 (by decide)
def rdT (A : List (List UInt8)) : Nat → Option (List Ru)
  | 0 => some []
  | k + 1 => match rdT A k, lnR (A.getD k []) with
    | some L, some r => some (L ++ [r])
    | _, _ => none
theorem rdT_step {A : List (List UInt8)} {k : Nat} {L : List Ru} {r : Ru} (h1 : rdT A k = some L) (h2 : lnR (A.getD k []) = some r) : rdT A (k + 1) = some (L ++ [r]) := by rw [rdT, h1, h2]
theorem rdT_bad {A : List (List UInt8)} {k : Nat} (h2 : lnR (A.getD k []) = none) : ∀ d, rdT A (k + 1 + d) = none
  | 0 => by
    rw [Nat.add_zero, rdT, h2]
    cases rdT A k <;> rfl
  | d + 1 => by
    rw [show k + 1 + (d + 1) = k + 1 + d + 1 by omega, rdT, rdT_bad h2 d]
theorem rdT_some {A : List (List UInt8)} : ∀ {n : Nat} {L : List Ru}, rdT A n = some L → L.length = n ∧ ∀ k, k < n → lnR (A.getD k []) = some (ruA L k)
  | 0, L, h => by injection h with h; subst h; exact ⟨rfl, fun k hk => by omega⟩
  | n + 1, L, h => by
    rw [rdT] at h
    cases h1 : rdT A n with
    | none => rw [h1] at h; cases h
    | some L0 =>
      cases h2 : lnR (A.getD n []) with
      | none => rw [h1, h2] at h; cases h
      | some r =>
        rw [h1, h2] at h
        injection h with h
        subst h
        obtain ⟨i1, i2⟩ := rdT_some h1
        refine ⟨by rw [List.length_append, i1]; rfl, fun k hk => ?_⟩
        by_cases he : k = n
        · rw [he, h2, ruA, List.getD, List.getElem?_append_right (by omega), i1, Nat.sub_self]; rfl
        · rw [i2 k (by omega), ruA, ruA, List.getD, List.getD, List.getElem?_append_left (by omega)]
/-- the grammar that the reference reads -/
def rdR (t : ByteArray) : Option (List Ru) :=
  if 20000 < t.size then none else
  match rdT (spl 10 t.data.toList) ((spl 10 t.data.toList).length - 1) with
  | some L => if (spl 10 t.data.toList).getD ((spl 10 t.data.toList).length - 1) [] = [] ∧ gOk L = true then some L else none
  | none => none
def rdC (t : ByteArray) : Int := if 20000 < t.size then 2 else if (rdR t).isSome then 0 else 5
def rdL (t : ByteArray) : List Ru := (rdR t).getD []
theorem rd_of_text {t : ByteArray} {L : List Ru} (hz : t.size ≤ 20000) (hok : gOk L = true) (ht : gTx L = t) : rdR t = some L := by
  have e : t.data.toList = (L.map rlT).flatMap (· ++ [10]) := by
    rw [← ht, gTx, if_pos hok, grT_map L _ (Nat.le_refl _), List.take_length]
  have hs : spl 10 t.data.toList = L.map rlT ++ [[]] := by
    rw [e]
    refine spl_glue (fun a ha => ?_)
    obtain ⟨r, hr, rfl⟩ := List.mem_map.1 ha
    obtain ⟨k, hk, rfl⟩ := List.getElem_of_mem hr
    have := (lnR_rl hok hk).2
    rw [ruA, List.getD, List.getElem?_eq_getElem hk] at this
    exact this
  have hT : ∀ k, k ≤ L.length → rdT (L.map rlT ++ [[]]) k = some (L.take k) := by
    intro k
    induction k with
    | zero => intro _; simp [rdT]
    | succ k ih =>
      intro hk
      rw [ruA_snoc L (by omega)]
      refine rdT_step (ih (by omega)) ?_
      rw [List.getD, List.getElem?_append_left (by rw [List.length_map]; omega), List.getElem?_map, List.getElem?_eq_getElem (by omega)]
      have := (lnR_rl hok (show k < L.length by omega)).1
      rw [ruA, List.getD, List.getElem?_eq_getElem (by omega)] at this ⊢
      exact this
  have hl : (L.map rlT ++ [[]]).length - 1 = L.length := by simp
  rw [rdR, if_neg (by omega), hs, hl, hT _ (Nat.le_refl _), List.take_length]
  simp only
  rw [if_pos ⟨by rw [List.getD, List.getElem?_append_right (by simp), List.length_map, Nat.sub_self]; rfl, hok⟩]
/-- what the program makes of a line: numbers that are no numerals may be any -/
def cuR (a : List UInt8) (r : Ru) : Prop := ((32 : UInt8) ∉ a → r = (⟨a.toArray⟩, 0, 0)) ∧ ∀ x y, a = x ++ 32 :: y → (32 : UInt8) ∉ x → r.1 = ⟨#[]⟩ ∧ (∀ m, nuF x = some m → r.2.1 = (m : Int)) ∧ (∀ n, nuF y = some n → r.2.2 = (n : Int))
def cuL (A : List (List UInt8)) (n : Nat) (L : List Ru) : Prop := L.length = n ∧ ∀ k, k < n → cuR (A.getD k []) (ruA L k)
theorem cuL_snoc {A : List (List UInt8)} {n : Nat} {L : List Ru} {r : Ru} (h : cuL A n L) (h2 : cuR (A.getD n []) r) : cuL A (n + 1) (L ++ [r]) := by
  obtain ⟨h1, h3⟩ := h
  refine ⟨by rw [List.length_append, h1]; rfl, fun k hk => ?_⟩
  by_cases he : k = n
  · have : ruA (L ++ [r]) k = r := by rw [ruA, List.getD, List.getElem?_append_right (by omega), he, h1, Nat.sub_self]; rfl
    rw [this, he]; exact h2
  · have : ruA (L ++ [r]) k = ruA L k := by rw [ruA, ruA, List.getD, List.getD, List.getElem?_append_left (by omega)]
    rw [this]; exact h3 k (by omega)
theorem ln_cu {a : List UInt8} {r r' : Ru} (h : lnR a = some r) (h2 : cuR a r') : r' = r ∧ rlT r = a := by
  rcases lnR_cases h with ⟨h1, h3, rfl⟩ | ⟨x, y, m, n, rfl, hx, hm, hn, rfl⟩
  · obtain ⟨c, rfl⟩ := List.length_eq_one_iff.1 h1
    obtain ⟨c2, hc, hc1, hc2⟩ := let_one (p := ⟨[c].toArray⟩) rfl h3
    have hcc : c = c2 := by simpa using hc
    subst hcc
    refine ⟨h2.1 (fun hm => ?_), ?_⟩
    · rw [List.mem_singleton] at hm
      rw [← hm] at hc1
      exact absurd hc1 (by decide)
    · unfold rlT
      rw [if_neg (by show ¬ (1 = 0); decide)]
  · obtain ⟨e1, e2, e3⟩ := h2.2 x y rfl hx
    refine ⟨?_, ?_⟩
    · rw [← e2 m hm, ← e3 n hn, ← e1]
    · unfold rlT dcL
      rw [if_pos (by rfl)]
      simp only [Int.toNat_natCast]
      rw [← dec_of_nuF hm, ← dec_of_nuF hn]
theorem rd_same {t : ByteArray} {L L' : List Ru} (h : rdR t = some L) (hc : cuL (spl 10 t.data.toList) ((spl 10 t.data.toList).length - 1) L') : L' = L ∧ gOk L = true ∧ gTx L = t := by
  unfold rdR at h
  split at h
  · cases h
  split at h
  · rename_i L0 hL
    split at h
    · rename_i hb
      injection h with h
      subst h
      obtain ⟨h1, h2⟩ := hc
      obtain ⟨h3, h4⟩ := rdT_some hL
      have hSne := spl_ne 10 t.data.toList
      have hj : ∀ b A, spl 10 t.data.toList = A ++ [b] → t.data.toList = A.flatMap (· ++ [10]) ++ b := fun b A => spl_join
      generalize spl 10 t.data.toList = S at *
      have hll : L'.length = L0.length := by rw [h1, h3]
      have heq : L' = L0 := by
        apply List.ext_getElem hll
        intro k hk hk2
        have := (ln_cu (h4 k (by omega)) (h2 k (by omega))).1
        rw [ruA, ruA, List.getD, List.getD, List.getElem?_eq_getElem hk, List.getElem?_eq_getElem hk2] at this
        exact this
      refine ⟨heq, hb.2, ?_⟩
      rcases List.eq_nil_or_concat S with h0 | ⟨A, b, rfl⟩
      · exact absurd h0 hSne
      · rw [List.concat_eq_append] at *
        have hA : A = L0.map rlT := by
          have hlA : A.length = L0.length := by rw [h3]; simp
          apply List.ext_getElem (by rw [List.length_map, hlA])
          intro k hk hk2
          have := (ln_cu (h4 k (by simpa using hk)) (h2 k (by simpa using hk))).2
          rw [List.getD, List.getElem?_append_left hk, List.getElem?_eq_getElem hk, ruA, List.getD, List.getElem?_eq_getElem (by omega)] at this
          rw [List.getElem_map]
          exact this.symm
        have hbn : b = [] := by
          have := hb.1
          rw [List.getD, List.getElem?_append_right (by simp)] at this
          simpa using this
        have e := hj b A rfl
        rw [hA, hbn, List.append_nil] at e
        rw [gTx, if_pos hb.2, grT_map _ _ (Nat.le_refl _), List.take_length, ← e]
    · cases h
  · cases h
/-- the program says OK just for what the reference reads -/
theorem rd_law {t : ByteArray} {L' : List Ru} (hz : t.size ≤ 20000) (hc : cuL (spl 10 t.data.toList) ((spl 10 t.data.toList).length - 1) L') :
    (gOk L' = true ∧ gTx L' = t → rdR t = some L') ∧ (¬ (gOk L' = true ∧ gTx L' = t) → rdR t = none) := by
  refine ⟨fun h => rd_of_text hz h.1 h.2, fun h => ?_⟩
  cases hr : rdR t with
  | none => rfl
  | some L =>
    obtain ⟨rfl, h1, h2⟩ := rd_same hr hc
    exact absurd ⟨h1, h2⟩ h
end Go.Proofs.YtimfbnjgodbgoaaDoor

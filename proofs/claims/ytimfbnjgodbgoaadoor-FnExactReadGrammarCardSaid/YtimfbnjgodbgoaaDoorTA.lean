/- ReadGrammar: plain law: splitting of texts, numerals, and what the program and the reference read. -/
import Derived.Test.YtimfbnjgodbgoaaDoorNF
import Derived.Lib.ParseIntBCases
import Derived.Lib.Split
namespace Go.Proofs.YtimfbnjgodbgoaaDoor
open Go.ChangeShapes Go.WideShapes Go.RowKit
set_option linter.unusedVariables false
set_option linter.unusedSimpArgs false
set_option maxHeartbeats 1000000
set_option maxRecDepth 100000
/-- a text cut at a byte -/
def spl (c : UInt8) : List UInt8 → List (List UInt8)
  | [] => [[]]
  | x :: xs => if x = c then [] :: spl c xs else (x :: (spl c xs).headD []) :: (spl c xs).tail
theorem spl_ne (c : UInt8) : ∀ s, spl c s ≠ []
  | [] => by simp [spl]
  | x :: xs => by rw [spl]; split <;> simp
theorem spl_none {c : UInt8} : ∀ {s : List UInt8}, c ∉ s → spl c s = [s]
  | [], _ => rfl
  | x :: xs, h => by
    have h1 : ¬ x = c := fun e => h (by rw [e]; exact List.mem_cons_self ..)
    have h2 : c ∉ xs := fun e => h (List.mem_cons_of_mem _ e)
    rw [spl, if_neg h1, spl_none h2]; rfl
theorem spl_cons {c : UInt8} : ∀ {a : List UInt8} (b : List UInt8), c ∉ a → spl c (a ++ c :: b) = a :: spl c b
  | [], b, _ => by rw [List.nil_append, spl, if_pos rfl]
  | x :: a, b, h => by
    have h1 : ¬ x = c := fun e => h (by rw [e]; exact List.mem_cons_self ..)
    have h2 : c ∉ a := fun e => h (List.mem_cons_of_mem _ e)
    rw [List.cons_append, spl, if_neg h1, spl_cons b h2]; rfl
theorem spl_snoc {c : UInt8} (x : UInt8) : ∀ {u : List UInt8} {A : List (List UInt8)} {b : List UInt8}, spl c u = A ++ [b] → spl c (u ++ [x]) = if x = c then A ++ [b] ++ [[]] else A ++ [b ++ [x]]
  | [], A, b, h => by
    have : A = [] ∧ b = [] := by
      cases A with
      | nil => simp [spl] at h; exact ⟨rfl, h⟩
      | cons y ys => simp [spl] at h
    obtain ⟨rfl, rfl⟩ := this
    rw [List.nil_append, spl]
    split <;> simp [spl]
  | y :: u, A, b, h => by
    rw [List.cons_append, spl]
    rw [spl] at h
    by_cases hy : y = c
    · rw [if_pos hy] at h ⊢
      cases A with
      | nil =>
        have := spl_ne c u
        simp at h
        exact absurd h.2 this
      | cons z A =>
        rw [List.cons_append] at h
        injection h with h1 h2
        rw [spl_snoc x h2, ← h1]
        split <;> simp
    · rw [if_neg hy] at h ⊢
      cases A with
      | nil =>
        rw [List.nil_append] at h
        injection h with h1 h2
        have h3 : spl c u = [] ++ [(spl c u).headD []] := by
          have := spl_ne c u
          generalize spl c u = q at *
          cases q with
          | nil => exact absurd rfl this
          | cons p q => simp at h2 ⊢; exact h2
        rw [spl_snoc x h3, ← h1]
        split <;> simp
      | cons z A =>
        rw [List.cons_append] at h
        injection h with h1 h2
        have h3 : spl c u = ((spl c u).headD [] :: A) ++ [b] := by
          have := spl_ne c u
          generalize spl c u = q at *
          cases q with
          | nil => exact absurd rfl this
          | cons p q => simp at h2 ⊢; exact h2
        rw [spl_snoc x h3, ← h1]
        split <;> simp
theorem spl_mem {c : UInt8} : ∀ {s a : List UInt8}, a ∈ spl c s → c ∉ a
  | [], a, h => by simp [spl] at h; simp [h]
  | x :: xs, a, h => by
    rw [spl] at h
    split at h
    · rcases List.mem_cons.1 h with h | h
      · simp [h]
      · exact spl_mem h
    · rename_i hx
      rcases List.mem_cons.1 h with h | h
      · rw [h]
        intro hc
        rcases List.mem_cons.1 hc with e | e
        · exact hx e.symm
        · have hne := spl_ne c xs
          generalize hq : spl c xs = q at *
          cases q with
          | nil => exact absurd rfl hne
          | cons p q => exact spl_mem (s := xs) (by rw [hq]; exact List.mem_cons_self ..) e
      · exact spl_mem (List.mem_of_mem_tail h)
theorem spl_join {c : UInt8} : ∀ {s : List UInt8} {A : List (List UInt8)} {b : List UInt8}, spl c s = A ++ [b] → s = A.flatMap (· ++ [c]) ++ b
  | [], A, b, h => by
    cases A with
    | nil => simp [spl] at h; simp [h]
    | cons y ys => simp [spl] at h
  | x :: xs, A, b, h => by
    rw [spl] at h
    by_cases hx : x = c
    · rw [if_pos hx] at h
      cases A with
      | nil =>
        have := spl_ne c xs
        simp at h
        exact absurd h.2 this
      | cons z A =>
        rw [List.cons_append] at h
        injection h with h1 h2
        rw [spl_join h2, ← h1, hx]; simp
    · rw [if_neg hx] at h
      have hne := spl_ne c xs
      generalize hq : spl c xs = q at *
      cases q with
      | nil => exact absurd rfl hne
      | cons p q =>
        simp only [List.headD_cons, List.tail_cons] at h
        cases A with
        | nil =>
          rw [List.nil_append] at h
          injection h with h1 h2
          have := spl_join (A := []) (b := p) (s := xs) (by rw [hq, h2]; rfl)
          rw [this, ← h1]; simp
        | cons z A =>
          rw [List.cons_append] at h
          injection h with h1 h2
          have := spl_join (A := p :: A) (b := b) (s := xs) (by rw [hq, h2]; rfl)
          rw [this, ← h1]; simp
theorem spl_glue {c : UInt8} : ∀ {A : List (List UInt8)}, (∀ a ∈ A, c ∉ a) → spl c (A.flatMap (· ++ [c])) = A ++ [[]]
  | [], _ => rfl
  | a :: A, h => by
    rw [List.flatMap_cons, List.append_assoc, List.singleton_append, spl_cons _ (h a (List.mem_cons_self ..)), spl_glue (fun x hx => h x (List.mem_cons_of_mem _ hx))]; rfl
theorem spl_len_le (c : UInt8) : ∀ s : List UInt8, (spl c s).length ≤ s.length + 1
  | [] => by simp [spl]
  | x :: xs => by
    have := spl_len_le c xs
    rw [spl]
    split
    · simp; omega
    · simp; omega
/-- the library's splitting at one byte is this one -/
theorem splK_spl (c : UInt8) : ∀ (k : Nat) (s : List UInt8), Lib.count s [c] ≤ k → Lib.splitK [c] 0 k s = spl c s
  | k, s, h => by
    have hio := Lib.index_one s c
    rcases Lib.index_spec s [c] with ⟨h1, -⟩ | ⟨i, h1, h2, -, -⟩
    · rw [h1] at hio
      have hn : c ∉ s := by
        intro hc
        obtain ⟨j, hj, e⟩ := List.getElem_of_mem hc
        exact Lib.indexByte_none hio.symm j (by rw [List.getElem?_eq_getElem hj, e])
      rw [spl_none hn]
      cases k with
      | zero => rfl
      | succ k => rw [Lib.splitK, if_pos (by rw [h1]; rfl)]
    · rw [h1] at hio
      obtain ⟨q1, q2⟩ := Lib.indexByte_some hio.symm
      have hc := Lib.count_hit (s := s) (sub := [c]) (by simp) h1
      rw [List.length_singleton] at hc
      have hi : i < s.length := by
        rcases Nat.lt_or_ge i s.length with h | h
        · exact h
        · rw [List.getElem?_eq_none h] at q1; cases q1
      have hs : s = s.take i ++ c :: s.drop (i + 1) := by
        have e : s[i] = c := by rw [List.getElem?_eq_getElem hi] at q1; injection q1
        rw [← e, ← List.drop_eq_getElem_cons hi, List.take_append_drop]
      have hn : c ∉ s.take i := by
        intro hm
        obtain ⟨j, hj, e⟩ := List.getElem_of_mem hm
        rw [List.length_take] at hj
        rw [List.getElem_take] at e
        exact q2 j (by omega) (by rw [List.getElem?_eq_getElem (by omega), e])
      cases k with
      | zero => omega
      | succ k =>
        rw [Lib.splitK, if_neg (by rw [h1]; simp), h1, Int.toNat_natCast, Nat.add_zero, List.length_singleton, splK_spl c k _ (by omega)]
        conv => rhs; rw [hs]
        rw [spl_cons _ hn]
def linS (c : UInt8) (s : ByteArray) : List ByteArray := (spl c s.data.toList).map fun l => ⟨l.toArray⟩
theorem splitB_lin (c : UInt8) (s : ByteArray) : Lib.splitB ⟨#[c]⟩ 0 (Lib.countB s ⟨#[c]⟩) s = linS c s := by
  have h := Lib.splitB_data ⟨#[c]⟩ 0 (Lib.countB s ⟨#[c]⟩) s
  have e : (ByteArray.mk #[c]).data.toList = [c] := rfl
  rw [e, splK_spl c _ _ (by show Lib.count _ _ ≤ Lib.count _ _; rw [e]; exact Nat.le_refl _)] at h
  rw [linS, ← h, List.map_map]
  conv => lhs; rw [← List.map_id (Lib.splitB ⟨#[c]⟩ 0 (Lib.countB s ⟨#[c]⟩) s)]
  apply List.map_congr_left
  intro x _
  rfl
theorem lin_len (c : UInt8) (s : ByteArray) : (linS c s).length = (spl c s.data.toList).length := by rw [linS, List.length_map]
theorem countB_lin (c : UInt8) (s : ByteArray) : Lib.countB s ⟨#[c]⟩ + 1 = (spl c s.data.toList).length := by
  have : ∀ (k : Nat) (s : List UInt8), Lib.count s [c] = k → (spl c s).length = k + 1 := by
    intro k
    induction k with
    | zero =>
      intro s h
      have hio := Lib.index_one s c
      rcases Lib.index_spec s [c] with ⟨h1, -⟩ | ⟨i, h1, h2, -, -⟩
      · rw [h1] at hio
        have hn : c ∉ s := by
          intro hc
          obtain ⟨j, hj, e⟩ := List.getElem_of_mem hc
          exact Lib.indexByte_none hio.symm j (by rw [List.getElem?_eq_getElem hj, e])
        rw [spl_none hn]; rfl
      · have hc := Lib.count_hit (s := s) (sub := [c]) (by simp) h1
        omega
    | succ k ih =>
      intro s h
      have hio := Lib.index_one s c
      rcases Lib.index_spec s [c] with ⟨h1, -⟩ | ⟨i, h1, h2, -, -⟩
      · have := Lib.count_miss h1
        omega
      · have hc := Lib.count_hit (s := s) (sub := [c]) (by simp) h1
        rw [List.length_singleton] at hc
        have e := splK_spl c (k + 1) s (by omega)
        have e2 := splK_spl c k (s.drop (i + 1)) (by omega)
        rw [Lib.splitK, if_neg (by rw [h1]; simp), h1, Int.toNat_natCast, List.length_singleton, e2] at e
        rw [← e, List.length_cons, ih _ (by omega)]
  exact (this _ _ rfl).symm
/-- the program's cut at the first blank -/
theorem cut_none {a : List UInt8} (h : (32 : UInt8) ∉ a) : Lib.cut a [32] = (a, [], false) := by
  have hio := Lib.index_one a 32
  rcases Lib.index_spec a [32] with ⟨h1, -⟩ | ⟨i, h1, -, -, -⟩
  · rw [Lib.cut, if_neg (by rw [h1]; omega)]
  · rw [h1] at hio
    obtain ⟨q1, q2⟩ := Lib.indexByte_some hio.symm
    exact absurd (List.mem_of_getElem? q1) h
theorem cut_some {x y : List UInt8} (h : (32 : UInt8) ∉ x) : Lib.cut (x ++ 32 :: y) [32] = (x, y, true) := by
  have hio := Lib.index_one (x ++ 32 :: y) 32
  rcases Lib.index_spec (x ++ 32 :: y) [32] with ⟨h1, -⟩ | ⟨i, h1, h2, -, -⟩
  · rw [h1] at hio
    exact absurd (by simp) (Lib.indexByte_none hio.symm x.length)
  · rw [h1] at hio
    obtain ⟨q1, q2⟩ := Lib.indexByte_some hio.symm
    have hx : i = x.length := by
      rcases Nat.lt_trichotomy i x.length with hl | hl | hl
      · rw [List.getElem?_append_left hl] at q1
        exact absurd (List.mem_of_getElem? q1) h
      · exact hl
      · exact absurd (by simp) (q2 x.length hl)
    subst hx
    rw [Lib.cut, if_pos (by rw [h1]; omega), h1, Int.toNat_natCast]
    simp
theorem blank_cases : ∀ (a : List UInt8), (32 : UInt8) ∉ a ∨ ∃ x y, a = x ++ 32 :: y ∧ (32 : UInt8) ∉ x
  | [] => .inl (by simp)
  | z :: a => by
    by_cases hz : z = 32
    · exact .inr ⟨[], a, by rw [hz]; rfl, by simp⟩
    · rcases blank_cases a with h | ⟨x, y, e1, e2⟩
      · refine .inl (fun hm => ?_)
        rcases List.mem_cons.1 hm with q | q
        · exact hz q.symm
        · exact h q
      · refine .inr ⟨z :: x, y, by rw [e1]; rfl, fun hm => ?_⟩
        rcases List.mem_cons.1 hm with q | q
        · exact hz q.symm
        · exact e2 q
/-- digits, behind what has been read -/
def nuV : Nat → List UInt8 → Option Nat
  | acc, [] => some acc
  | acc, c :: r => if 48 ≤ c.toNat ∧ c.toNat ≤ 57 then nuV (acc * 10 + (c.toNat - 48)) r else none
/-- a numeral of at most 18 digits without needless noughts -/
def nuF (l : List UInt8) : Option Nat := if l.length < 1 ∨ 18 < l.length ∨ (l.getD 0 0 = 48 ∧ 1 < l.length) then none else nuV 0 l
theorem nuV_app : ∀ (a b : List UInt8) (acc : Nat), nuV acc (a ++ b) = (nuV acc a).bind (fun x => nuV x b)
  | [], b, acc => rfl
  | c :: a, b, acc => by
    rw [List.cons_append, nuV, nuV]
    split
    · exact nuV_app a b _
    · rfl
theorem nuV_bd : ∀ (l : List UInt8) (acc n : Nat), nuV acc l = some n → acc ≤ n ∧ n < (acc + 1) * 10 ^ l.length
  | [], acc, n, h => by injection h with h; subst h; simp
  | c :: r, acc, n, h => by
    rw [nuV] at h
    split at h
    · rename_i hc
      obtain ⟨h1, h2⟩ := nuV_bd r _ _ h
      refine ⟨by omega, Nat.lt_of_lt_of_le h2 ?_⟩
      rw [List.length_cons, Nat.pow_succ, Nat.mul_comm (10 ^ r.length) 10, ← Nat.mul_assoc]
      exact Nat.mul_le_mul_right _ (by omega)
    · cases h
theorem nuF_bd {l : List UInt8} {n : Nat} (h : nuF l = some n) : n < 1000000000000000000 := by
  unfold nuF at h
  split at h
  · cases h
  · rename_i hc
    have := (nuV_bd l 0 n h).2
    have h2 : 10 ^ l.length ≤ 10 ^ 18 := Nat.pow_le_pow_right (by omega) (by omega)
    omega
theorem dig_ok {k : Nat} (h : k < 10) : (UInt8.ofNat (48 + k)).toNat = 48 + k := by rw [UInt8.toNat_ofNat']; omega
theorem dec_last {u : Nat} (h : ¬ u < 10) : Lib.decDigits u = Lib.decDigits (u / 10) ++ [UInt8.ofNat (48 + u % 10)] := by rw [Lib.decDigits, dif_neg h]
theorem dec_small {u : Nat} (h : u < 10) : Lib.decDigits u = [UInt8.ofNat (48 + u)] := by rw [Lib.decDigits, dif_pos h]
theorem dec_nuV : ∀ (f u : Nat), u < f → nuV 0 (Lib.decDigits u) = some u
  | 0, _, h => by omega
  | f + 1, u, h => by
    by_cases hu : u < 10
    · rw [dec_small hu, nuV, dig_ok hu, if_pos (by omega), nuV]; congr 1; omega
    · rw [dec_last hu, nuV_app, dec_nuV f (u / 10) (by omega)]
      show nuV (u / 10) _ = _
      rw [nuV, dig_ok (by omega), if_pos (by omega), nuV]; congr 1; omega
theorem dec_head : ∀ (f u : Nat), u < f → (Lib.decDigits u).length ≥ 1 ∧ (1 ≤ u → (Lib.decDigits u).getD 0 0 ≠ 48)
  | 0, _, h => by omega
  | f + 1, u, h => by
    by_cases hu : u < 10
    · rw [dec_small hu]
      refine ⟨by simp, fun h1 e => ?_⟩
      have := congrArg UInt8.toNat e
      simp only [List.getD_cons_zero, dig_ok hu] at this
      have h48 : (48 : UInt8).toNat = 48 := rfl
      omega
    · obtain ⟨h1, h2⟩ := dec_head f (u / 10) (by omega)
      rw [dec_last hu]
      refine ⟨by simp, fun _ => ?_⟩
      rw [List.getD, List.getElem?_append_left (by omega)]
      exact h2 (by omega)
theorem dec_len18 : ∀ (k u : Nat), u < 10 ^ (k + 1) → (Lib.decDigits u).length ≤ k + 1
  | 0, u, h => by rw [dec_small (by simpa using h)]; simp
  | k + 1, u, h => by
    by_cases hu : u < 10
    · rw [dec_small hu]; simp
    · have := dec_len18 k (u / 10) (by rw [Nat.pow_succ] at h; omega)
      rw [dec_last hu, List.length_append]; simp; omega
theorem nuF_dec {u : Nat} (h : u < 1000000000000000000) : nuF (Lib.decDigits u) = some u := by
  obtain ⟨h1, h2⟩ := dec_head (u + 1) u (by omega)
  have h3 := dec_len18 17 u (by omega)
  rw [nuF, if_neg, dec_nuV (u + 1) u (by omega)]
  rintro (q | q | ⟨q1, q2⟩)
  · omega
  · omega
  · by_cases hu : 1 ≤ u
    · exact h2 hu q1
    · rw [dec_small (by omega)] at q2; simp at q2
theorem dec_of_nuV : ∀ (k : Nat) (l : List UInt8) (n : Nat), l.length = k + 1 → (l.getD 0 0 = 48 → l.length = 1) → nuV 0 l = some n → l = Lib.decDigits n ∧ (l.getD 0 0 ≠ 48 → 1 ≤ n)
  | 0, l, n, hl, _, h => by
    obtain ⟨c, rfl⟩ := List.length_eq_one_iff.1 hl
    rw [nuV] at h
    split at h
    · rename_i hc
      rw [nuV] at h
      injection h with h
      have hd : UInt8.ofNat (48 + n) = c := by
        apply UInt8.toNat_inj.1
        rw [dig_ok (by omega)]; omega
      refine ⟨by rw [dec_small (by omega), hd], fun hne => ?_⟩
      apply Classical.byContradiction
      intro hn
      apply hne
      apply UInt8.toNat_inj.1
      have h48 : (48 : UInt8).toNat = 48 := rfl
      simp only [List.getD_cons_zero]
      omega
    · cases h
  | k + 1, l, n, hl, h0, h => by
    have hne : l ≠ [] := fun e => by rw [e] at hl; simp at hl
    have e := List.dropLast_concat_getLast hne
    have hd : l.dropLast.length = k + 1 := by rw [List.length_dropLast, hl]; rfl
    have hg : l.dropLast.getD 0 0 = l.getD 0 0 := by
      conv => rhs; rw [← e]
      rw [List.getD, List.getD, List.getElem?_append_left (by omega)]
    have h48 : l.getD 0 0 ≠ 48 := fun q => by have := h0 q; omega
    rw [← e, nuV_app] at h
    cases hq : nuV 0 l.dropLast with
    | none => rw [hq] at h; cases h
    | some m =>
      rw [hq] at h
      obtain ⟨i1, i2⟩ := dec_of_nuV k l.dropLast m hd (fun q => absurd (hg ▸ q) h48) hq
      have hm := i2 (by rw [hg]; exact h48)
      have h' : nuV m [l.getLast hne] = some n := h
      rw [nuV] at h'
      split at h'
      · rename_i hc
        rw [nuV] at h'
        injection h' with h'
        generalize l.getLast hne = c at *
        have hcd : UInt8.ofNat (48 + n % 10) = c := by
          apply UInt8.toNat_inj.1
          rw [dig_ok (by omega)]; omega
        refine ⟨?_, fun _ => by omega⟩
        rw [dec_last (by omega), hcd, show n / 10 = m by omega, ← i1, e]
      · cases h'
theorem dec_of_nuF {l : List UInt8} {n : Nat} (h : nuF l = some n) : l = Lib.decDigits n := by
  unfold nuF at h
  split at h
  · cases h
  · rename_i hc
    exact (dec_of_nuV (l.length - 1) l n (by omega) (fun e => by
      apply Classical.byContradiction; intro hn; exact hc (.inr (.inr ⟨e, by omega⟩))) h).1
theorem parM : ∀ (l : List UInt8) (acc n : Nat), nuV acc l = some n → n < 1000000000000000000 → Lib.parseUintM (2 ^ 64 - 1) acc l = .ok n
  | [], acc, n, h, _ => by injection h with h; subst h; rfl
  | c :: r, acc, n, h, hn => by
    have hb := (nuV_bd (c :: r) acc n h).1
    rw [nuV] at h
    split at h
    · rename_i hc
      have h2 := (nuV_bd r _ n h).1
      rw [Lib.parseUintM, if_pos hc, if_neg (by omega), if_neg (by omega)]
      exact parM r _ n h hn
    · cases h
theorem par_nuF {l : List UInt8} {n : Nat} (h : nuF l = some n) : Lib.parseIntB 64 l = .ok (n : Int) := by
  have hb := nuF_bd h
  unfold nuF at h
  split at h
  · cases h
  · rename_i hc
    match l, h, hc with
    | [], _, hc => simp at hc
    | c :: r, h, hc =>
      have hd : 48 ≤ c.toNat ∧ c.toNat ≤ 57 := by
        rw [nuV] at h
        split at h
        · assumption
        · cases h
      have hp := parM (c :: r) 0 n h hb
      have e : Lib.parseUintB 64 (c :: r) = .ok n := by rw [Lib.parseUintB, if_neg (by simp)]; exact hp
      have h1 : ¬ (c.toNat = 43 ∨ c.toNat = 45) := by omega
      have h2 : ¬ (c.toNat = 45) := by omega
      unfold Lib.parseIntB
      simp only [if_neg h1]
      rw [e]
      have h3 : ¬ (2 ^ 63 ≤ n) := by omega
      simp [h2]
      omega
end Go.Proofs.YtimfbnjgodbgoaaDoor

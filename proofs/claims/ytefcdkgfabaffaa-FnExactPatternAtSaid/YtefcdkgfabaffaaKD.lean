/- The lengths of the codes of the words of rules: plain tables and their law. -/
import Derived.Test.YtefcdkgfabaffaaKC
import Derived.Test.YtefcdkgfabaffaaY3
import Derived.Test.YtefcdkgfabaffaaGE
namespace Go.Proofs.Ytefcdkgfabaffaa
open Go.ChangeShapes Go.WideShapes Go.RowKit
set_option linter.unusedVariables false
set_option linter.unusedSimpArgs false
set_option maxHeartbeats 2000000
set_option maxRecDepth 100000
def cdE (f : Int → Int) (m : Tb) (ou : Ts) (out : Tb) (r : Ru) (s : Nat) : Int := if r.1.size = 0 then f ((tA out r.2.1.toNat).getD s 0 + (tA out r.2.2.toNat).getD ((tA m r.2.1.toNat).getD s 0).toNat 0) else (((uA ou s).getD (lcI r.1) ⟨#[]⟩).size : Int)
def cdR (f : Int → Int) (m : Tb) (ou : Ts) (out : Tb) (r : Ru) : Nat → List Int
  | 0 => []
  | s + 1 => cdR f m ou out r s ++ [cdE f m ou out r s]
def cdT (f : Int → Int) (m : Tb) (ou : Ts) (n : Nat) (l : List Ru) : Nat → Tb
  | 0 => []
  | k + 1 => cdT f m ou n l k ++ [cdR f m ou (cdT f m ou n l k) (ruA l k) n]
theorem cdR_len (f : Int → Int) (m : Tb) (ou : Ts) (out : Tb) (r : Ru) : ∀ s, (cdR f m ou out r s).length = s
  | 0 => rfl
  | s + 1 => by rw [cdR, List.length_append, cdR_len f m ou out r s]; rfl
theorem cdR_at (f : Int → Int) (m : Tb) (ou : Ts) (out : Tb) (r : Ru) : ∀ {n s : Nat}, s < n → (cdR f m ou out r n).getD s 0 = cdE f m ou out r s
  | 0, s, h => by omega
  | n + 1, s, h => by
    have hl := cdR_len f m ou out r n
    rw [cdR]
    by_cases he : s < n
    · rw [List.getD, List.getElem?_append_left (by omega)]; exact cdR_at f m ou out r he
    · have e : s = n := by omega
      subst e
      rw [List.getD, List.getElem?_append_right (by omega), hl]; simp
theorem cdT_len (f : Int → Int) (m : Tb) (ou : Ts) (n : Nat) (l : List Ru) : ∀ k, (cdT f m ou n l k).length = k
  | 0 => rfl
  | k + 1 => by rw [cdT, List.length_append, cdT_len f m ou n l k]; rfl
theorem cdT_at (f : Int → Int) (m : Tb) (ou : Ts) (n : Nat) (l : List Ru) : ∀ {k p : Nat}, p < k → tA (cdT f m ou n l k) p = cdR f m ou (cdT f m ou n l p) (ruA l p) n
  | 0, p, h => by omega
  | k + 1, p, h => by
    have hl := cdT_len f m ou n l k
    rw [cdT]
    by_cases he : p < k
    · rw [tA_app (by omega)]; exact cdT_at f m ou n l he
    · have e : p = k := by omega
      subst e
      have := @tA_last (cdT f m ou n l p) (cdR f m ou (cdT f m ou n l p) (ruA l p) n)
      rwa [hl] at this
theorem cdT_row (f : Int → Int) (m : Tb) (ou : Ts) (n : Nat) (l : List Ru) {k p : Nat} (h : p < k) : (tA (cdT f m ou n l k) p).length = n := by rw [cdT_at f m ou n l h, cdR_len]
/-- what the tables rest on -/
structure cdP (m : Tb) (ou : Ts) (n : Nat) (l : List Ru) : Prop where
  ok : gOk l = true
  mp : ∀ p s, p < l.length → s < n → 0 ≤ (tA m p).getD s 0 ∧ (tA m p).getD s 0 < n
  op : ∀ s, s < n → ∀ c, c < 4 → ((uA ou s).getD c ⟨#[]⟩).size ≤ 6
theorem cdT_bd {f : Int → Int} (hf : ∀ x, 0 ≤ x → 0 ≤ f x ∧ f x ≤ x) {m : Tb} {ou : Ts} {n : Nat} {l : List Ru} (H : cdP m ou n l) : ∀ (k p s : Nat), p < k → k ≤ l.length → s < n → 0 ≤ (tA (cdT f m ou n l k) p).getD s 0 ∧ (tA (cdT f m ou n l k) p).getD s 0 ≤ 6 * (gLn l).getD p 0
  | 0, p, s, h, _, _ => by omega
  | k + 1, p, s, h, hk, hs => by
    rw [cdT_at f m ou n l h, cdR_at f m ou _ _ hs, cdE]
    split
    · rename_i hz
      obtain ⟨q1, q2, q3, q4⟩ := (gOk_rule H.ok (show p < l.length by omega)).1 hz
      have hsum := (gOk_len H.ok (show p < l.length by omega)).1 hz
      have hp : ∀ q, q < p → ∀ s', s' < n → 0 ≤ (tA (cdT f m ou n l p) q).getD s' 0 ∧ (tA (cdT f m ou n l p) q).getD s' 0 ≤ 6 * (gLn l).getD q 0 := fun q hq s' hs' => by
        have := cdT_bd hf H k q s' (by omega) (by omega) hs'
        rwa [cdT_at f m ou n l (show q < k by omega), ← cdT_at f m ou n l hq] at this
      have h1 := hp (ruA l p).2.1.toNat (by omega) s hs
      have hm := H.mp (ruA l p).2.1.toNat s (by omega) hs
      have h2 := hp (ruA l p).2.2.toNat (by omega) ((tA m (ruA l p).2.1.toNat).getD s 0).toNat (by omega)
      have h3 := hf _ (show 0 ≤ (tA (cdT f m ou n l p) (ruA l p).2.1.toNat).getD s 0 + (tA (cdT f m ou n l p) (ruA l p).2.2.toNat).getD ((tA m (ruA l p).2.1.toNat).getD s 0).toNat 0 by omega)
      omega
    · rename_i hz
      obtain ⟨q1, q2, q3, q4⟩ := (gOk_rule H.ok (show p < l.length by omega)).2 hz
      have h1 := (gOk_len H.ok (show p < l.length by omega)).2 hz
      have h4 := (lcI_ok q1 q2 (by omega)).1
      have := H.op s hs _ h4
      omega
theorem cdT_min {m : Tb} {ou : Ts} {n : Nat} {l : List Ru} (H : cdP m ou n l) : ∀ (k p s : Nat), p < k → k ≤ l.length → s < n → (tA (cdT (fun x => min 1000000000000001 x) m ou n l k) p).getD s 0 = min 1000000000000001 ((tA (cdT (fun x => x) m ou n l k) p).getD s 0)
  | 0, p, s, h, _, _ => by omega
  | k + 1, p, s, h, hk, hs => by
    have e1 := cdT_at (fun x => min 1000000000000001 x) m ou n l h
    have e2 := cdT_at (fun x => x) m ou n l h
    rw [e1, e2, cdR_at _ m ou _ _ hs, cdR_at _ m ou _ _ hs, cdE, cdE]
    split
    · rename_i hz
      obtain ⟨q1, q2, q3, q4⟩ := (gOk_rule H.ok (show p < l.length by omega)).1 hz
      have hp : ∀ q, q < p → ∀ s', s' < n → (tA (cdT (fun x => min 1000000000000001 x) m ou n l p) q).getD s' 0 = min 1000000000000001 ((tA (cdT (fun x => x) m ou n l p) q).getD s' 0) ∧ 0 ≤ (tA (cdT (fun x => x) m ou n l p) q).getD s' 0 := fun q hq s' hs' => by
        have h1 := cdT_min H k q s' (by omega) (by omega) hs'
        have h2 := (cdT_bd (f := fun x => x) (fun x hx => ⟨hx, Int.le_refl _⟩) H k q s' (by omega) (by omega) hs').1
        rw [cdT_at _ m ou n l (show q < k by omega), cdT_at _ m ou n l (show q < k by omega), ← cdT_at _ m ou n l hq, ← cdT_at _ m ou n l hq] at h1
        rw [cdT_at _ m ou n l (show q < k by omega), ← cdT_at _ m ou n l hq] at h2
        exact ⟨h1, h2⟩
      have h1 := hp (ruA l p).2.1.toNat (by omega) s hs
      have hm := H.mp (ruA l p).2.1.toNat s (by omega) hs
      have h2 := hp (ruA l p).2.2.toNat (by omega) ((tA m (ruA l p).2.1.toNat).getD s 0).toNat (by omega)
      omega
    · rename_i hz
      obtain ⟨q1, q2, q3, q4⟩ := (gOk_rule H.ok (show p < l.length by omega)).2 hz
      have h4 := (lcI_ok q1 q2 (by omega)).1
      have := H.op s hs _ h4
      omega
/-- the length of the code of a grammar's word -/
def cdN (f : Int → Int) (a : Co) (l : List Ru) : Int := if l.length = 0 then 0 else (tA (cdT f (gSm a.nx l) a.ou a.nx.length l l.length) (l.length - 1)).getD a.sa.toNat 0
def cdV (a : Co) (l : List Ru) : Int := if (coOk a && gOk l) = true then (if cdN (fun x => x) a l ≤ 1000000000000000 then cdN (fun x => x) a l else 0) else 0
def cdC (a : Co) (l : List Ru) : Int := if (coOk a && gOk l) = true then (if cdN (fun x => x) a l ≤ 1000000000000000 then 0 else 3) else 1
theorem coOk_facts {a : Co} (h : coOk a = true) : (1 ≤ a.st ∧ a.st ≤ 24) ∧ (0 ≤ a.sa ∧ a.sa ≤ a.st - 1) ∧ (a.nx.length : Int) = a.st ∧ (a.ou.length : Int) = a.st ∧ nxP a.nx ∧ ∀ s, s < a.ou.length → (uA a.ou s).length = 4 ∧ ∀ c, c < 4 → ((uA a.ou s).getD c ⟨#[]⟩).size ≤ 6 ∧ validB ((uA a.ou s).getD c ⟨#[]⟩) = true := by
  simp only [coOk, maOk, nxOk, ouOk, Bool.and_eq_true, decide_eq_true_eq] at h
  obtain ⟨⟨⟨⟨h1, h2⟩, h4, h5⟩, h6⟩, h7⟩ := h
  refine ⟨h1, h2, h5, h6, fun s hs => by rw [h5]; exact h4 s hs, fun s hs => ?_⟩
  obtain ⟨g1, g2⟩ := h7 s hs
  refine ⟨g1, fun c hc => ?_⟩
  have := g2 c hc
  simp only [okS, Bool.and_eq_true, decide_eq_true_eq] at this
  exact this
theorem cdP_of {a : Co} {l : List Ru} (h : coOk a = true) (hg : gOk l = true) : cdP (gSm a.nx l) a.ou a.nx.length l := by
  obtain ⟨h1, h2, h3, h4, h5, h6⟩ := coOk_facts h
  exact ⟨hg, fun p s hp hs => smT_bd h5 hg l.length p s hp (Nat.le_refl _) hs, fun s hs c hc => ((h6 s (by omega)).2 c hc).1⟩
theorem cdN_min {a : Co} {l : List Ru} (h : coOk a = true) (hg : gOk l = true) : cdN (fun x => min 1000000000000001 x) a l = min 1000000000000001 (cdN (fun x => x) a l) ∧ 0 ≤ cdN (fun x => x) a l ∧ cdN (fun x => x) a l ≤ 6000000000000000 := by
  unfold cdN
  split
  · omega
  · rename_i hz
    obtain ⟨h1, h2, h3, h4, h5, h6⟩ := coOk_facts h
    have H := cdP_of h hg
    have e := cdT_min H l.length (l.length - 1) a.sa.toNat (by omega) (Nat.le_refl _) (by omega)
    have b := cdT_bd (f := fun x => x) (fun x hx => ⟨hx, Int.le_refl _⟩) H l.length (l.length - 1) a.sa.toNat (by omega) (Nat.le_refl _) (by omega)
    have g := (gOk_some hg).2.2
    have hb : (gLn l).getD (l.length - 1) 0 ≤ 1000000000000000 := by
      rw [List.getD, List.getElem?_eq_getElem (by omega)]
      exact (g.2 _ (List.getElem_mem (by omega))).2
    exact ⟨e, by omega⟩
end Go.Proofs.Ytefcdkgfabaffaa

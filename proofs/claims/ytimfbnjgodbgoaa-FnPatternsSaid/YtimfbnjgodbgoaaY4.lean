/- How often states are met: the plain tables. -/
import Derived.Test.YtimfbnjgodbgoaaKR
import Derived.Test.YtimfbnjgodbgoaaGE
namespace Go.Proofs.Ytimfbnjgodbgoaa
open Go.ChangeShapes Go.WideShapes Go.RowKit
set_option linter.unusedVariables false
set_option linter.unusedSimpArgs false
set_option maxHeartbeats 2000000
set_option maxRecDepth 100000
/-- numbers that 64 bits hold -/
def okI (x : Int) : Prop := IntKind.i64.wrap x = x
theorem okI_zero : okI 0 := by unfold okI; rw [IntWalk.i64_in _ (by omega)]
theorem okI_wrap (x : Int) : okI (IntKind.i64.wrap x) := by
  unfold okI
  rw [IntWalk.i64_in]
  rw [IntWalk.i64_left]; unfold wrap64; omega
def addL (xs : List Int) (k : Nat) (n : Int) : List Int := xs.set k (IntKind.i64.wrap (xs.getD k 0 + n))
def addT (t : Tb) (r k : Nat) (n : Int) : Tb := t.set r (addL (tA t r) k n)
theorem addL_len (xs : List Int) (k : Nat) (n : Int) : (addL xs k n).length = xs.length := by simp [addL]
theorem addT_len (t : Tb) (r k : Nat) (n : Int) : (addT t r k n).length = t.length := by simp [addT]
theorem addT_at {t : Tb} {r : Nat} (k : Nat) (n : Int) (h : r < t.length) : tA (addT t r k n) r = addL (tA t r) k n := by
  simp [tA, addT, List.getD, h]
theorem addT_ne {t : Tb} {r p : Nat} (k : Nat) (n : Int) (h : p ≠ r) : tA (addT t r k n) p = tA t p := by
  simp only [tA, addT, List.getD]
  rw [List.getElem?_set_ne (by omega)]
theorem addL_zero {xs : List Int} {k : Nat} (h : ∀ x ∈ xs, okI x) : addL xs k 0 = xs := by
  unfold addL
  rw [Int.add_zero]
  apply List.ext_getElem (by simp)
  intro i h1 h2
  by_cases he : k = i
  · subst he
    rw [List.getElem_set_self, List.getD, List.getElem?_eq_getElem h2]
    exact h _ (List.getElem_mem h2)
  · rw [List.getElem_set_ne he]
theorem addL_ok {xs : List Int} {k : Nat} {n : Int} (h : ∀ x ∈ xs, okI x) : ∀ x ∈ addL xs k n, okI x := by
  intro x hx
  unfold addL at hx
  rcases List.mem_or_eq_of_mem_set hx with h1 | h1
  · exact h x h1
  · rw [h1]; exact okI_wrap _
/-- a table of R rows of m numbers -/
structure tbP (R m : Nat) (t : Tb) : Prop where
  len : t.length = R
  row : ∀ k, k < R → (tA t k).length = m ∧ ∀ x ∈ tA t k, okI x
theorem tbP_add {R m : Nat} {t : Tb} (h : tbP R m t) (r k : Nat) (n : Int) : tbP R m (addT t r k n) := by
  refine ⟨by rw [addT_len]; exact h.len, fun p hp => ?_⟩
  by_cases he : p = r
  · subst he
    rw [addT_at k n (by rw [h.len]; exact hp)]
    exact ⟨by rw [addL_len]; exact (h.row p hp).1, addL_ok (h.row p hp).2⟩
  · rw [addT_ne k n he]; exact h.row p hp
theorem addT_zero {R m : Nat} {t : Tb} (h : tbP R m t) {r : Nat} (hr : r < R) (k : Nat) : addT t r k 0 = t := by
  unfold addT
  rw [addL_zero (h.row r hr).2]
  apply List.ext_getElem (by simp)
  intro i h1 h2
  by_cases he : r = i
  · subst he
    rw [List.getElem_set_self, tA, List.getD, List.getElem?_eq_getElem h2]; rfl
  · rw [List.getElem_set_ne he]
def zR (m : Nat) : List Int := List.replicate m 0
def zT (R m : Nat) : Tb := List.replicate R (zR m)
theorem zR_ok (m : Nat) : ∀ x ∈ zR m, okI x := fun x hx => by rw [(List.mem_replicate.1 hx).2]; exact okI_zero
theorem zT_at {R m p : Nat} (h : p < R) : tA (zT R m) p = zR m := by simp [tA, zT, List.getD, h]
theorem zT_P (R m : Nat) : tbP R m (zT R m) := ⟨by simp [zT], fun k hk => by rw [zT_at hk]; exact ⟨by simp [zR], zR_ok m⟩⟩
/-- what is read of a rule from a state is read of its rules, or met -/
def viS (l : List Ru) (M : Tb) (i s : Nat) (n : Int) (p : Tb × List Int) : Tb × List Int :=
  if (ruA l i).1.size = 0 then (addT (addT p.1 (ruA l i).2.1.toNat s n) (ruA l i).2.2.toNat ((tA M (ruA l i).2.1.toNat).getD s 0).toNat n, p.2)
  else (p.1, addL p.2 ((tA M i).getD s 0).toNat n)
def viR (l : List Ru) (M : Tb) (i : Nat) : Nat → Tb × List Int → Tb × List Int
  | 0, p => p
  | s + 1, p => viS l M i s ((tA (viR l M i s p).1 i).getD s 0) (viR l M i s p)
def viG (l : List Ru) (M : Tb) (m : Nat) : Nat → Tb × List Int → Tb × List Int
  | 0, p => p
  | k + 1, p => viG l M m k (viR l M k m p)
/-- both are in shape -/
def vsP (R m : Nat) (p : Tb × List Int) : Prop := tbP R m p.1 ∧ p.2.length = m ∧ ∀ x ∈ p.2, okI x
theorem vsP_S {R m : Nat} {p : Tb × List Int} (h : vsP R m p) (l : List Ru) (M : Tb) (i s : Nat) (n : Int) : vsP R m (viS l M i s n p) := by
  unfold viS
  split
  · exact ⟨tbP_add (tbP_add h.1 _ _ _) _ _ _, h.2⟩
  · exact ⟨h.1, by show (addL _ _ _).length = m; rw [addL_len]; exact h.2.1, addL_ok h.2.2⟩
theorem vsP_R {R m : Nat} {p : Tb × List Int} (h : vsP R m p) (l : List Ru) (M : Tb) (i : Nat) : ∀ s, vsP R m (viR l M i s p)
  | 0 => h
  | s + 1 => vsP_S (vsP_R h l M i s) l M i s _
theorem vsP_G (l : List Ru) (M : Tb) (m R : Nat) : ∀ k {p : Tb × List Int}, vsP R m p → vsP R m (viG l M m k p)
  | 0, _, h => h
  | k + 1, _, h => vsP_G l M m R k (vsP_R h l M k m)
/-- nothing is added where nothing is read -/
theorem viS_zero {R m : Nat} {p : Tb × List Int} (h : vsP R m p) {l : List Ru} (hok : gOk l = true) (hl : l.length = R) (M : Tb) {i : Nat} (hi : i < R) (s : Nat) : viS l M i s 0 p = p := by
  unfold viS
  split
  · rename_i hz
    obtain ⟨q1, q2, q3, q4⟩ := (gOk_rule hok (show i < l.length by omega)).1 hz
    rw [addT_zero h.1 (by omega), addT_zero h.1 (by omega)]
  · rw [addL_zero h.2.2]
/-- the pieces of a part, from a state on -/
def viP (M : Tb) (p : Tb × Nat) (k : Nat) : Tb × Nat := (addT p.1 k p.2 1, ((tA M k).getD p.2 0).toNat)
def viB (M : Tb) (R m sa : Nat) (ks : List Nat) : Tb × Nat := ks.foldl (viP M) (zT R m, sa)
theorem viB_snoc (M : Tb) (R m sa : Nat) (ks : List Nat) (k : Nat) : viB M R m sa (ks ++ [k]) = viP M (viB M R m sa ks) k := by simp [viB]
theorem viB_P (M : Tb) (R m sa : Nat) : ∀ (ks : List Nat), tbP R m (viB M R m sa ks).1 := by
  intro ks
  have h : ∀ (ks : List Nat) (p : Tb × Nat), tbP R m p.1 → tbP R m (ks.foldl (viP M) p).1 := by
    intro ks
    induction ks with
    | nil => intro p h; exact h
    | cons k ks ih => intro p h; exact ih _ (tbP_add h _ _ _)
  exact h ks _ (zT_P R m)
/-- how often each state is met within the first j letters -/
def viV (a : Au) (l : List Ru) (j : Int) : List Int := (viG l (gSm a.nx l) a.nx.length l.length ((viB (gSm a.nx l) l.length a.nx.length a.sa.toNat (pcv l 0 j)).1, zR a.nx.length)).2
theorem viV_len (a : Au) (l : List Ru) (j : Int) : (viV a l j).length = a.nx.length := (vsP_G l _ _ l.length l.length ⟨viB_P _ _ _ _ _, by simp [zR], zR_ok _⟩).2.1
/-- the whole word is one piece -/
theorem pcv_all {l : List Ru} (hok : gOk l = true) : pcv l 0 (lastI (gLn l)) = if 0 < l.length then [l.length - 1] else [] := by
  unfold pcv
  by_cases hl : 0 < l.length
  · have e : lastI (gLn l) = (gLn l).getD (l.length - 1) 0 := by rw [lastI_at (by rw [(gOk_some hok).2.2.1]; omega), (gOk_some hok).2.2.1]
    have hbd := (gOk_some hok).2.2.2 _ (getD_mem (show l.length - 1 < (gLn l).length by rw [(gOk_some hok).2.2.1]; omega))
    rw [e, if_pos ⟨hl, by omega⟩, if_pos hl]
    obtain ⟨f, hf⟩ : ∃ f, l.length = f + 1 := ⟨l.length - 1, by omega⟩
    have e2 : ∀ k, cov l (gLn l) 0 ((gLn l).getD k 0) (f + 1) k 0 = if (0 : Int) + (gLn l).getD k 0 ≤ 0 ∨ (gLn l).getD k 0 ≤ 0 then [] else if (0 : Int) ≤ 0 ∧ 0 + (gLn l).getD k 0 ≤ (gLn l).getD k 0 then [k] else cov l (gLn l) 0 ((gLn l).getD k 0) f (ruA l k).2.1.toNat 0 ++ cov l (gLn l) 0 ((gLn l).getD k 0) f (ruA l k).2.2.toNat (0 + (gLn l).getD (ruA l k).2.1.toNat 0) := fun k => rfl
    rw [hf] at hbd ⊢
    rw [e2, if_neg (by omega), if_pos (by omega)]
  · rw [if_neg (by omega), if_neg hl]
end Go.Proofs.Ytimfbnjgodbgoaa

/- How often states are met: what the tables tell, letter by letter. -/
namespace Go.Proofs.Ytimfbnjgodbgoaa
open Go.ChangeShapes Go.WideShapes Go.RowKit
set_option linter.unusedVariables false
set_option linter.unusedSimpArgs false
set_option maxHeartbeats 2000000
set_option maxRecDepth 100000
/-- the state behind a word -/
def rdW (nx : Tb) : Nat → List UInt8 → Nat
  | s, [] => s
  | s, c :: w => rdW nx ((tA nx s).getD (c.toNat - 97) 0).toNat w
/-- how often a state is met -/
def cwW (nx : Tb) (t : Nat) : Nat → List UInt8 → Int
  | _, [] => 0
  | s, c :: w => (if ((tA nx s).getD (c.toNat - 97) 0).toNat = t then 1 else 0) + cwW nx t ((tA nx s).getD (c.toNat - 97) 0).toNat w
theorem rdW_app (nx : Tb) : ∀ (u v : List UInt8) (s : Nat), rdW nx s (u ++ v) = rdW nx (rdW nx s u) v
  | [], v, s => rfl
  | c :: u, v, s => by rw [List.cons_append, rdW, rdW, rdW_app nx u v]
theorem cwW_app (nx : Tb) (t : Nat) : ∀ (u v : List UInt8) (s : Nat), cwW nx t s (u ++ v) = cwW nx t s u + cwW nx t (rdW nx s u) v
  | [], v, s => by rw [List.nil_append, cwW, rdW]; omega
  | c :: u, v, s => by rw [List.cons_append, cwW, cwW, rdW, cwW_app nx t u v]; omega
theorem cwW_bd (nx : Tb) (t : Nat) : ∀ (u : List UInt8) (s : Nat), 0 ≤ cwW nx t s u ∧ cwW nx t s u ≤ u.length
  | [], s => by simp [cwW]
  | c :: u, s => by
    have := cwW_bd nx t u ((tA nx s).getD (c.toNat - 97) 0).toNat
    rw [cwW, List.length_cons]
    split <;> omega
theorem gSm_pair {nx : Tb} {l : List Ru} (hok : gOk l = true) {k s : Nat} (hk : k < l.length) (hs : s < nx.length) (hz : (ruA l k).1.size = 0) :
    (tA (gSm nx l) k).getD s 0 = (tA (gSm nx l) (ruA l k).2.2.toNat).getD ((tA (gSm nx l) (ruA l k).2.1.toNat).getD s 0).toNat 0 := by
  obtain ⟨q1, q2, q3, q4⟩ := (gOk_rule hok hk).1 hz
  have e : ∀ p, p < k → tA (smT nx l k) p = tA (gSm nx l) p := fun p hp => by rw [gSm, smT_at nx l hp, smT_at nx l (show p < l.length by omega)]
  rw [gSm, smT_at nx l hk, smR_at nx _ _ hs, smE, if_pos hz, e _ (by omega), e _ (by omega)]; rfl
theorem gSm_let {nx : Tb} {l : List Ru} {k s : Nat} (hk : k < l.length) (hs : s < nx.length) (hz : (ruA l k).1.size ≠ 0) :
    (tA (gSm nx l) k).getD s 0 = (tA nx s).getD (lcI (ruA l k).1) 0 := by
  rw [gSm, smT_at nx l hk, smR_at nx _ _ hs, smE, if_neg hz]
theorem one_list {x : ByteArray} (h : x.size = 1) : x.data.toList = [x[0]] := by
  apply List.ext_getElem (by simpa using h)
  intro i h1 h2
  have e : i = 0 := by simp at h2; omega
  subst e
  rfl
theorem lcI_eq {x : ByteArray} (h : x.size = 1) : lcI x = x[0].toNat - 97 := by unfold lcI; rw [dif_pos (by omega)]
/-- the maps tell the states behind the words of rules -/
theorem rd_rule {nx : Tb} {l : List Ru} (hn : nxP nx) (hok : gOk l = true) : ∀ (f k s : Nat), k < f → k < l.length → s < nx.length → ((tA (gSm nx l) k).getD s 0).toNat = rdW nx s (exF l f k)
  | 0, k, s, h, _, _ => by omega
  | f + 1, k, s, h, hk, hs => by
    by_cases hz : (ruA l k).1.size = 0
    · obtain ⟨q1, q2, q3, q4⟩ := (gOk_rule hok hk).1 hz
      have hb := smT_bd (nx := nx) hn hok l.length (ruA l k).2.1.toNat s (by omega) (Nat.le_refl _) hs
      have a := rd_rule hn hok f (ruA l k).2.1.toNat s (by omega) (by omega) hs
      have b := rd_rule hn hok f (ruA l k).2.2.toNat ((tA (gSm nx l) (ruA l k).2.1.toNat).getD s 0).toNat (by omega) (by omega) (by rw [gSm]; omega)
      rw [gSm_pair hok hk hs hz, exF_pair hz, rdW_app, ← a, ← b]
    · obtain ⟨q1, q2, q3, q4⟩ := (gOk_rule hok hk).2 hz
      rw [gSm_let hk hs hz, exF_let hz, one_list q1, rdW, rdW, lcI_eq q1]
theorem cw_pair {nx : Tb} {l : List Ru} (hn : nxP nx) (hok : gOk l = true) (t : Nat) {k s : Nat} (hk : k < l.length) (hs : s < nx.length) (hz : (ruA l k).1.size = 0) :
    cwW nx t s (exF l l.length k) = cwW nx t s (exF l l.length (ruA l k).2.1.toNat) + cwW nx t ((tA (gSm nx l) (ruA l k).2.1.toNat).getD s 0).toNat (exF l l.length (ruA l k).2.2.toNat) := by
  obtain ⟨q1, q2, q3, q4⟩ := (gOk_rule hok hk).1 hz
  rw [exF_same hok l.length (k + 1) k hk (by omega) hk, exF_pair hz, cwW_app, ← rd_rule hn hok k (ruA l k).2.1.toNat s (by omega) (by omega) hs,
    exF_same hok k l.length _ (by omega) (by omega) (by omega), exF_same hok k l.length (ruA l k).2.2.toNat (by omega) (by omega) (by omega)]
theorem cw_let {nx : Tb} {l : List Ru} (hok : gOk l = true) (t : Nat) {k s : Nat} (hk : k < l.length) (hs : s < nx.length) (hz : (ruA l k).1.size ≠ 0) :
    cwW nx t s (exF l l.length k) = if ((tA (gSm nx l) k).getD s 0).toNat = t then 1 else 0 := by
  obtain ⟨q1, q2, q3, q4⟩ := (gOk_rule hok hk).2 hz
  rw [exF_same hok l.length (k + 1) k hk (by omega) hk, exF_let hz, one_list q1, cwW, cwW, gSm_let hk hs hz, lcI_eq q1]
  omega
/-- equal but for what 64 bits lose -/
def cg (a b : Int) : Prop := ∃ q : Int, a = b + 18446744073709551616 * q
theorem cg.refl (a : Int) : cg a a := ⟨0, by omega⟩
theorem cg.trans {a b c : Int} (h : cg a b) (k : cg b c) : cg a c := by
  obtain ⟨p, hp⟩ := h
  obtain ⟨q, hq⟩ := k
  exact ⟨p + q, by omega⟩
theorem cg.add {a b c d : Int} (h : cg a b) (k : cg c d) : cg (a + c) (b + d) := by
  obtain ⟨p, hp⟩ := h
  obtain ⟨q, hq⟩ := k
  exact ⟨p + q, by omega⟩
theorem cg.mul {a b : Int} (h : cg a b) (c : Int) : cg (a * c) (b * c) := by
  obtain ⟨p, hp⟩ := h
  exact ⟨p * c, by rw [hp, Int.add_mul, Int.mul_assoc]⟩
theorem cg_wrap (x : Int) : cg (IntKind.i64.wrap x) x := by
  rw [IntWalk.i64_left]
  unfold wrap64 cg
  exact ⟨-((x + 9223372036854775808) / 18446744073709551616), by omega⟩
theorem okI_bd {x : Int} (h : okI x) : -9223372036854775808 ≤ x ∧ x ≤ 9223372036854775807 := by
  unfold okI at h
  rw [IntWalk.i64_left] at h
  unfold wrap64 at h
  omega
theorem cg_eq {a b : Int} (h : cg a b) (ha : okI a) (hb : -9223372036854775808 ≤ b ∧ b ≤ 9223372036854775807) : a = b := by
  obtain ⟨q, hq⟩ := h
  have := okI_bd ha
  omega
def rsS (xs : List Int) (c : Nat → Int) : Nat → Int
  | 0 => 0
  | s + 1 => rsS xs c s + xs.getD s 0 * c s
def tsS (U : Tb) (c : Nat → Nat → Int) (m : Nat) : Nat → Int
  | 0 => 0
  | k + 1 => tsS U c m k + rsS (tA U k) (c k) m
theorem addL_at {xs : List Int} {k : Nat} (n : Int) (h : k < xs.length) : (addL xs k n).getD k 0 = IntKind.i64.wrap (xs.getD k 0 + n) := by
  simp [addL, List.getD, h]
theorem addL_ne {xs : List Int} {k p : Nat} (n : Int) (h : p ≠ k) : (addL xs k n).getD p 0 = xs.getD p 0 := by
  simp only [addL, List.getD]
  rw [List.getElem?_set_ne (by omega)]
theorem rsS_far {xs ys : List Int} (c : Nat → Int) : ∀ s, (∀ p, p < s → xs.getD p 0 = ys.getD p 0) → rsS xs c s = rsS ys c s
  | 0, _ => rfl
  | s + 1, h => by rw [rsS, rsS, rsS_far c s (fun p hp => h p (by omega)), h s (by omega)]
theorem rsS_add {xs : List Int} {k : Nat} (n : Int) (c : Nat → Int) (h : k < xs.length) : ∀ m, k < m → cg (rsS (addL xs k n) c m) (rsS xs c m + n * c k)
  | 0, hm => by omega
  | m + 1, hm => by
    by_cases he : k = m
    · subst he
      rw [rsS, rsS, rsS_far c k (fun p hp => addL_ne n (show p ≠ k by omega)), addL_at n h]
      have h1 := (cg.refl (rsS xs c k)).add ((cg_wrap (xs.getD k 0 + n)).mul (c k))
      rw [Int.add_mul] at h1
      rw [Int.add_assoc]
      exact h1
    · rw [rsS, rsS, addL_ne n (show m ≠ k by omega)]
      have h1 := (rsS_add n c h m (by omega)).add (cg.refl (xs.getD m 0 * c m))
      rw [show rsS xs c m + xs.getD m 0 * c m + n * c k = rsS xs c m + n * c k + xs.getD m 0 * c m by omega]
      exact h1
theorem tsS_far {U V : Tb} (c : Nat → Nat → Int) (m : Nat) : ∀ k, (∀ p, p < k → tA U p = tA V p) → tsS U c m k = tsS V c m k
  | 0, _ => rfl
  | k + 1, h => by rw [tsS, tsS, tsS_far c m k (fun p hp => h p (by omega)), h k (by omega)]
theorem tsS_add {U : Tb} {r s : Nat} (n : Int) (c : Nat → Nat → Int) {m : Nat} (hr : r < U.length) (hl : (tA U r).length = m) (hs : s < m) : ∀ k, r < k → cg (tsS (addT U r s n) c m k) (tsS U c m k + n * c r s)
  | 0, h => by omega
  | k + 1, h => by
    by_cases he : r = k
    · subst he
      rw [tsS, tsS, tsS_far c m r (fun p hp => addT_ne s n (show p ≠ r by omega)), addT_at s n hr, Int.add_assoc]
      exact (cg.refl _).add (rsS_add n (c r) (by omega) m hs)
    · rw [tsS, tsS, addT_ne s n (show k ≠ r by omega)]
      have h1 := (tsS_add n c hr hl hs k (by omega)).add (cg.refl (rsS (tA U k) (c k) m))
      rw [show tsS U c m k + rsS (tA U k) (c k) m + n * c r s = tsS U c m k + n * c r s + rsS (tA U k) (c k) m by omega]
      exact h1
/-- a table of counts, and the state t -/
structure cP (l : List Ru) (M : Tb) (m t : Nat) (c : Nat → Nat → Int) : Prop where
  ok : gOk l = true
  mp : ∀ p s, p < l.length → s < m → 0 ≤ (tA M p).getD s 0 ∧ (tA M p).getD s 0 < m
  pair : ∀ k s, k < l.length → s < m → (ruA l k).1.size = 0 → c k s = c (ruA l k).2.1.toNat s + c (ruA l k).2.2.toNat ((tA M (ruA l k).2.1.toNat).getD s 0).toNat
  lett : ∀ k s, k < l.length → s < m → (ruA l k).1.size ≠ 0 → c k s = if ((tA M k).getD s 0).toNat = t then 1 else 0
theorem viR_law {l : List Ru} {M : Tb} {m t : Nat} {c : Nat → Nat → Int} (H : cP l M m t c) {p : Tb × List Int} (hp : vsP l.length m p) {k : Nat} (hk : k < l.length) : ∀ s, s ≤ m →
    tA (viR l M k s p).1 k = tA p.1 k ∧ cg (tsS (viR l M k s p).1 c m k + (viR l M k s p).2.getD t 0) (tsS p.1 c m k + p.2.getD t 0 + rsS (tA p.1 k) (c k) s)
  | 0, _ => ⟨rfl, by rw [viR, rsS, Int.add_zero]; exact cg.refl _⟩
  | s + 1, hs => by
    obtain ⟨h1, h2⟩ := viR_law H hp hk s (by omega)
    have hq := vsP_R hp l M k s
    rw [viR, h1]
    generalize viR l M k s p = q at *
    generalize hn : (tA p.1 k).getD s 0 = n
    rw [rsS, hn]
    unfold viS
    by_cases hz : (ruA l k).1.size = 0
    · obtain ⟨q1, q2, q3, q4⟩ := (gOk_rule H.ok hk).1 hz
      rw [if_pos hz]
      have hm := H.mp (ruA l k).2.1.toNat s (by omega) (by omega)
      have hq2 := tbP_add hq.1 (ruA l k).2.1.toNat s n
      have a1 := tsS_add (U := q.1) (r := (ruA l k).2.1.toNat) (s := s) n c (by rw [hq.1.len]; omega) (hq.1.row _ (by omega)).1 (by omega) k (by omega)
      have a2 := tsS_add (U := addT q.1 (ruA l k).2.1.toNat s n) (r := (ruA l k).2.2.toNat) (s := ((tA M (ruA l k).2.1.toNat).getD s 0).toNat) n c (by rw [hq2.len]; omega) (hq2.row _ (by omega)).1 (by omega) k (by omega)
      refine ⟨?_, ?_⟩
      · show tA (addT (addT q.1 _ _ _) _ _ _) k = _
        rw [addT_ne _ _ (by omega), addT_ne _ _ (by omega)]; exact h1
      · show cg (tsS (addT (addT q.1 _ _ _) _ _ _) c m k + q.2.getD t 0) _
        have a3 := (a2.trans (a1.add (cg.refl _))).add (cg.refl (q.2.getD t 0))
        have a4 := h2.add (cg.refl (n * c k s))
        rw [H.pair k s hk (by omega) hz, Int.mul_add]
        rw [H.pair k s hk (by omega) hz, Int.mul_add] at a4
        obtain ⟨x, hx⟩ := a3
        obtain ⟨y, hy⟩ := a4
        exact ⟨x + y, by omega⟩
    · obtain ⟨q1, q2, q3, q4⟩ := (gOk_rule H.ok hk).2 hz
      rw [if_neg hz]
      have hm := H.mp k s hk (by omega)
      have hc := H.lett k s hk (by omega) hz
      refine ⟨h1, ?_⟩
      show cg (tsS q.1 c m k + (addL q.2 _ n).getD t 0) _
      by_cases he : ((tA M k).getD s 0).toNat = t
      · rw [if_pos he] at hc
        rw [hc, he, addL_at n (by rw [hq.2.1, ← he]; omega), Int.mul_one]
        have a3 := (cg.refl (tsS q.1 c m k)).add (cg_wrap (q.2.getD t 0 + n))
        obtain ⟨x, hx⟩ := a3
        obtain ⟨y, hy⟩ := h2
        exact ⟨x + y, by omega⟩
      · rw [if_neg he] at hc
        rw [hc, addL_ne n (fun e => he e.symm), Int.mul_zero]
        obtain ⟨y, hy⟩ := h2
        exact ⟨y, by omega⟩
theorem viG_law {l : List Ru} {M : Tb} {m t : Nat} {c : Nat → Nat → Int} (H : cP l M m t c) : ∀ k {p : Tb × List Int}, vsP l.length m p → k ≤ l.length → cg ((viG l M m k p).2.getD t 0) (tsS p.1 c m k + p.2.getD t 0)
  | 0, p, _, _ => by rw [viG, tsS]; exact ⟨0, by omega⟩
  | k + 1, p, hp, hk => by
    have h1 := viR_law H hp (show k < l.length by omega) m (Nat.le_refl _)
    have h2 := viG_law H k (vsP_R hp l M k m) (by omega)
    rw [viG, tsS]
    obtain ⟨x, hx⟩ := h1.2
    obtain ⟨y, hy⟩ := h2
    exact ⟨x + y, by omega⟩
theorem viP_law {nx : Tb} {l : List Ru} (hn : nxP nx) (hok : gOk l = true) (t : Nat) : ∀ (ks : List Nat) (T : Tb) (s : Nat), tbP l.length nx.length T → s < nx.length → (∀ k ∈ ks, k < l.length) →
    cg (tsS (ks.foldl (viP (gSm nx l)) (T, s)).1 (fun k s => cwW nx t s (exF l l.length k)) nx.length l.length) (tsS T (fun k s => cwW nx t s (exF l l.length k)) nx.length l.length + cwW nx t s (ks.flatMap (exF l l.length)))
  | [], T, s, _, _, _ => by rw [List.foldl_nil, List.flatMap_nil, cwW, Int.add_zero]; exact cg.refl _
  | k :: ks, T, s, hT, hs, hk => by
    have hkl := hk k (by simp)
    have hm := smT_bd (nx := nx) hn hok l.length k s hkl (Nat.le_refl _) hs
    have h1 := viP_law hn hok t ks (addT T k s 1) ((tA (gSm nx l) k).getD s 0).toNat (tbP_add hT _ _ _) (by rw [gSm]; omega) (fun q hq => hk q (by simp [hq]))
    have h2 := tsS_add (U := T) (r := k) (s := s) 1 (fun k s => cwW nx t s (exF l l.length k)) (by rw [hT.len]; exact hkl) (hT.row k hkl).1 hs l.length hkl
    rw [List.foldl_cons, List.flatMap_cons, cwW_app, ← rd_rule hn hok l.length k s hkl hkl hs]
    show cg (tsS (ks.foldl (viP (gSm nx l)) (addT T k s 1, ((tA (gSm nx l) k).getD s 0).toNat)).1 _ _ _) _
    rw [Int.one_mul] at h2
    obtain ⟨x, hx⟩ := h1
    obtain ⟨y, hy⟩ := h2
    exact ⟨x + y, by omega⟩
theorem cov_lt {l : List Ru} (hok : gOk l = true) (ls : List Int) (i j : Int) : ∀ (f k : Nat) (at_ : Int), k < l.length → ∀ x ∈ cov l ls i j f k at_, x < l.length
  | 0, k, at_, h, x, hx => by simp [cov] at hx
  | f + 1, k, at_, h, x, hx => by
    rw [cov] at hx
    by_cases h1 : at_ + ls.getD k 0 ≤ i ∨ j ≤ at_
    · rw [if_pos h1] at hx; cases hx
    · rw [if_neg h1] at hx
      by_cases h2 : i ≤ at_ ∧ at_ + ls.getD k 0 ≤ j
      · rw [if_pos h2] at hx; simp at hx; omega
      · rw [if_neg h2] at hx
        have hb : (ruA l k).2.1.toNat < l.length ∧ (ruA l k).2.2.toNat < l.length := by
          by_cases hz : (ruA l k).1.size = 0
          · obtain ⟨q1, q2, q3, q4⟩ := (gOk_rule hok h).1 hz; omega
          · obtain ⟨q1, q2, q3, q4⟩ := (gOk_rule hok h).2 hz; omega
        rcases List.mem_append.1 hx with hx | hx
        · exact cov_lt hok ls i j f _ _ hb.1 x hx
        · exact cov_lt hok ls i j f _ _ hb.2 x hx
theorem pcv_lt {l : List Ru} (hok : gOk l = true) (i j : Int) : ∀ x ∈ pcv l i j, x < l.length := by
  intro x hx
  unfold pcv at hx
  split at hx
  · rename_i h
    exact cov_lt hok _ i j _ _ _ (by omega) x hx
  · cases hx
theorem tsS_zero (c : Nat → Nat → Int) (m R : Nat) : ∀ k, k ≤ R → tsS (zT R m) c m k = 0
  | 0, _ => rfl
  | k + 1, h => by
    have e : ∀ s, rsS (zR m) (c k) s = 0 := by
      intro s
      induction s with
      | zero => rfl
      | succ s ih =>
        rw [rsS, ih]
        have : (zR m).getD s 0 = 0 := by
          simp only [zR, List.getD, List.getElem?_replicate]
          split <;> rfl
        rw [this]; simp
    rw [tsS, tsS_zero c m R k (by omega), zT_at (by omega), e]; rfl
/-- the counts are true -/
theorem viV_law {a : Au} {l : List Ru} (ha : auOk a = true) (hok : gOk l = true) {j : Int} {t : Nat} (ht : t < a.nx.length) : (viV a l j).getD t 0 = cwW a.nx t a.sa.toNat ((wd l).take j.toNat) := by
  obtain ⟨f1, f2, f3, f4, f5⟩ := auOk_facts ha
  have hn : nxP a.nx := by intro s hs; rw [f4]; exact f5 s hs
  have H : cP l (gSm a.nx l) a.nx.length t (fun k s => cwW a.nx t s (exF l l.length k)) :=
    ⟨hok, fun p s hp hs => smT_bd hn hok l.length p s hp (Nat.le_refl _) hs, fun k s hk hs hz => cw_pair hn hok t hk hs hz, fun k s hk hs hz => cw_let hok t hk hs hz⟩
  have hP : vsP l.length a.nx.length ((viB (gSm a.nx l) l.length a.nx.length a.sa.toNat (pcv l 0 j)).1, zR a.nx.length) := ⟨viB_P _ _ _ _ _, by simp [zR], zR_ok _⟩
  have h1 := viG_law H l.length hP (Nat.le_refl _)
  have h2 := viP_law hn hok t (pcv l 0 j) (zT l.length a.nx.length) a.sa.toNat (zT_P _ _) (by omega) (pcv_lt hok 0 j)
  rw [tsS_zero _ _ _ _ (Nat.le_refl _), Int.zero_add] at h2
  have e := ptW_law hok (i := 0) (j := j) (Int.le_refl _)
  rw [ptW] at e
  rw [e] at h2
  have e0 : (zR a.nx.length).getD t 0 = 0 := by simp [zR, List.getD, ht]
  have h3 : cg ((viV a l j).getD t 0) (cwW a.nx t a.sa.toNat ((wd l).take j.toNat)) := by
    obtain ⟨x, hx⟩ := h1
    obtain ⟨y, hy⟩ := h2
    refine ⟨x + y, ?_⟩
    have hx : (viV a l j).getD t 0 = tsS (viB (gSm a.nx l) l.length a.nx.length a.sa.toNat (pcv l 0 j)).1 (fun k s => cwW a.nx t s (exF l l.length k)) a.nx.length l.length + (zR a.nx.length).getD t 0 + 18446744073709551616 * x := hx
    have hy : tsS (viB (gSm a.nx l) l.length a.nx.length a.sa.toNat (pcv l 0 j)).1 (fun k s => cwW a.nx t s (exF l l.length k)) a.nx.length l.length = cwW a.nx t a.sa.toNat (((wd l).take j.toNat).drop (0 : Int).toNat) + 18446744073709551616 * y := hy
    have e3 : ((wd l).take j.toNat).drop (0 : Int).toNat = (wd l).take j.toNat := by simp
    rw [e3] at hy
    omega
  have hb := cwW_bd a.nx t ((wd l).take j.toNat) a.sa.toNat
  have hl : ((wd l).take j.toNat).length ≤ (wd l).length := by rw [List.length_take]; omega
  have hwl := wd_len hok
  have hbd : lastI (gLn l) ≤ 1000000000000000 := by
    by_cases hz : (gLn l).length = 0
    · rw [lastI_nil hz]; omega
    · rw [lastI_at hz]; exact ((gOk_some hok).2.2.2 _ (getD_mem (by omega))).2
  refine cg_eq h3 ?_ (by omega)
  have hG := vsP_G l (gSm a.nx l) a.nx.length l.length l.length hP
  have hlen := viV_len a l j
  rw [List.getD, List.getElem?_eq_getElem (by omega)]
  exact hG.2.2 _ (List.getElem_mem _)
end Go.Proofs.Ytimfbnjgodbgoaa

/- When a state is met for some time: plain laws. -/
namespace Go.Proofs.Ytimfbnjgodbgoaa
open Go.ChangeShapes Go.WideShapes Go.RowKit
set_option linter.unusedVariables false
set_option linter.unusedSimpArgs false
set_option maxHeartbeats 2000000
set_option maxRecDepth 100000
/-- r is the least number of letters behind which a state has been met c times -/
def lvP (nx : Tb) (t s : Nat) (w : List UInt8) (c r : Int) : Prop :=
  0 ≤ r ∧ r ≤ w.length ∧ c ≤ cwW nx t s (w.take r.toNat) ∧ ∀ j : Nat, (j : Int) < r → cwW nx t s (w.take j) < c
theorem lvP_uniq {nx : Tb} {t s : Nat} {w : List UInt8} {c r q : Int} (h : lvP nx t s w c r) (k : lvP nx t s w c q) : r = q := by
  obtain ⟨h1, h2, h3, h4⟩ := h
  obtain ⟨k1, k2, k3, k4⟩ := k
  apply Classical.byContradiction
  intro hne
  by_cases hl : r < q
  · have := k4 r.toNat (by omega); omega
  · have := h4 q.toNat (by omega); omega
theorem cwW_mono (nx : Tb) (t s : Nat) (w : List UInt8) {i j : Nat} (h : i ≤ j) : cwW nx t s (w.take i) ≤ cwW nx t s (w.take j) := by
  have e : w.take j = w.take i ++ (w.take j).drop i := by
    have := List.take_append_drop i (w.take j)
    rw [List.take_take, Nat.min_eq_left h] at this
    exact this.symm
  rw [e, cwW_app]
  have := cwW_bd nx t ((w.take j).drop i) (rdW nx s (w.take i))
  omega
theorem lvP_left {nx : Tb} {t s : Nat} {u v : List UInt8} {c r : Int} (h : lvP nx t s u c r) : lvP nx t s (u ++ v) c r := by
  obtain ⟨h1, h2, h3, h4⟩ := h
  have e : ∀ j : Nat, (j : Int) ≤ r → (u ++ v).take j = u.take j := fun j hj => by rw [List.take_append_of_le_length (by omega)]
  refine ⟨h1, by rw [List.length_append]; omega, by rw [e _ (by omega)]; exact h3, fun j hj => by rw [e _ (by omega)]; exact h4 j hj⟩
theorem lvP_right {nx : Tb} {t s : Nat} {u v : List UInt8} {c r : Int} (hc : cwW nx t s u < c) (h : lvP nx t (rdW nx s u) v (c - cwW nx t s u) r) : lvP nx t s (u ++ v) c (u.length + r) := by
  obtain ⟨h1, h2, h3, h4⟩ := h
  refine ⟨by omega, by rw [List.length_append]; omega, ?_, fun j hj => ?_⟩
  · rw [show ((u.length : Int) + r).toNat = u.length + r.toNat by omega, List.take_length_add_append, cwW_app]
    omega
  · by_cases hl : j ≤ u.length
    · rw [List.take_append_of_le_length hl]
      have := cwW_mono nx t s u hl
      rw [List.take_length] at this
      omega
    · obtain ⟨d, rfl⟩ : ∃ d, j = u.length + d := ⟨j - u.length, by omega⟩
      rw [List.take_length_add_append, cwW_app]
      have := h4 d (by omega)
      omega
theorem lvP_one {nx : Tb} {t s : Nat} {w : List UInt8} (hl : w.length = 1) (hc : cwW nx t s w = 1) : lvP nx t s w 1 1 := by
  refine ⟨by omega, by omega, ?_, fun j hj => ?_⟩
  · rw [show (1 : Int).toNat = w.length by omega, List.take_length]; omega
  · obtain rfl : j = 0 := by omega
    rw [List.take_zero, cwW]; omega
/-- a table made row by row, entry by entry -/
def etR (E : Tb → Nat → Nat → Int) (out : Tb) (k : Nat) : Nat → List Int
  | 0 => []
  | s + 1 => etR E out k s ++ [E out k s]
def etT (E : Tb → Nat → Nat → Int) (n : Nat) : Nat → Tb
  | 0 => []
  | k + 1 => etT E n k ++ [etR E (etT E n k) k n]
theorem etR_len (E : Tb → Nat → Nat → Int) (out : Tb) (k : Nat) : ∀ s, (etR E out k s).length = s
  | 0 => rfl
  | s + 1 => by rw [etR, List.length_append, etR_len E out k s]; rfl
theorem etR_at (E : Tb → Nat → Nat → Int) (out : Tb) (k : Nat) : ∀ {n s : Nat}, s < n → (etR E out k n).getD s 0 = E out k s
  | 0, s, h => by omega
  | n + 1, s, h => by
    rw [etR]
    by_cases he : s < n
    · rw [List.getD, List.getElem?_append_left (by rw [etR_len]; exact he)]
      exact etR_at E out k he
    · obtain rfl : s = n := by omega
      rw [List.getD, List.getElem?_append_right (by rw [etR_len]; exact Nat.le_refl _)]
      simp [etR_len]
theorem etT_len (E : Tb → Nat → Nat → Int) (n : Nat) : ∀ k, (etT E n k).length = k
  | 0 => rfl
  | k + 1 => by rw [etT, List.length_append, etT_len E n k]; rfl
theorem etT_at (E : Tb → Nat → Nat → Int) (n : Nat) : ∀ {k p : Nat}, p < k → tA (etT E n k) p = etR E (etT E n p) p n
  | 0, p, h => by omega
  | k + 1, p, h => by
    rw [etT]
    by_cases he : p < k
    · rw [tA_app (by rw [etT_len]; exact he)]
      exact etT_at E n he
    · obtain rfl : p = k := by omega
      have : tA (etT E n p ++ [etR E (etT E n p) p n]) (etT E n p).length = _ := tA_last
      rw [etT_len] at this
      exact this
theorem etT_row (E : Tb → Nat → Nat → Int) (n : Nat) {k p : Nat} (h : p < k) : (tA (etT E n k) p).length = n := by rw [etT_at E n h, etR_len]
theorem etT_pre (E : Tb → Nat → Nat → Int) (n : Nat) {k j p : Nat} (h : p < k) (h2 : p < j) : tA (etT E n k) p = tA (etT E n j) p := by rw [etT_at E n h, etT_at E n h2]
/-- the reference's tallies -/
def tlE (l : List Ru) (M : Tb) (t : Int) (out : Tb) (k s : Nat) : Int :=
  if (ruA l k).1.size = 0 then (tA out (ruA l k).2.1.toNat).getD s 0 + (tA out (ruA l k).2.2.toNat).getD ((tA M (ruA l k).2.1.toNat).getD s 0).toNat 0
  else if (tA M k).getD s 0 = t then 1 else 0
/-- behind how many letters the reference meets a state first -/
def fsE (l : List Ru) (M : Tb) (t : Int) (out : Tb) (k s : Nat) : Int :=
  if (ruA l k).1.size = 0 then
    (if (tA out (ruA l k).2.1.toNat).getD s 0 < 0 ∧ 0 ≤ (tA out (ruA l k).2.2.toNat).getD ((tA M (ruA l k).2.1.toNat).getD s 0).toNat 0
      then (gLn l).getD (ruA l k).2.1.toNat 0 + (tA out (ruA l k).2.2.toNat).getD ((tA M (ruA l k).2.1.toNat).getD s 0).toNat 0
      else (tA out (ruA l k).2.1.toNat).getD s 0)
  else if (tA M k).getD s 0 = t then 1 else -1
theorem tl_law {nx : Tb} {l : List Ru} (hn : nxP nx) (hok : gOk l = true) {t : Nat} : ∀ (f k s : Nat), k < f → f ≤ l.length → s < nx.length →
    (tA (etT (tlE l (gSm nx l) t) nx.length f) k).getD s 0 = cwW nx t s (exF l l.length k)
  | 0, k, s, h, _, _ => by omega
  | f + 1, k, s, h, hf, hs => by
    rw [etT_at _ _ h, etR_at _ _ _ hs, tlE]
    have hk : k < l.length := by omega
    by_cases hz : (ruA l k).1.size = 0
    · obtain ⟨q1, q2, q3, q4⟩ := (gOk_rule hok hk).1 hz
      have hb := smT_bd (nx := nx) hn hok l.length (ruA l k).2.1.toNat s (by omega) (Nat.le_refl _) hs
      have hb' : 0 ≤ (tA (gSm nx l) (ruA l k).2.1.toNat).getD s 0 ∧ (tA (gSm nx l) (ruA l k).2.1.toNat).getD s 0 < nx.length := hb
      rw [if_pos hz, cw_pair hn hok t hk hs hz]
      have a := tl_law hn hok (t := t) f (ruA l k).2.1.toNat s (by omega) (by omega) hs
      have b := tl_law hn hok (t := t) f (ruA l k).2.2.toNat ((tA (gSm nx l) (ruA l k).2.1.toNat).getD s 0).toNat (by omega) (by omega) (by omega)
      rw [etT_pre _ _ (show (ruA l k).2.1.toNat < k by omega) (show (ruA l k).2.1.toNat < f by omega), etT_pre _ _ (show (ruA l k).2.2.toNat < k by omega) (show (ruA l k).2.2.toNat < f by omega), a, b]
    · rw [if_neg hz, cw_let hok t hk hs hz]
      have hb := smT_bd (nx := nx) hn hok l.length k s (by omega) (Nat.le_refl _) hs
      have hb' : 0 ≤ (tA (gSm nx l) k).getD s 0 ∧ (tA (gSm nx l) k).getD s 0 < nx.length := hb
      by_cases he : (tA (gSm nx l) k).getD s 0 = t
      · rw [if_pos he, if_pos (by omega)]
      · rw [if_neg he, if_neg (by omega)]
/-- what the reference's first meetings are -/
def fsP (nx : Tb) (t s : Nat) (w : List UInt8) (x : Int) : Prop := (x = -1 ∧ cwW nx t s w = 0) ∨ (1 ≤ cwW nx t s w ∧ lvP nx t s w 1 x)
theorem fs_law {nx : Tb} {l : List Ru} (hn : nxP nx) (hok : gOk l = true) {t : Nat} : ∀ (f k s : Nat), k < f → f ≤ l.length → s < nx.length →
    fsP nx t s (exF l l.length k) ((tA (etT (fsE l (gSm nx l) t) nx.length f) k).getD s 0)
  | 0, k, s, h, _, _ => by omega
  | f + 1, k, s, h, hf, hs => by
    rw [etT_at _ _ h, etR_at _ _ _ hs, fsE]
    have hk : k < l.length := by omega
    by_cases hz : (ruA l k).1.size = 0
    · obtain ⟨q1, q2, q3, q4⟩ := (gOk_rule hok hk).1 hz
      have hb := smT_bd (nx := nx) hn hok l.length (ruA l k).2.1.toNat s (by omega) (Nat.le_refl _) hs
      have hb' : 0 ≤ (tA (gSm nx l) (ruA l k).2.1.toNat).getD s 0 ∧ (tA (gSm nx l) (ruA l k).2.1.toNat).getD s 0 < nx.length := hb
      have hlen := exF_len hok l.length (ruA l k).2.1.toNat (by omega) (by omega)
      have a := fs_law hn hok (t := t) f (ruA l k).2.1.toNat s (by omega) (by omega) hs
      have b := fs_law hn hok (t := t) f (ruA l k).2.2.toNat ((tA (gSm nx l) (ruA l k).2.1.toNat).getD s 0).toNat (by omega) (by omega) (by omega)
      have hrd := rd_rule hn hok l.length (ruA l k).2.1.toNat s (by omega) (by omega) hs
      have hw : exF l l.length k = exF l l.length (ruA l k).2.1.toNat ++ exF l l.length (ruA l k).2.2.toNat := by
        rw [exF_same hok l.length (k + 1) k hk (by omega) hk, exF_pair hz, exF_same hok k l.length _ (by omega) (by omega) (by omega), exF_same hok k l.length (ruA l k).2.2.toNat (by omega) (by omega) (by omega)]
      rw [if_pos hz, etT_pre _ _ (show (ruA l k).2.1.toNat < k by omega) (show (ruA l k).2.1.toNat < f by omega), etT_pre _ _ (show (ruA l k).2.2.toNat < k by omega) (show (ruA l k).2.2.toNat < f by omega), hw]
      rw [hrd] at b ⊢
      rw [← hlen]
      generalize exF l l.length (ruA l k).2.1.toNat = u at *
      generalize exF l l.length (ruA l k).2.2.toNat = v at *
      generalize (tA (etT (fsE l (gSm nx l) t) nx.length f) (ruA l k).2.1.toNat).getD s 0 = x at *
      generalize (tA (etT (fsE l (gSm nx l) t) nx.length f) (ruA l k).2.2.toNat).getD (rdW nx s u) 0 = y at *
      have hv0 := cwW_bd nx t v (rdW nx s u)
      rcases a with ⟨a1, a2⟩ | ⟨a1, a2⟩
      · rcases b with ⟨b1, b2⟩ | ⟨b1, b2⟩
        · rw [if_neg (by omega)]
          exact .inl ⟨a1, by rw [cwW_app]; omega⟩
        · rw [if_pos ⟨by omega, b2.1⟩]
          refine .inr ⟨by rw [cwW_app]; omega, lvP_right (by omega) ?_⟩
          rw [a2]; exact b2
      · rw [if_neg (by have := a2.1; omega)]
        exact .inr ⟨by rw [cwW_app]; omega, lvP_left a2⟩
    · obtain ⟨q1, q2, q3, q4⟩ := (gOk_rule hok hk).2 hz
      have hb := smT_bd (nx := nx) hn hok l.length k s (by omega) (Nat.le_refl _) hs
      have hb' : 0 ≤ (tA (gSm nx l) k).getD s 0 ∧ (tA (gSm nx l) k).getD s 0 < nx.length := hb
      have hc := cw_let hok t hk hs hz (nx := nx)
      have hl1 : (exF l l.length k).length = 1 := by
        have := exF_len hok l.length k hk hk
        rw [(gOk_len hok hk).2 hz] at this
        omega
      rw [if_neg hz]
      by_cases he : (tA (gSm nx l) k).getD s 0 = t
      · rw [if_pos he]
        rw [if_pos (by omega)] at hc
        exact .inr ⟨by omega, lvP_one hl1 hc⟩
      · rw [if_neg he]
        rw [if_neg (by omega)] at hc
        exact .inl ⟨rfl, hc⟩
end Go.Proofs.Ytimfbnjgodbgoaa

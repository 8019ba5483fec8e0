/- FnPatterns: plain law: a pattern's automaton meets its last state just where the pattern ends. -/
import Derived.Test.YtimfbnjgodbgoaaYA
import Derived.Test.YtimfbnjgodbgoaaD1
import Derived.Deep.DeepCutAuto
import Derived.Test.YtimfbnjgodbgoaaUF
import Derived.Test.YtimfbnjgodbgoaaY8
import Derived.Test.YtimfbnjgodbgoaaHC
import Derived.Test.YtimfbnjgodbgoaaKY
namespace Go.Proofs.Ytimfbnjgodbgoaa
open Go.ChangeShapes Go.WideShapes Go.RowKit
set_option linter.unusedVariables false
set_option linter.unusedSimpArgs false
set_option maxHeartbeats 1000000
set_option maxRecDepth 100000
/-- the greatest number up to a bound of first letters of P with which u ends -/
def bst (P u : List UInt8) : Nat → Nat
  | 0 => 0
  | n + 1 => if (P.take (n + 1)).isSuffixOf u = true then n + 1 else bst P u n
theorem bst_le (P u : List UInt8) : ∀ n, bst P u n ≤ n
  | 0 => Nat.le_refl _
  | n + 1 => by have := bst_le P u n; rw [bst]; split <;> omega
theorem bst_suf (P u : List UInt8) : ∀ n, P.take (bst P u n) <:+ u
  | 0 => by rw [bst, List.take_zero]; exact List.nil_suffix
  | n + 1 => by
    rw [bst]
    split
    · rename_i h; exact List.isSuffixOf_iff_suffix.1 h
    · exact bst_suf P u n
theorem bst_max (P u : List UInt8) : ∀ (n k : Nat), k ≤ n → P.take k <:+ u → k ≤ bst P u n
  | 0, k, hk, _ => by omega
  | n + 1, k, hk, hs => by
    rw [bst]
    by_cases he : k = n + 1
    · subst he
      rw [if_pos (List.isSuffixOf_iff_suffix.2 hs)]; exact Nat.le_refl _
    · have := bst_max P u n k (by omega) hs
      split <;> omega
theorem bst_uniq {P u : List UInt8} {n k : Nat} (hk : k ≤ n) (hs : P.take k <:+ u) (hm : ∀ j, j ≤ n → P.take j <:+ u → j ≤ k) : bst P u n = k :=
  Nat.le_antisymm (hm _ (bst_le P u n) (bst_suf P u n)) (bst_max P u n k hk hs)
theorem suf_snoc {A u : List UInt8} {c : UInt8} (h : A <:+ u ++ [c]) (hA : A ≠ []) : ∃ B, A = B ++ [c] ∧ B <:+ u := by
  obtain ⟨t, ht⟩ := h
  rcases List.eq_nil_or_concat A with h0 | ⟨B, x, rfl⟩
  · exact absurd h0 hA
  · rw [List.concat_eq_append, ← List.append_assoc] at ht
    obtain ⟨h1, h2⟩ := List.append_inj' ht rfl
    injection h2 with h2
    subst h2
    exact ⟨B, by simp, ⟨t, h1⟩⟩
theorem suf_app {A B : List UInt8} (h : A <:+ B) (c : UInt8) : A ++ [c] <:+ B ++ [c] := by
  obtain ⟨t, rfl⟩ := h
  exact ⟨t, by simp⟩
theorem kmp (P u : List UInt8) (c : UInt8) : bst P (u ++ [c]) P.length = bst P (P.take (bst P u P.length) ++ [c]) (min P.length (bst P u P.length + 1)) := by
  have hs := bst_suf P u P.length
  have hmx := bst_max P u P.length
  have hsl := bst_le P u P.length
  generalize bst P u P.length = s at *
  refine bst_uniq (Nat.le_trans (bst_le _ _ _) (Nat.min_le_left _ _)) ((bst_suf P (P.take s ++ [c]) _).trans (suf_app hs c)) (fun j hj hsj => ?_)
  match j, hj, hsj with
  | 0, _, _ => exact Nat.zero_le _
  | i + 1, hj, hsj =>
    have hne : P.take (i + 1) ≠ [] := by
      intro e
      have := congrArg List.length e
      rw [List.length_take, List.length_nil] at this
      omega
    obtain ⟨B, hB, hBu⟩ := suf_snoc hsj hne
    have hBl : B.length = i := by
      have := congrArg List.length hB
      rw [List.length_take, List.length_append, List.length_cons, List.length_nil] at this
      omega
    have hBi : B = P.take i := by
      have h1 := congrArg (List.take i) hB
      rw [List.take_take, List.take_append_of_le_length (by omega), List.take_of_length_le (show B.length ≤ i by omega)] at h1
      rw [← h1]; congr 1; omega
    subst hBi
    have his := hmx i (by omega) hBu
    have hss : P.take i <:+ P.take s := List.suffix_of_suffix_length_le hBu hs (by rw [List.length_take, List.length_take]; omega)
    exact bst_max P _ _ (i + 1) (by omega) (by rw [hB]; exact suf_app hss c)
theorem ext_take (p : ByteArray) (n : Nat) : (p.extract 0 n).data.toList = p.data.toList.take n := by rw [Lib.extract_data, List.drop_zero, Nat.sub_zero]
theorem fitF_bst (p x : ByteArray) : ∀ n, n ≤ x.size → n ≤ p.size → fitF p x n = bst p.data.toList x.data.toList n
  | 0, _, _ => rfl
  | n + 1, h1, h2 => by
    have ih := fitF_bst p x n (by omega) (by omega)
    have e := suf_eq p x (n + 1) h1 h2
    rw [ext_take, Lib.hasSuffix] at e
    rw [fitF, bst, ih, e]
theorem let_add {c : UInt8} (h : 97 ≤ c.toNat ∧ c.toNat ≤ 100) : 97 + UInt8.ofNat (c.toNat - 97) = c := by
  obtain ⟨h1, h2⟩ := h
  apply UInt8.toNat_inj.1
  rw [UInt8.toNat_add, UInt8.toNat_ofNat']
  have : (97 : UInt8).toNat = 97 := rfl
  rw [this]
  omega
theorem paX_l (p : ByteArray) (s c : Nat) : (paX p s c).data.toList = p.data.toList.take s ++ [97 + UInt8.ofNat c] := by
  rw [paX, ByteArray.data_append, Array.toList_append, ext_take]
theorem psz (p : ByteArray) : p.data.toList.length = p.size := by rw [Array.length_toList]; rfl
def letL (u : List UInt8) : Prop := ∀ x ∈ u, 97 ≤ x.toNat ∧ x.toNat ≤ 100
theorem rd_best (p : ByteArray) {u : List UInt8} (hu : letL u) : ∀ j, j ≤ u.length → rdW (paA p).nx 0 (u.take j) = bst p.data.toList (u.take j) p.size
  | 0, _ => by
    rw [List.take_zero]
    have h := bst_suf p.data.toList [] p.size
    have h2 := List.suffix_nil.1 h
    have h3 := congrArg List.length h2
    have h4 := bst_le p.data.toList [] p.size
    rw [List.length_take, psz, List.length_nil] at h3
    show 0 = _
    omega
  | j + 1, hj => by
    have ih := rd_best p hu j (by omega)
    have hc := hu (u[j]) (List.getElem_mem _)
    have hk := kmp p.data.toList (u.take j) u[j]
    rw [psz] at hk
    rw [List.take_succ_eq_append_getElem (by omega), rdW_app, ih, hk]
    have hle := bst_le p.data.toList (u.take j) p.size
    generalize bst p.data.toList (u.take j) p.size = s at *
    have e4 : tA (paA p).nx s = paR p s 4 := paT_row p (by omega)
    rw [rdW, rdW, e4, paR_at p s (by omega), paE, Int.toNat_natCast, fitF_bst p _ _ (by rw [paX_size p _ _ hle]; omega) (by omega), paX_l, let_add hc]
/-- how often P ends within the first letters -/
def enN (P u : List UInt8) : Nat → Nat
  | 0 => 0
  | e + 1 => enN P u e + if P.isSuffixOf (u.take (e + 1)) = true then 1 else 0
theorem bst_all (P u : List UInt8) : bst P u P.length = P.length ↔ P <:+ u := by
  constructor
  · intro h
    have := bst_suf P u P.length
    rw [h, List.take_length] at this; exact this
  · intro h
    exact bst_uniq (Nat.le_refl _) (by rw [List.take_length]; exact h) (fun j hj _ => hj)
theorem cw_en (p : ByteArray) {u : List UInt8} (hu : letL u) : ∀ j, j ≤ u.length → cwW (paA p).nx p.size 0 (u.take j) = (enN p.data.toList u j : Nat)
  | 0, _ => by rw [List.take_zero]; rfl
  | j + 1, hj => by
    have ih := cw_en p hu j (by omega)
    have hr := rd_best p hu (j + 1) hj
    have ha := bst_all p.data.toList (u.take (j + 1))
    rw [psz] at ha
    have e := List.take_succ_eq_append_getElem (show j < u.length by omega)
    rw [e, rdW_app, rdW, rdW] at hr
    rw [enN, e, cwW_app, ih, cwW, cwW, hr, ← e]
    by_cases h : p.data.toList <:+ u.take (j + 1)
    · rw [if_pos (ha.2 h), if_pos (List.isSuffixOf_iff_suffix.2 h)]; simp
    · rw [if_neg (fun e => h (ha.1 e)), if_neg (fun e => h (List.isSuffixOf_iff_suffix.1 e))]; simp
/-- an end is a beginning -/
theorem end_at {P u : List UInt8} {e : Nat} (h1 : P.length ≤ e) (h2 : e ≤ u.length) : P <:+ u.take e ↔ (u.drop (e - P.length)).take P.length = P := by
  rw [List.suffix_iff_eq_drop, List.length_take, Nat.min_eq_left h2, List.drop_take, show e - (e - P.length) = P.length by omega]
  exact eq_comm
theorem oc_test (p s : ByteArray) {k : Nat} : ((s.extract k (k + p.size)).toList == p.toList) = true ↔ (s.data.toList.drop k).take p.data.toList.length = p.data.toList := by
  rw [beq_iff_eq, ByteArray.toList_eq, ByteArray.toList_eq, Lib.extract_data, psz, show k + p.size - k = p.size by omega]
theorem en_oc (p s : ByteArray) (h1 : 1 ≤ p.size) : ∀ e, e ≤ s.size → enN p.data.toList s.data.toList e = (ocTo p s (e + 1 - p.size)).length
  | 0, _ => by rw [show 0 + 1 - p.size = 0 by omega]; rfl
  | e + 1, he => by
    have ih := en_oc p s h1 e (by omega)
    rw [enN, ih]
    by_cases hm : p.size ≤ e + 1
    · have hx := end_at (P := p.data.toList) (u := s.data.toList) (e := e + 1) (by rw [psz]; exact hm) (by rw [psz]; exact he)
      have ho := oc_test p s (k := e + 1 - p.size)
      rw [psz] at hx
      rw [psz] at ho
      rw [show e + 1 + 1 - p.size = (e + 1 - p.size) + 1 by omega]
      by_cases h : p.data.toList <:+ s.data.toList.take (e + 1)
      · rw [if_pos (List.isSuffixOf_iff_suffix.2 h), ocTo_yes p s _ (ho.2 (hx.1 h)), List.length_append]; rfl
      · rw [if_neg (fun q => h (List.isSuffixOf_iff_suffix.1 q))]
        have hn : ((s.extract (e + 1 - p.size) (e + 1 - p.size + p.size)).toList == p.toList) = false := by
          cases hq : ((s.extract (e + 1 - p.size) (e + 1 - p.size + p.size)).toList == p.toList)
          · rfl
          · exact absurd (hx.2 (ho.1 hq)) h
        rw [ocTo_no p s _ hn, Nat.add_zero]
    · have h : ¬ p.data.toList <:+ s.data.toList.take (e + 1) := by
        intro h
        have := h.length_le
        rw [psz, List.length_take, psz] at this
        omega
      rw [if_neg (fun q => h (List.isSuffixOf_iff_suffix.1 q)), show e + 1 + 1 - p.size = 0 by omega, show e + 1 - p.size = 0 by omega, Nat.add_zero]
/-- the program's count of a pattern's ends is the number of its places -/
theorem cw_oc (p s : ByteArray) (hu : letL s.data.toList) (h1 : 1 ≤ p.size) {j : Nat} (hj : j ≤ s.size) : cwW (paA p).nx p.size 0 (s.data.toList.take j) = ((ocTo p s (j + 1 - p.size)).length : Nat) := by
  rw [cw_en p hu j (by rw [psz]; exact hj), en_oc p s h1 j hj]
end Go.Proofs.Ytimfbnjgodbgoaa

/- NextPattern of the program, at a place of the word. -/
namespace Go.Proofs.Ytimfbnjgodbgoaa
open Go.ChangeShapes Go.WideShapes Go.RowKit
set_option linter.unusedVariables false
set_option linter.unusedSimpArgs false
set_option maxHeartbeats 2000000
set_option maxRecDepth 100000
/-- how often the pattern ends ahead of what begins at i or behind -/
def nxK (p : ByteArray) (l : List Ru) (i : Int) : Int := enF p l (min (lastI (gLn l)) (i + p.size - 1))
theorem i_NextPattern (vg : Value) (l : List Ru) (p : ByteArray) (i : Int) (w : World) (hn : l.length ≤ 1048576) (hsz : ∀ r ∈ l, r.1.size ≤ 1048576) (hg : InRu w vg l) (hz : p.size ≤ 1048576) (h0 : skC p l = 0) (hi0 : 0 ≤ i) (hi1 : i ≤ lastI (gLn l)) :
    Calls Try.prog 22 #[.agg #[vg], .string p, .int .i64 i] w fun e w' => ((nxK p l i < enF p l (lastI (gLn l)) ∧ e = .returned (.tuple #[.int .i64 (patR p l (nxK p l i) - p.size), .int .i64 0])) ∨ (¬ nxK p l i < enF p l (lastI (gLn l)) ∧ e = .returned (.tuple #[.int .i64 0, .int .i64 6]))) ∧ Below w.heap.size w w' := by
  obtain ⟨ag, kg, rfl⟩ := inRu_sl hg
  have hbx := (Below.refl w.heap.size w).alloc (Nat.le_refl _) (.cells #[.slice ag l.length kg] 26)
  have HBX : Hid (∀ w', Below (w.alloc (.cells #[.slice ag l.length kg] 26)).heap.size (w.alloc (.cells #[.slice ag l.length kg] 26)) w' → Below w.heap.size w w') := fun w' h => below_box h
  have HN := Lib.hid (i_seek (.slice ag l.length kg) p l _ hz hn hsz (inRu_below hg hbx) h0)
  have hp20 := skC_p20 h0
  have hok := (skC_ok h0).1
  have hN15 := lastI_bd hok
  have HOK := Lib.hid hok
  have HAO := Lib.hid (paA_ok hp20)
  have HEN : Hid (∀ j, tmS (viV (paA p) l j) (paA p).fi (paA p).fi.length = enF p l j) := fun j => rfl
  have HEB := Lib.hid (fun j => enF_bd hp20 hok j)
  have HMO := Lib.hid (enF_mono hp20 hok)
  have HPA := Lib.hid (fun k r h h2 => @pat_ans p l hp20 hok k r h h2)
  have HP20 := Lib.hid hp20
  have HSIZ := Lib.hid (fun w => i_size p w)
  have HWI := Lib.hid (show (decide ((0 : Int) ≤ i) && decide (i ≤ lastI (gLn l))) = true by simp; omega)
  have HKD : Hid (nxK p l i = enF p l (min (lastI (gLn l)) (i + p.size - 1))) := rfl
  clear hg hsz hbx h0 hok
  generalize paA p = a at *
  go_enter Try.func22, Try.ntmps22
  go_wp2_with fail
  refine (HN.out).mono ?_
  rintro e w2 ⟨u1, u2, vl, vm, rfl, hrd2, hb2⟩
  obtain ⟨a1, k1, rfl⟩ := inI_sl hrd2.fi
  obtain ⟨a2, k2, rfl⟩ := inT_sl hrd2.nx
  obtain ⟨B0, hlw⟩ := hrd2.ln
  obtain ⟨al, kl, rfl, -, -⟩ := owns_sl3 hlw
  obtain ⟨am, km, rfl⟩ := inT_sl hrd2.mp
  have HRD2 := Lib.hid hrd2
  have HB2 := Lib.hid (HBX.out _ hb2)
  have HB2' := Lib.hid hb2
  clear hb2 HN hrd2 hlw
  go_upto_region 4 with fail
  have hbox := ride_box w2 (.int .i64 a.st) (.int .i64 a.sa) (.slice a1 a.fi.length k1) (.slice a2 a.nx.length k2) (.slice ag l.length kg) (.slice al l.length kl) (.slice am (gSm a.nx l).length km)
  refine gen_world2 (fun w3 => rd7 w2.heap.size (.int .i64 a.st) (.int .i64 a.sa) (.slice a1 a.fi.length k1) (.slice a2 a.nx.length k2) (.slice ag l.length kg) (.slice al l.length kl) (.slice am (gSm a.nx l).length km) w3 ∧ Below w2.heap.size w2 w3) hbox ?_
  clear hbox
  rintro w3 ⟨⟨c0, c1, c2, c3, c4, c5, c6⟩, hb3⟩
  have HRD3 := Lib.hid (inRd_below HRD2.out hb3)
  have HB3 := Lib.hid (HB2.out.trans (hb3.mono HB2.out.size))
  have HB3' := Lib.hid (HB2'.out.trans (hb3.mono HB2'.out.size))
  have HSS : Hid (∀ w', Below w3.heap.size w3 w' → (w'.cell? ⟨w2.heap.size, 0, none⟩ = some (.int .i64 a.st) ∧ w'.cell? ⟨w2.heap.size, 1, none⟩ = some (.int .i64 a.sa) ∧ w'.cell? ⟨w2.heap.size, 2, none⟩ = some (.slice a1 a.fi.length k1) ∧ w'.cell? ⟨w2.heap.size, 3, none⟩ = some (.slice a2 a.nx.length k2) ∧ w'.cell? ⟨w2.heap.size, 4, none⟩ = some (.slice ag l.length kg) ∧ w'.cell? ⟨w2.heap.size, 5, none⟩ = some (.slice al l.length kl) ∧ w'.cell? ⟨w2.heap.size, 6, none⟩ = some (.slice am (gSm a.nx l).length km))) := fun w' h => ⟨cell_later h c0, cell_later h c1, cell_later h c2, cell_later h c3, cell_later h c4, cell_later h c5, cell_later h c6⟩
  have hb3k := hb3
  clear hb3
  clear hb3k
  go_wp2_with fail
  refine (rd_length HRD3.out HOK.out).mono ?_
  rintro e wA ⟨rfl, hT0⟩
  have HRDA := Lib.hid (inRd_below HRD3.out hT0)
  have HBA := Lib.hid (HB3.out.trans (hT0.mono HB3.out.size))
  obtain ⟨c0, c1, c2, c3, c4, c5, c6⟩ := HSS.out wA hT0
  have HSA : Hid (∀ w', Below wA.heap.size wA w' → (w'.cell? ⟨w2.heap.size, 0, none⟩ = some (.int .i64 a.st) ∧ w'.cell? ⟨w2.heap.size, 1, none⟩ = some (.int .i64 a.sa) ∧ w'.cell? ⟨w2.heap.size, 2, none⟩ = some (.slice a1 a.fi.length k1) ∧ w'.cell? ⟨w2.heap.size, 3, none⟩ = some (.slice a2 a.nx.length k2) ∧ w'.cell? ⟨w2.heap.size, 4, none⟩ = some (.slice ag l.length kg) ∧ w'.cell? ⟨w2.heap.size, 5, none⟩ = some (.slice al l.length kl) ∧ w'.cell? ⟨w2.heap.size, 6, none⟩ = some (.slice am (gSm a.nx l).length km))) := fun w' h => ⟨cell_later h c0, cell_later h c1, cell_later h c2, cell_later h c3, cell_later h c4, cell_later h c5, cell_later h c6⟩
  clear hT0
  go_wp2_with fail
  refine (i_within_r _ _ _ true HWI.out _).mono ?_
  rintro e w' ⟨rfl, rfl⟩
  have hwi : IntKind.i64.wrap (i + (p.size : Int)) = i + p.size := IntWalk.i64_in _ (by omega)
  have hwi2 : IntKind.i64.wrap (i + (p.size : Int) - 1) = i + p.size - 1 := IntWalk.i64_in _ (by omega)
  go_upto_region 6 with fail
  go_region_held3 (fun w' => w'.cell? ⟨w2.heap.size, 0, none⟩ = some (.int .i64 a.st) ∧ w'.cell? ⟨w2.heap.size, 1, none⟩ = some (.int .i64 a.sa) ∧ w'.cell? ⟨w2.heap.size, 2, none⟩ = some (.slice a1 a.fi.length k1) ∧ w'.cell? ⟨w2.heap.size, 3, none⟩ = some (.slice a2 a.nx.length k2) ∧ w'.cell? ⟨w2.heap.size, 4, none⟩ = some (.slice ag l.length kg) ∧ w'.cell? ⟨w2.heap.size, 5, none⟩ = some (.slice al l.length kl) ∧ w'.cell? ⟨w2.heap.size, 6, none⟩ = some (.slice am (gSm a.nx l).length km)) (exact HSA.out _ (by (repeat (first | exact Below.refl _ _ | apply Below.drew | (refine bl_tr ?_ hT2) | (refine bl_tr ?_ hT1))); done)) (first | (go_at_call 42; with_reducible refine (rd_length (inRd_below HRDA.out (by (repeat (first | exact Below.refl _ _ | apply Below.drew)); done)) HOK.out).mono ?_; rintro e wB ⟨rfl, hT1⟩) | (go_at_call 51; with_reducible refine (HSIZ.out _).mono ?_; rintro e wS ⟨rfl, rfl⟩) | (go_at_call 41; with_reducible refine (rd_ends (inRd_below HRDA.out (by (repeat (first | exact Below.refl _ _ | apply Below.drew | (refine bl_tr ?_ hT1))); done)) HOK.out HAO.out _).mono ?_; rintro e wC ⟨rfl, hT2⟩))
  have hbf : Below wA.heap.size wA wC := by (repeat (first | exact Below.refl _ _ | apply Below.drew | (refine bl_tr ?_ hT2) | (refine bl_tr ?_ hT1))); done
  have HBF := Lib.hid (HBA.out.trans (hbf.mono HBA.out.size))
  have HRDB := Lib.hid (inRd_below HRDA.out hbf)
  obtain ⟨d0, d1, d2, d3, d4, d5, d6⟩ := HSA.out wC hbf
  rw [HEN.out, ← HKD.out]
  have hnb : 0 ≤ nxK p l i ∧ nxK p l i ≤ 1000000000000000 := by rw [HKD.out]; exact HEB.out _
  have hw1 : IntKind.i64.wrap (nxK p l i + 1) = nxK p l i + 1 := IntWalk.i64_in _ (by omega)
  have hmf : ∀ (fn : Fn) (first cap : Array Value) (w : World), (Instr.makeFunc fn first cap).run Try.prog w = .ok (.func fn first cap) w := fun _ _ _ _ => rfl
  have HLE := Lib.hid (rd_least HRDB.out HOK.out (nxK p l i + 1) (enF p l) 41 #[.agg #[.int .i64 a.st, .int .i64 a.sa, .slice a1 a.fi.length k1, .slice a2 a.nx.length k2, .slice ag l.length kg, .slice al l.length kl, .slice am (gSm a.nx l).length km]] #[] (enters_of Try.func41 (by kernel_rfl) rfl) HMO.out
    (fun j w' _ _ hb' => (rd_ends (inRd_below HRDB.out hb') HOK.out HAO.out j).mono (fun e w'' h => by rw [← HEN.out]; exact h)))
  clear hT1 hT2 hbf c0 c1 c2 c3 c4 c5 c6
  go_wp2_with fail
  refine HLE.out.mono ?_
  rintro e w4 ⟨r, rfl, hls, hb4⟩
  have HB4 := Lib.hid (HBF.out.trans (hb4.mono HBF.out.size))
  clear HLE
  by_cases hke : nxK p l i < enF p l (lastI (gLn l))
  · have hkl : decide (nxK p l i + 1 ≤ enF p l (lastI (gLn l))) = true := decide_eq_true (by omega)
    have HKL := Lib.hid hke
    obtain ⟨hr, hr0, hr1⟩ := HPA.out _ r hls hke
    have HR := Lib.hid hr
    have hp2 := HP20.out
    rw [hkl]
    clear hls hb4 hr hke hkl
    go_wp2_with fail
    refine (HSIZ.out _).mono ?_
    rintro e w5 ⟨rfl, rfl⟩
    go_wp2
    go_ret2
    exact ⟨.inl ⟨HKL.out, by rw [HR.out]; rfl⟩, HB4.out⟩
  · have hkl : decide (nxK p l i + 1 ≤ enF p l (lastI (gLn l))) = false := decide_eq_false (by omega)
    have HKL : Hid (¬ nxK p l i < enF p l (lastI (gLn l))) := hke
    rw [hkl]
    clear hls hb4 hke hkl
    go_wp2
    go_ret2
    exact ⟨.inr ⟨HKL.out, rfl⟩, HB4.out⟩
end Go.Proofs.Ytimfbnjgodbgoaa

/- P6Grammar: a short drawn grammar. -/
namespace Go.Proofs.Ytimfbnjgodbgoaa
open Go.ChangeShapes Go.WideShapes Go.RowKit
set_option linter.unusedVariables false
set_option linter.unusedSimpArgs false
set_option maxHeartbeats 2000000
set_option maxRecDepth 100000
theorem s_P6Grammar (v : Value) (l : List UInt8) (w : World) (hl : l.length ≤ 1048576) (hin : InRow w v l.length 1 (u8s l)) :
    Calls Try.prog 13 #[v] w fun e w' => ∃ v L, e = .returned (.agg #[v]) ∧ gOk L = true ∧ L ≠ [] ∧ lastI (gLn L) ≤ 8 ∧ OwnRu w' w.heap.size v L ∧ Below w.heap.size w w' := by
  obtain ⟨a, n, cap, rfl⟩ : ∃ a n cap, v = .slice a n cap := by
    rcases hin with ⟨_, _, a, cap, rfl⟩ | ⟨b, off, cap, rfl, _⟩
    · exact ⟨_, _, _, rfl⟩
    · exact ⟨_, _, _, rfl⟩
  have HB := Lib.hid ((Below.refl w.heap.size w).alloc (Nat.le_refl _) (.cells #[.slice none 0 0] 26))
  have HIN := Lib.hid (inRow_below hin HB.out)
  clear hin
  go_enter Try.func13, Try.ntmps13
  go_wp2_with fail
  refine (s_l00From _ l _ hl HIN.out).mono ?_
  rintro e w1 ⟨rfl, hg1, hs1⟩
  have hz1 : w.heap.size + 1 ≤ w1.heap.size := by have := hg1.size; simpa using this
  have d3 : w1.cell? ⟨w.heap.size, 0, none⟩ = some (.slice none 0 0) := by rw [hg1.cell_far _ (by simp) (by simp)]; simp [go_sem]
  have e3 : w1.frozen? ⟨w.heap.size, 0, none⟩ = false := by rw [hg1.frozen_far _ (by simp) (by simp)]; simp [go_sem]
  have B1 : Below w.heap.size w w1 := below_of_grown (grown_new (grown_of_bel (r := none) HB.out) hg1 (fun q e => by cases e)) (Nat.le_refl _) (fun q e => by cases e)
  have HB1 := Lib.hid B1
  have hs2 : Src w1 (w.heap.size + 1) l 0 := by simpa using hs1
  have HS1 := Lib.hid hs2
  clear hg1 hs1 hs2 B1
  go_wp2_with fail
  refine (s_l02Drawn (w.heap.size + 1) 0 l 8 _ (by omega) (by omega) (by omega) HS1.out).mono ?_
  rintro e w2 ⟨v2, L, rfl, hok, hne, hl8, ho, hg2, -⟩
  have HL8 : Hid (lastI (gLn L) ≤ 8) := by have := hl8; show _ ≤ _; simpa using this
  obtain ⟨g, cc, rfl, hg2a, -⟩ := owns_some3 ho (fun e => hne (List.eq_nil_of_length_eq_zero e))
  have hz2 := hg2.size
  have d4 : w2.cell? ⟨w.heap.size, 0, none⟩ = some (.slice none 0 0) := by rw [hg2.cell_far _ (by simp; omega) (by simp)]; exact d3
  have e4 : w2.frozen? ⟨w.heap.size, 0, none⟩ = false := by rw [hg2.frozen_far _ (by simp; omega) (by simp)]; exact e3
  have HB2 := Lib.hid (below_of_grown (grown_new (grown_of_bel (r := none) HB1.out) hg2 (fun q e => by injection e with e; omega)) (Nat.le_refl _) (fun q e => by cases e))
  have HO2 := Lib.hid (OwnRu.kept (OwnRu.weak ho (show w.heap.size ≤ _ by omega)) (grownBy_set w2 ⟨w.heap.size, 0, none⟩ (.slice (some ⟨g, 0, none⟩) L.length cc)) (.inr (by simp [Value.ownBlock]; omega)))
  have HK2 := Lib.hid hok
  clear hl8 hg2 ho hok d3 e3 HB1 HS1
  go_wp2
  exact bodyPost_ret (v := .agg #[.slice (some ⟨g, 0, none⟩) L.length cc]) (by simp [results, Try.results13, go_sem, cell_st_same _ d4]) rfl ⟨_, L, rfl, HK2.out, hne, HL8.out, HO2.out, HB2.out.setCell (by simp) _⟩
end Go.Proofs.Ytimfbnjgodbgoaa

/- FnPatterns: plain law: the places told by the program's rides are those of the unpacked word. -/
namespace Go.Proofs.Ytimfbnjgodbgoaa
open Go.ChangeShapes Go.WideShapes Go.RowKit
set_option linter.unusedVariables false
set_option linter.unusedSimpArgs false
set_option maxHeartbeats 1000000
set_option maxRecDepth 100000
theorem exF_letL {l : List Ru} (hok : gOk l = true) : ∀ (f k : Nat), k < f → k < l.length → letL (exF l f k)
  | 0, k, h, _ => by omega
  | f + 1, k, h, hk => by
    by_cases hz : (ruA l k).1.size = 0
    · obtain ⟨q1, q2, q3, q4⟩ := (gOk_rule hok hk).1 hz
      have a := exF_letL hok f (ruA l k).2.1.toNat (by omega) (by omega)
      have b := exF_letL hok f (ruA l k).2.2.toNat (by omega) (by omega)
      rw [exF_pair hz]
      intro x hx
      rcases List.mem_append.1 hx with h | h
      · exact a x h
      · exact b x h
    · rw [exF_let hz]
      have hv := ((gOk_rule hok hk).2 hz).2.1
      simp only [validB, Bool.and_eq_true, allL, List.all_eq_true] at hv
      intro x hx
      have := letB_t (hv.1 x hx)
      omega
theorem letL_wd {l : List Ru} (hok : gOk l = true) (hne : l ≠ []) : letL (wd l) := by
  have : l.length ≠ 0 := fun e => hne (List.eq_nil_of_length_eq_zero e)
  exact exF_letL hok _ _ (by omega) (by omega)
theorem letL_valid {s : ByteArray} (h : letL s.data.toList) (hs : s.size ≤ 2000) : validB s = true := by
  simp only [validB, Bool.and_eq_true, allL, List.all_eq_true, decide_eq_true_eq]
  refine ⟨fun x hx => ?_, hs⟩
  have := h x hx
  simp [letB]; omega
theorem uw_wd {l : List Ru} (hok : gOk l = true) (h : lastI (gLn l) ≤ 2000) : uwC l = 0 ∧ (uwW l).data.toList = wd l ∧ ((uwW l).size : Int) = lastI (gLn l) := by
  obtain ⟨h1, h2⟩ := uw_ok hok
  have hc : upC l 0 (lastI (gLn l)) = 0 := by rw [upC, if_pos (pk_all hok), if_neg (by omega)]
  have hw := wd_len hok
  have e : (uwW l).data.toList = wd l := by
    rw [h2, upW, if_pos hc]
    show (ptX l 0 _) = _
    unfold ptX
    rw [show (lastI (gLn l)).toNat = (wd l).length by omega, List.take_length]
    rfl
  refine ⟨by rw [h1, hc], e, ?_⟩
  rw [← psz, e, hw]
theorem oc_mono (p s : ByteArray) : ∀ (y x : Nat), x ≤ y → (ocTo p s x).length ≤ (ocTo p s y).length
  | 0, x, h => by rw [show x = 0 by omega]; exact Nat.le_refl _
  | y + 1, x, h => by
    by_cases he : x = y + 1
    · rw [he]; exact Nat.le_refl _
    · have := oc_mono p s y x (by omega)
      rw [ocTo]
      split
      · rw [List.length_append]; omega
      · exact this
/-- the place number c -/
theorem oc_at (p s : ByteArray) : ∀ (n c : Nat), c < (ocTo p s n).length → ∃ x : Nat, x < n ∧ (ocTo p s n).getD c 0 = (x : Int) ∧ (ocTo p s x).length = c ∧ (ocTo p s (x + 1)).length = c + 1
  | 0, c, h => by rw [ocTo] at h; simp at h
  | n + 1, c, h => by
    by_cases ht : ((s.extract n (n + p.size)).toList == p.toList) = true
    · rw [ocTo_yes p s n ht] at h ⊢
      by_cases hc : c < (ocTo p s n).length
      · obtain ⟨x, h1, h2, h3, h4⟩ := oc_at p s n c hc
        refine ⟨x, by omega, ?_, h3, h4⟩
        rw [← h2, List.getD, List.getD, List.getElem?_append_left hc]
      · rw [List.length_append, List.length_cons, List.length_nil] at h
        have e : c = (ocTo p s n).length := by omega
        refine ⟨n, by omega, ?_, e.symm, ?_⟩
        · rw [e, List.getD, List.getElem?_append_right (Nat.le_refl _)]; simp
        · rw [ocTo_yes p s n ht, List.length_append]; simp [e]
    · rw [ocTo_no p s n (by simpa using ht)] at h ⊢
      obtain ⟨x, h1, h2, h3, h4⟩ := oc_at p s n c h
      exact ⟨x, by omega, h2, h3, h4⟩
/-- the least place from i on, -1 if there is none -/
def nxF : List Int → Int → Int
  | [], _ => -1
  | x :: xs, i => if i ≤ x then x else nxF xs i
theorem nxF_drop (L : List Int) (i : Int) {k : Nat} (hk : k < L.length) : nxF (L.drop k) i = if i ≤ L.getD k 0 then L.getD k 0 else nxF (L.drop (k + 1)) i := by
  rw [List.drop_eq_getElem_cons hk, nxF, List.getD, List.getElem?_eq_getElem hk]; rfl
theorem nxF_eq : ∀ (L : List Int) (i : Int) (K : Nat), K ≤ L.length → (∀ j, j < K → L.getD j 0 < i) → (K < L.length → i ≤ L.getD K 0) → nxF L i = if K < L.length then L.getD K 0 else -1
  | [], i, K, h, _, _ => by simp [nxF]
  | x :: xs, i, 0, h, _, h2 => by
    have := h2 (by simp)
    simp at this
    simp [nxF, this]
  | x :: xs, i, K + 1, h, h1, h2 => by
    have := h1 0 (by omega)
    simp at this
    have ih := nxF_eq xs i K (by simpa using h) (fun j hj => by have := h1 (j + 1) (by omega); simpa using this) (fun hk => by have := h2 (by simpa using hk); simpa using this)
    rw [nxF, if_neg (by omega), ih]
    simp
/-- what is known of a pattern and of a word -/
structure PatH (p : ByteArray) (l : List Ru) : Prop where
  ok : gOk l = true
  ne : l ≠ []
  le : lastI (gLn l) ≤ 8
  s1 : 1 ≤ p.size
  s2 : p.size ≤ 20
  lt : letL p.data.toList
def plL (p : ByteArray) (l : List Ru) : List Int := ocTo p (uwW l) ((uwW l).size + 1 - p.size)
theorem pat_codes {p : ByteArray} {l : List Ru} (h : PatH p l) : uwC l = 0 ∧ paC p = 0 ∧ skC p l = 0 ∧ ocC p (uwW l) = 0 ∧ ocL p (uwW l) = plL p l ∧ ((uwW l).size : Int) = lastI (gLn l) ∧ validB p = true ∧ validB (uwW l) = true := by
  obtain ⟨h1, h2, h3⟩ := uw_wd h.ok (by have := h.le; omega)
  have hl := h.le
  have hp := letL_valid h.lt (by have := h.s2; omega)
  have hw := letL_valid (s := uwW l) (by rw [h2]; exact letL_wd h.ok h.ne) (by omega)
  have hs1 := h.s1
  have hs2 := h.s2
  have hpa : paC p = 0 := by rw [paC, if_neg (by simp [hp]), if_neg (by omega), if_neg (by omega)]
  have he : p.toList.isEmpty = false := by
    cases hq : p.toList.isEmpty
    · rfl
    · have := toList_size p
      rw [List.isEmpty_iff.1 hq, List.length_nil] at this
      omega
  refine ⟨h1, hpa, by rw [skC, if_neg (by simp [h.ok]), hpa], ?_, ?_, h3, hp, hw⟩
  · simp [ocC, hp, hw, he]
  · simp [ocL, hp, hw, he, plL]
theorem en_pl {p : ByteArray} {l : List Ru} (h : PatH p l) {j : Int} (h0 : 0 ≤ j) (h1 : j ≤ lastI (gLn l)) : enF p l j = ((ocTo p (uwW l) (j.toNat + 1 - p.size)).length : Nat) := by
  obtain ⟨_, h2, h3⟩ := uw_wd h.ok (by have := h.le; omega)
  rw [enF_cw h.s2 h.ok, ← h2]
  exact cw_oc p (uwW l) (by rw [h2]; exact letL_wd h.ok h.ne) h.s1 (by omega)
theorem en_all {p : ByteArray} {l : List Ru} (h : PatH p l) : enF p l (lastI (gLn l)) = ((plL p l).length : Nat) := by
  obtain ⟨_, h2, h3⟩ := uw_wd h.ok (by have := h.le; omega)
  rw [en_pl h (by omega) (Int.le_refl _), plL]
  congr 3; omega
theorem pl_len {p : ByteArray} {l : List Ru} (h : PatH p l) : (plL p l).length ≤ 9 := by
  have := ocTo_len p (uwW l) ((uwW l).size + 1 - p.size)
  obtain ⟨_, _, h3⟩ := uw_wd h.ok (by have := h.le; omega)
  have := h.le
  unfold plL; omega
theorem pl_cp {p : ByteArray} {l : List Ru} (h : PatH p l) : cpV p l = ((plL p l).length : Nat) := by
  rw [cpV, if_pos (pat_codes h).2.2.1, ← enF_eq h.s2 h.ok, en_all h]
theorem pl_at {p : ByteArray} {l : List Ru} (h : PatH p l) {k : Nat} (hk : k < (plL p l).length) : patR p l k - p.size = (plL p l).getD k 0 := by
  obtain ⟨_, h2, h3⟩ := uw_wd h.ok (by have := h.le; omega)
  obtain ⟨x, q1, q2, q3, q4⟩ := oc_at p (uwW l) _ k hk
  have hs1 := h.s1
  have hcw : ∀ j, j ≤ (uwW l).size → cwW (paA p).nx p.size 0 ((wd l).take j) = ((ocTo p (uwW l) (j + 1 - p.size)).length : Nat) := fun j hj => by
    have := cw_oc p (uwW l) (by rw [h2]; exact letL_wd h.ok h.ne) h.s1 hj
    rw [h2] at this; exact this
  have hlen : (wd l).length = (uwW l).size := by rw [← psz, h2]
  have e : patR p l k = ((x + p.size : Nat) : Int) := by
    apply patR_eq
    refine ⟨by omega, by rw [hlen]; omega, ?_, fun j hj => ?_⟩
    · rw [Int.toNat_natCast, hcw _ (by omega), show x + p.size + 1 - p.size = x + 1 by omega, q4]; omega
    · rw [hcw _ (by omega)]
      have := oc_mono p (uwW l) x (j + 1 - p.size) (by omega)
      omega
  rw [e]
  show _ = (ocTo _ _ _).getD k 0
  rw [q2]; omega
theorem pl_nx {p : ByteArray} {l : List Ru} (h : PatH p l) {i : Int} (h0 : 0 ≤ i) (h1 : i ≤ lastI (gLn l)) :
    (nxK p l i < enF p l (lastI (gLn l)) → nxF (plL p l) i = patR p l (nxK p l i) - p.size ∧ 0 ≤ patR p l (nxK p l i) - p.size) ∧ (¬ nxK p l i < enF p l (lastI (gLn l)) → nxF (plL p l) i = -1) := by
  obtain ⟨_, h2, h3⟩ := uw_wd h.ok (by have := h.le; omega)
  have hs1 := h.s1
  have hK : nxK p l i = ((ocTo p (uwW l) (min i.toNat ((uwW l).size + 1 - p.size))).length : Nat) := by
    rw [nxK, en_pl h (by omega) (by omega)]
    congr 3
    omega
  rw [en_all h]
  generalize hq : (ocTo p (uwW l) (min i.toNat ((uwW l).size + 1 - p.size))).length = K at hK
  have hKl : K ≤ (plL p l).length := by rw [← hq]; exact oc_mono _ _ _ _ (Nat.min_le_right _ _)
  have hx := nxF_eq (plL p l) i K hKl (fun j hj => by
      obtain ⟨x, q1, q2, q3, q4⟩ := oc_at p (uwW l) _ j (show j < (plL p l).length by omega)
      show (ocTo _ _ _).getD j 0 < i
      rw [q2]
      apply Classical.byContradiction
      intro hn
      have := oc_mono p (uwW l) x (min i.toNat ((uwW l).size + 1 - p.size)) (by omega)
      omega) (fun hk => by
      obtain ⟨x, q1, q2, q3, q4⟩ := oc_at p (uwW l) _ K hk
      show i ≤ (ocTo _ _ _).getD K 0
      rw [q2]
      apply Classical.byContradiction
      intro hn
      have := oc_mono p (uwW l) (min i.toNat ((uwW l).size + 1 - p.size)) (x + 1) (by omega)
      omega)
  rw [hK]
  constructor
  · intro hlt
    have hlt' : K < (plL p l).length := by omega
    rw [hx, if_pos hlt', pl_at h hlt']
    refine ⟨rfl, ?_⟩
    obtain ⟨x, q1, q2, q3, q4⟩ := oc_at p (uwW l) _ K hlt'
    show 0 ≤ (ocTo _ _ _).getD K 0
    rw [q2]; omega
  · intro hge
    rw [hx, if_neg (by omega)]
end Go.Proofs.Ytimfbnjgodbgoaa

/- P6Pattern: a drawn pattern. -/
namespace Go.Proofs.Ytimfbnjgodbgoaa
open Go.ChangeShapes Go.WideShapes Go.RowKit
set_option linter.unusedVariables false
set_option linter.unusedSimpArgs false
set_option maxHeartbeats 2000000
set_option maxRecDepth 100000
/-- a source in the block gs, a grammar's header in the box bx -/
def PpR (w : World) (gs bx : Nat) (lc : List UInt8) (v : Value) (B : Nat) (X : World) : Prop := Below w.heap.size w X ∧ Src X gs lc B ∧ X.cell? ⟨bx, 0, none⟩ = some v ∧ bx < X.heap.size ∧ bx < gs ∧ w.heap.size ≤ bx
theorem PpR.src {w X Y : World} {gs bx B B' : Nat} {lc : List UInt8} {v : Value} (h : PpR w gs bx lc v B X) (hg : X.grownBy Y (some gs)) (hs : Src Y gs lc B') : PpR w gs bx lc v B' Y := by
  obtain ⟨h1, h2, h3, h4, h5, h6⟩ := h
  have hz := hg.size
  have hz1 := h1.size
  refine ⟨h1.grown hg (Nat.le_trans (Nat.le_refl _) hz1) (fun q e => by injection e with e; omega), hs, ?_, by omega, h5, h6⟩
  rw [hg.cell_far _ h4 (by simp; omega)]; exact h3
theorem PpR.bel {w X Y : World} {gs bx B : Nat} {lc : List UInt8} {v : Value} (h : PpR w gs bx lc v B X) (hb : Below X.heap.size X Y) : PpR w gs bx lc v B Y := by
  obtain ⟨h1, h2, h3, h4, h5, h6⟩ := h
  have hz := hb.size
  exact ⟨h1.trans (hb.mono h1.size), Src.kept (row := none) h2 (grown_of_bel hb) (fun r e => by cases e), cell_later hb h3, by omega, h5, h6⟩
theorem pt_letL {l : List Ru} (hok : gOk l = true) (hne : l ≠ []) (i j : Int) : letL (ByteArray.mk (ptX l i j).toArray).data.toList := by
  intro x hx
  have hx2 : x ∈ ptX l i j := by simpa using hx
  exact letL_wd hok hne x (List.mem_of_mem_take (List.mem_of_mem_drop hx2))
theorem pt_size {l : List Ru} (hok : gOk l = true) {i j : Int} (hi : 0 ≤ i) (hij : i ≤ j) (hj : j ≤ lastI (gLn l)) : (ByteArray.mk (ptX l i j).toArray).size = (j - i).toNat := by
  have := wd_len hok
  show (ptX l i j).toArray.size = _
  rw [List.size_toArray, ptX, List.length_drop, List.length_take]
  omega
theorem valid_letL {p : ByteArray} (h : validB p = true) : letL p.data.toList := by
  simp only [validB, Bool.and_eq_true, allL, List.all_eq_true] at h
  intro x hx
  have := letB_t (h.1 x hx)
  omega
theorem s_P6Pattern (v vg : Value) (lc : List UInt8) (l : List Ru) (w : World) (hl : lc.length ≤ 1048576) (hin : InRow w v lc.length 1 (u8s lc)) (hn : l.length ≤ 1048576) (hsz : ∀ r ∈ l, r.1.size ≤ 1048576) (hok : gOk l = true) (hne : l ≠ []) (hg : InRu w vg l) (h8 : lastI (gLn l) ≤ 8) :
    Calls Try.prog 14 #[v, .agg #[vg]] w fun e w' => ∃ p : ByteArray, e = .returned (.string p) ∧ 1 ≤ p.size ∧ p.size ≤ 20 ∧ letL p.data.toList ∧ Below w.heap.size w w' := by
  obtain ⟨ag, kg, rfl⟩ := inRu_sl hg
  have hbx := (Below.refl w.heap.size w).alloc (Nat.le_refl _) (.cells #[.slice ag l.length kg] 26)
  have HIN := Lib.hid (inRow_below hin hbx)
  have HB0 := Lib.hid hbx
  have hsome : (lnT l l.length).isSome = true := by rw [(gOk_some hok).2.1]; rfl
  have h1 : 1 ≤ lastI (gLn l) := by
    have hl0 : l.length ≠ 0 := fun e => hne (List.eq_nil_of_length_eq_zero e)
    rw [lastI_at (by rw [(gOk_some hok).2.2.1]; omega)]
    exact ((gOk_some hok).2.2.2 _ (getD_mem (by rw [(gOk_some hok).2.2.1]; omega))).1
  have HLEN : Hid (∀ gs bx B X, PpR w gs bx lc (.slice ag l.length kg) B X → Calls Try.prog 32 #[.pointer (some ⟨bx, 0, none⟩)] X fun e Y => e = .returned (.int .i64 (lastI (gLn l))) ∧ PpR w gs bx lc (.slice ag l.length kg) B Y) :=
    fun gs bx B X hX => (s_l02Length bx 0 kg ag l X hn hsz hX.2.2.1 (inRu_below hg hX.1) hsome).mono (fun e Y h => ⟨h.1, hX.bel h.2⟩)
  have HONE : Hid (∀ gs bx B X, B ≤ 100000 → PpR w gs bx lc (.slice ag l.length kg) B X → Calls Try.prog 33 #[.pointer (some ⟨gs, 0, none⟩), .int .i64 3] X fun e Y => ∃ b : Bool, e = .returned (.bool b) ∧ PpR w gs bx lc (.slice ag l.length kg) (B + 2) Y) :=
    fun gs bx B X hB hX => (s_one gs B lc 3 X (by omega) (by omega) hX.2.1).mono (fun e Y ⟨b, h1, h2, h3⟩ => ⟨b, h1, hX.src h2 h3⟩)
  have HPICK : Hid (∀ gs bx B (n : Int) X, n ≤ 1048576 → B ≤ 100000 → PpR w gs bx lc (.slice ag l.length kg) B X → Calls Try.prog 34 #[.pointer (some ⟨gs, 0, none⟩), .int .i64 n] X fun e Y => ∃ x : Nat, e = .returned (.int .i64 x) ∧ (x = 0 ∨ (x : Int) < n) ∧ PpR w gs bx lc (.slice ag l.length kg) (B + 2) Y) :=
    fun gs bx B n X hn hB hX => (s_pick gs B lc n X hn (by omega) hX.2.1).mono (fun e Y ⟨b, h1, h0, h2, h3⟩ => ⟨b, h1, h0, hX.src h2 h3⟩)
  have HUNP : Hid (∀ gs bx B (i j : Int) X, 0 ≤ i → i < j → j ≤ lastI (gLn l) → PpR w gs bx lc (.slice ag l.length kg) B X → Calls Try.prog 35 #[.pointer (some ⟨bx, 0, none⟩), .int .i64 i, .int .i64 j] X fun e Y => ∃ q : ByteArray, e = .returned (.string q) ∧ 1 ≤ q.size ∧ q.size ≤ 20 ∧ letL q.data.toList ∧ PpR w gs bx lc (.slice ag l.length kg) B Y) :=
    fun gs bx B i j X hi hij hj hX => (s_l02Unpack bx 0 kg ag l i j X hn hsz hok hX.2.2.1 (inRu_below hg hX.1) hi (by omega) hj (by omega)).mono (fun e Y h => by
      have hs := pt_size hok hi (by omega) hj
      exact ⟨_, h.1, by omega, by omega, pt_letL hok hne i j, hX.bel h.2⟩)
  have HLC := Lib.hid hl
  clear hin hg hok hne hsz hn hsome hbx
  generalize lastI (gLn l) = la at *
  go_enter Try.func14, Try.ntmps14
  go_wp2_with fail
  refine (s_l00From _ lc _ HLC.out HIN.out).mono ?_
  rintro e w1 ⟨rfl, hg1, hs1⟩
  have HP1 : Hid (PpR w (w.alloc (.cells #[.slice ag l.length kg] 26)).heap.size w.heap.size lc (.slice ag l.length kg) 0 w1) := by
    have hz := hg1.size
    refine ⟨?_, hs1, ?_, ?_, by simp, Nat.le_refl _⟩
    · exact HB0.out.grown hg1 HB0.out.size (fun q e => by cases e)
    · rw [hg1.cell_far _ (by simp) (by simp)]; simp [go_sem]
    · simp at hz ⊢; omega
  clear hg1 hs1 HB0 HIN
  generalize (w.alloc (.cells #[.slice ag l.length kg] 26)).heap.size = gs at *
  go_wp2_with fail
  refine (s_l01Drawn gs 0 lc 3 _ (by omega) (by omega) HP1.out.2.1).mono ?_
  rintro e w2 ⟨p, rfl, hp3, hval, hg2, hs2⟩
  have HP2 := Lib.hid (HP1.out.src hg2 hs2)
  have HVL := Lib.hid (valid_letL hval)
  have HP3 := Lib.hid hp3
  clear hg2 hs2 HP1 hval hp3
  go_upto_region 3 with fail
  go_cut [22] (fun s22 wx => ∃ bb : Bool, s22 = .bool bb ∧ (bb = false → 1 ≤ p.size) ∧ PpR w gs w.heap.size lc (.slice ag l.length kg) 5002 wx)
  case first =>
    go_wp2_with fail
    refine (HLEN.out gs w.heap.size _ _ HP2.out).mono ?_
    rintro e w3 ⟨rfl, h3⟩
    have HP4 := Lib.hid h3
    have hla : decide (la > 0) = true := decide_eq_true (by omega)
    clear HP2 h3
    by_cases hz : p.size = 0
    · obtain rfl := size_zero hz
      clear hz
      go_wp2_with fail
      go_meet
      obtain ⟨q1, q2, q3⟩ := HP4.out
      exact ⟨true, rfl, (fun h => by cases h), q1, q2.more (by omega), q3⟩
    · have hpe : p.toList.isEmpty = false := by
        cases hq : p.toList.isEmpty
        · rfl
        · have := toList_size p
          rw [List.isEmpty_iff.1 hq, List.length_nil] at this
          omega
      have HZ : Hid (1 ≤ p.size) := by show _ ≤ _; omega
      clear hz
      go_wp2_with fail
      refine (HONE.out gs w.heap.size _ _ (by omega) HP4.out).mono ?_
      rintro e w4 ⟨b, rfl, h4⟩
      go_wp2_with fail
      go_meet
      exact ⟨_, rfl, (fun _ => HZ.out), h4⟩
  case rest =>
    obtain ⟨bb, rfl, hbb, hst⟩ := hcut
    have HST := Lib.hid hst
    clear hst HP2
    go_upto_if 22 with fail
    go_cut [6] (fun s6 wx => ∃ q : ByteArray, s6 = .string q ∧ 1 ≤ q.size ∧ q.size ≤ 20 ∧ letL q.data.toList ∧ Below w.heap.size w wx)
    case first =>
      cases bb
      · go_wp2_with fail
        go_meet
        exact ⟨_, rfl, hbb trivial, (by have := HP3.out; omega), HVL.out, HST.out.1⟩
      · clear hbb
        go_wp2_with fail
        refine (HLEN.out gs w.heap.size _ _ HST.out).mono ?_
        rintro e w5 ⟨rfl, h5⟩
        have HP5 := Lib.hid h5
        clear h5
        go_wp2_with fail
        refine (HPICK.out gs w.heap.size _ _ _ (by omega) (by omega) HP5.out).mono ?_
        rintro e w6 ⟨x, rfl, hx, h6⟩
        have HP6 := Lib.hid h6
        clear h6
        go_wp2_with fail
        refine (HLEN.out gs w.heap.size _ _ HP6.out).mono ?_
        rintro e w7 ⟨rfl, h7⟩
        have HP7 := Lib.hid h7
        clear h7
        go_wp2_with fail
        refine (HPICK.out gs w.heap.size _ _ _ (by omega) (by omega) HP7.out).mono ?_
        rintro e w8 ⟨y, rfl, hy, h8⟩
        have HP8 := Lib.hid h8
        clear h8
        go_wp2_with fail
        refine (s_l00Min _ _ _).mono ?_
        rintro e w9 ⟨rfl, rfl⟩
        go_wp2_with fail
        refine (HUNP.out gs w.heap.size _ _ _ _ (by omega) (by omega) (by omega) HP8.out).mono ?_
        rintro e wA ⟨q, rfl, hq1, hq2, hq3, h9⟩
        go_wp2_with fail
        go_meet
        exact ⟨_, rfl, hq1, hq2, hq3, h9.1⟩
    case rest =>
      obtain ⟨q, rfl, hq1, hq2, hq3, hb⟩ := hcut
      have hqe : q.toList.isEmpty = false := by
        cases hq : q.toList.isEmpty
        · rfl
        · have := toList_size q
          rw [List.isEmpty_iff.1 hq, List.length_nil] at this
          omega
      have HB := Lib.hid hb
      have HQ := Lib.hid (And.intro hq1 (And.intro hq2 hq3))
      clear hq1 hq2 hq3 hb HST
      go_wp2
      go_ret
      exact ⟨_, rfl, HQ.out.1, HQ.out.2.1, HQ.out.2.2, HB.out⟩
end Go.Proofs.Ytimfbnjgodbgoaa

/- FnPatterns: the walk of the law. -/
namespace Go.Proofs.Ytimfbnjgodbgoaa
open Go.ChangeShapes Go.WideShapes Go.RowKit
set_option linter.unusedVariables false
set_option linter.unusedSimpArgs false
set_option maxHeartbeats 2000000
set_option maxRecDepth 100000
theorem l_f6big (v : Value) (n : Nat) (xs : List Value) (w : World) (h : InRow w v n 1 xs) :
    Calls Try.prog 12 #[v] w fun e w' => e = .returned (.bool (decide (4096 < n))) ∧ w = w' := by
  obtain ⟨a, cap, rfl⟩ : ∃ a cap, v = .slice a n cap := by
    rcases h with ⟨rfl, _, a, cap, rfl⟩ | ⟨b, off, cap, rfl, _⟩
    · exact ⟨_, _, rfl⟩
    · exact ⟨_, _, rfl⟩
  clear h
  by_cases h1 : 4096 < n
  · have h1' : (4096 : Int) < n := by omega
    go_enter Try.func12, Try.ntmps12
    go_wp2
    go_ret
    exact ⟨by simp [h1], rfl⟩
  · have h1' : ¬ (4096 : Int) < n := by omega
    go_enter Try.func12, Try.ntmps12
    go_wp2
    go_ret
    exact ⟨by simp [h1], rfl⟩
/-- what stands through the whole law: the grammar in its box, the places -/
def FpR (w : World) (b5 : Nat) (vg : Value) (L : List Ru) (vp : Value) (pl : List Int) (X : World) : Prop := Below w.heap.size w X ∧ X.cell? ⟨b5, 0, none⟩ = some vg ∧ InRu X vg L ∧ X.ownsRow w.heap.size 2 1 vp pl.length (pl.map (Value.int .i64))
theorem FpR.bel {w X Y : World} {b5 : Nat} {vg vp : Value} {L : List Ru} {pl : List Int} (h : FpR w b5 vg L vp pl X) (hb : Below X.heap.size X Y) : FpR w b5 vg L vp pl Y := by
  obtain ⟨h1, h2, h3, h4⟩ := h
  exact ⟨h1.trans (hb.mono h1.size), cell_later hb h2, inRu_below h3 hb, owns_after h4 hb⟩

theorem auE_self (a : Au) : auE a a = true := by simp [auE]
theorem walk_FnPatterns (v : Value) (l : List UInt8) (v2 : Value) (l2 : List UInt8) (w : World) (h0 : InRow w v l.length 1 (u8s l)) (h0b : l.length ≤ 9223372036854775807) (h0c : True) (h1 : InRow w v2 l2.length 1 (u8s l2)) (h1b : l2.length ≤ 9223372036854775807) (h1c : True) :
    Calls Try.prog 4 #[v, v2] w fun e w' => e = .returned (.bool true) ∧ Below w.heap.size w w' := by
  have H0 := Lib.hid h0
  have H1 := Lib.hid h1
  clear h0 h1
  by_cases hb1 : 4096 < l.length
  · have HL : Hid (decide (4096 < l.length) = true) := decide_eq_true hb1
    clear hb1
    go_enter Try.func4, Try.ntmps4
    go_wp2_with fail
    refine (l_f6big v _ _ w H0.out).mono ?_
    rintro e w1 ⟨rfl, rfl⟩
    rw [HL.out]
    go_wp2
    go_ret
    exact ⟨rfl, Below.refl _ _⟩
  have HL : Hid (decide (4096 < l.length) = false) := decide_eq_false hb1
  by_cases hb2 : 4096 < l2.length
  · have HL2 : Hid (decide (4096 < l2.length) = true) := decide_eq_true hb2
    clear hb1 hb2
    go_enter Try.func4, Try.ntmps4
    go_wp2_with fail
    refine (l_f6big v _ _ w H0.out).mono ?_
    rintro e w1 ⟨rfl, rfl⟩
    rw [HL.out]
    go_wp2_with fail
    refine (l_f6big v2 _ _ w H1.out).mono ?_
    rintro e w1 ⟨rfl, rfl⟩
    rw [HL2.out]
    go_wp2
    go_ret
    exact ⟨rfl, Below.refl _ _⟩
  have HL2 : Hid (decide (4096 < l2.length) = false) := decide_eq_false hb2
  have hl : l.length ≤ 1048576 := by omega
  have hl2 : l2.length ≤ 1048576 := by omega
  clear hb1 hb2
  go_enter Try.func4, Try.ntmps4
  go_wp2_with fail
  refine (l_f6big v _ _ w H0.out).mono ?_
  rintro e w1 ⟨rfl, rfl⟩
  rw [HL.out]
  go_wp2_with fail
  refine (l_f6big v2 _ _ w H1.out).mono ?_
  rintro e w1 ⟨rfl, rfl⟩
  rw [HL2.out]
  go_wp2_with fail
  refine (s_P6Grammar v l _ hl H0.out).mono ?_
  rintro e w1 ⟨vg, L, rfl, hok, hne, hL8, hog, hb1⟩
  have hl0 : L.length ≠ 0 := fun e => hne (List.eq_nil_of_length_eq_zero e)
  obtain ⟨g, cg, rfl, -, -⟩ := owns_some3 hog hl0
  have hL4 := (gOk_some hok).1
  have hsm : ∀ r ∈ L, r.1.size ≤ 1048576 := fun r hr => by have := ru_small hok r hr; omega
  have hX : Below w.heap.size w (w1.alloc (.cells #[.slice (some ⟨g, 0, none⟩) L.length cg] 26)) := hb1.alloc hb1.size _
  have HX := Lib.hid hX
  have HG1 := Lib.hid (inRu_box (o := .cells #[.slice (some ⟨g, 0, none⟩) L.length cg] 26) (inRu_of_own hog hne))
  have HC1 := Lib.hid (box_cell w1 (.slice (some ⟨g, 0, none⟩) L.length cg) 26)
  have HV2 := Lib.hid (inRow_below H1.out hX)
  have HOK := Lib.hid (And.intro hok (And.intro hne hL8))
  have HPP := Lib.hid (fun w hi hg => s_P6Pattern v2 (.slice (some ⟨g, 0, none⟩) L.length cg) l2 L w hl2 hi (by omega) hsm hok hne hg hL8)
  have HUW := Lib.hid (fun w hg => s_UnpackWord (.slice (some ⟨g, 0, none⟩) L.length cg) L w (by omega) hsm hg)
  have HCP := Lib.hid (fun p w hg hz => i_CountPattern (.slice (some ⟨g, 0, none⟩) L.length cg) L p w (by omega) hsm hg hz)
  have HPA := Lib.hid (fun p k w hg hz hk => i_PatternAt (.slice (some ⟨g, 0, none⟩) L.length cg) L p k w (by omega) hsm hg hz hk)
  have HNX := Lib.hid (fun p i w hg hz h0 hi0 hi1 => i_NextPattern (.slice (some ⟨g, 0, none⟩) L.length cg) L p i w (by omega) hsm hg hz h0 hi0 hi1)
  clear hog hb1 hX hok hne hL8 hsm H0 H1 HL HL2 hl0
  go_wp2_with fail
  refine (HPP.out _ HV2.out HG1.out).mono ?_
  rintro e w2 ⟨p, rfl, hp1, hp2, hp3, hb2⟩
  have hP : PatH p L := ⟨HOK.out.1, HOK.out.2.1, HOK.out.2.2, hp1, hp2, hp3⟩
  obtain ⟨e1, e2, e3, e4, e5, e6, e7, e8⟩ := pat_codes hP
  have HP := Lib.hid hP
  have HE2 := Lib.hid e2
  have HE3 := Lib.hid e3
  have hn8 := HOK.out.2.2
  have HSZ : Hid (p.size ≤ 20 ∧ ((uwW L).size : Int) = lastI (gLn L) ∧ lastI (gLn L) ≤ 8) := ⟨hp2, e6, hn8⟩
  have HC2 := Lib.hid (cell_later hb2 HC1.out)
  have HG2 := Lib.hid (inRu_below HG1.out hb2)
  have HX2 := Lib.hid (HX.out.trans (hb2.mono HX.out.size))
  rw [e1] at HUW
  have HPL := Lib.hid (pl_len hP)
  have HCPV := Lib.hid (pl_cp hP)
  have HOC := Lib.hid (fun w => s_OccurrencesOf p (uwW L) w (by unfold maxLen; omega) (by unfold maxLen; omega))
  rw [e4, e5] at HOC
  have c2 := HC2.out
  clear HC1 HG1 HX HV2 HPP hb2 hP e1 e2 e3 e4 e5 e6 e7 e8 hp1 hp2 hp3 hn8
  go_wp2_with fail
  refine (HUW.out _ HG2.out).mono ?_
  rintro e w3 ⟨rfl, hb3⟩
  have HC3 := Lib.hid (cell_later hb3 HC2.out)
  have HG3 := Lib.hid (inRu_below HG2.out hb3)
  have HX3 := Lib.hid (HX2.out.trans (hb3.mono HX2.out.size))
  clear HC2 HG2 HX2 HUW hb3 c2
  go_wp2_with fail
  refine (HOC.out _).mono ?_
  rintro e w4 ⟨vp, rfl, hop, hb4⟩
  obtain ⟨ap, cp, rfl, hap, -⟩ := owns_sl3 hop
  have HF4 : Hid (FpR w w1.heap.size (.slice (some ⟨g, 0, none⟩) L.length cg) L (.slice ap (plL p L).length cp) (plL p L) w4) :=
    ⟨HX3.out.trans (hb4.mono HX3.out.size), cell_later hb4 HC3.out, inRu_below HG3.out hb4, owns_weak hop HX3.out.size⟩
  clear HC3 HG3 HX3 HOC hb4 hop
  have c4 := HF4.out.2.1
  go_wp2_with fail
  refine (HCP.out p _ HF4.out.2.2.1 (by have := HSZ.out.1; omega)).mono ?_
  rintro e w5 ⟨rfl, hb5⟩
  rw [HE3.out, HCPV.out]
  have HF5 := Lib.hid (HF4.out.bel hb5)
  clear HF4 hb5 c4 HCPV HCP
  go_wp2_with fail
  refine (i_PatternAuto p _ (by have := HSZ.out.1; omega)).mono ?_
  rintro e w6 ⟨x1, x2, xs, rfl, ha6, hb6⟩
  rw [HE2.out]
  obtain ⟨y1, k1, rfl⟩ := inI_sl (auR_inI ha6)
  obtain ⟨y2, k2, rfl⟩ := inT_sl (auR_inT ha6)
  have ha7 := (Below.refl _ w6).alloc (Nat.le_refl _) (.cells #[.int .i64 (pcR p).st, .int .i64 (pcR p).sa, .slice y1 (pcR p).fi.length k1, .slice y2 (pcR p).nx.length k2] 43)
  have HF6 := Lib.hid ((HF5.out.bel hb6).bel ha7)
  have HI6 := Lib.hid (inI_below (auR_inI ha6) ha7)
  have HT6 := Lib.hid (inT_below (auR_inT ha6) ha7)
  have HD6 : Hid ((w6.alloc (.cells #[.int .i64 (pcR p).st, .int .i64 (pcR p).sa, .slice y1 (pcR p).fi.length k1, .slice y2 (pcR p).nx.length k2] 43)).cell? ⟨w6.heap.size, 0, none⟩ = some (.int .i64 (pcR p).st) ∧ (w6.alloc (.cells #[.int .i64 (pcR p).st, .int .i64 (pcR p).sa, .slice y1 (pcR p).fi.length k1, .slice y2 (pcR p).nx.length k2] 43)).cell? ⟨w6.heap.size, 1, none⟩ = some (.int .i64 (pcR p).sa) ∧ (w6.alloc (.cells #[.int .i64 (pcR p).st, .int .i64 (pcR p).sa, .slice y1 (pcR p).fi.length k1, .slice y2 (pcR p).nx.length k2] 43)).cell? ⟨w6.heap.size, 2, none⟩ = some (.slice y1 (pcR p).fi.length k1) ∧ (w6.alloc (.cells #[.int .i64 (pcR p).st, .int .i64 (pcR p).sa, .slice y1 (pcR p).fi.length k1, .slice y2 (pcR p).nx.length k2] 43)).cell? ⟨w6.heap.size, 3, none⟩ = some (.slice y2 (pcR p).nx.length k2)) := by
    refine ⟨?_, ?_, ?_, ?_⟩ <;> simp [go_sem]
  clear ha6 hb6 HF5
  go_upto_region 9 with fail
  clear ha7
  generalize w6.alloc (.cells #[.int .i64 (pcR p).st, .int .i64 (pcR p).sa, .slice y1 (pcR p).fi.length k1, .slice y2 (pcR p).nx.length k2] 43) = wA at *
  obtain ⟨bA, hbA⟩ : ∃ b, b = w6.heap.size := ⟨_, rfl⟩
  rw [← hbA] at HD6 ⊢
  clear hbA
  go_wp2_with fail
  refine (s_PatternAuto p _ (by have := HSZ.out.1; omega)).mono ?_
  rintro e wB ⟨x3, x4, xt, rfl, haB, hbB⟩
  rw [HE2.out]
  obtain ⟨y3, k3, rfl⟩ := inI_sl (auR_inI haB)
  obtain ⟨y4, k4, rfl⟩ := inT_sl (auR_inT haB)
  have haC := (Below.refl _ wB).alloc (Nat.le_refl _) (.cells #[.int .i64 (pcR p).st, .int .i64 (pcR p).sa, .slice y3 (pcR p).fi.length k3, .slice y4 (pcR p).nx.length k4] 43)
  have HFC := Lib.hid ((HF6.out.bel hbB).bel haC)
  have HI7 := Lib.hid (inI_below (auR_inI haB) haC)
  have HT7 := Lib.hid (inT_below (auR_inT haB) haC)
  have HI8 := Lib.hid (inI_below (inI_below HI6.out hbB) haC)
  have HT8 := Lib.hid (inT_below (inT_below HT6.out hbB) haC)
  have d0 := cell_later haC (cell_later hbB HD6.out.1)
  have d1 := cell_later haC (cell_later hbB HD6.out.2.1)
  have d2 := cell_later haC (cell_later hbB HD6.out.2.2.1)
  have d3 := cell_later haC (cell_later hbB HD6.out.2.2.2)
  have HDB : Hid ((wB.alloc (.cells #[.int .i64 (pcR p).st, .int .i64 (pcR p).sa, .slice y3 (pcR p).fi.length k3, .slice y4 (pcR p).nx.length k4] 43)).cell? ⟨wB.heap.size, 0, none⟩ = some (.int .i64 (pcR p).st) ∧ (wB.alloc (.cells #[.int .i64 (pcR p).st, .int .i64 (pcR p).sa, .slice y3 (pcR p).fi.length k3, .slice y4 (pcR p).nx.length k4] 43)).cell? ⟨wB.heap.size, 1, none⟩ = some (.int .i64 (pcR p).sa) ∧ (wB.alloc (.cells #[.int .i64 (pcR p).st, .int .i64 (pcR p).sa, .slice y3 (pcR p).fi.length k3, .slice y4 (pcR p).nx.length k4] 43)).cell? ⟨wB.heap.size, 2, none⟩ = some (.slice y3 (pcR p).fi.length k3) ∧ (wB.alloc (.cells #[.int .i64 (pcR p).st, .int .i64 (pcR p).sa, .slice y3 (pcR p).fi.length k3, .slice y4 (pcR p).nx.length k4] 43)).cell? ⟨wB.heap.size, 3, none⟩ = some (.slice y4 (pcR p).nx.length k4)) := by
    refine ⟨?_, ?_, ?_, ?_⟩ <;> simp [go_sem]
  clear haB hbB HF6 HI6 HT6 HD6
  go_upto_region 10 with fail
  clear haC
  generalize wB.alloc (.cells #[.int .i64 (pcR p).st, .int .i64 (pcR p).sa, .slice y3 (pcR p).fi.length k3, .slice y4 (pcR p).nx.length k4] 43) = wC at *
  obtain ⟨bB, hbB⟩ : ∃ b, b = wB.heap.size := ⟨_, rfl⟩
  rw [← hbB] at HDB ⊢
  clear hbB
  obtain ⟨e0, e1, e2, e3⟩ := HDB.out
  have HSA := Lib.hid (fun w h1 h2 h3 h4 => s_SameAuto (.slice y1 (pcR p).fi.length k1) (.slice y2 (pcR p).nx.length k2) (.slice y3 (pcR p).fi.length k3) (.slice y4 (pcR p).nx.length k4) (pcR p) (pcR p) w (pcR_sm p) (pcR_sm p) h1 h2 h3 h4)
  rw [auE_self] at HSA
  go_wp2_with fail
  refine (HSA.out _ HI8.out HT8.out HI7.out HT7.out).mono ?_
  rintro e wD ⟨rfl, hbD⟩
  have HFD := Lib.hid (HFC.out.bel hbD)
  clear hbD HFC HSA HI7 HT7 HI8 HT8 HDB d0 d1 d2 d3 e0 e1 e2 e3
  have HPATS : Hid (∀ k X, FpR w w1.heap.size (.slice (some ⟨g, 0, none⟩) L.length cg) L (.slice ap (plL p L).length cp) (plL p L) X → k ≤ (plL p L).length → Calls Try.prog 21 #[.agg #[.slice (some ⟨g, 0, none⟩) L.length cg], .string p, .int .i64 (k : Nat)] X fun e Y => (∃ x c : Int, e = .returned (.tuple #[.int .i64 x, .int .i64 c]) ∧ (k < (plL p L).length → c = 0 ∧ x = (plL p L).getD k 0) ∧ (k = (plL p L).length → c = 6)) ∧ FpR w w1.heap.size (.slice (some ⟨g, 0, none⟩) L.length cg) L (.slice ap (plL p L).length cp) (plL p L) Y) := by
    intro k X hX hk
    have hp9 := HPL.out
    refine (HPA.out p k X hX.2.2.1 (by have := HSZ.out.1; omega) (by
      have e1 : IntKind.i64.min = -9223372036854775808 := rfl
      have e2 : IntKind.i64.max = 9223372036854775807 := rfl
      simp only [Lit.wf, e1, e2, Bool.and_eq_true, decide_eq_true_eq]; omega)).mono ?_
    rintro e Y ⟨rfl, hb⟩
    refine ⟨⟨_, _, rfl, fun hlt => ⟨?_, ?_⟩, fun he => ?_⟩, hX.bel hb⟩
    · rw [patC, if_pos HE3.out, if_neg (by omega), en_all HP.out, if_neg (by omega)]
    · rw [patV, if_pos HE3.out, if_neg (by omega), en_all HP.out, if_neg (by omega), pl_at HP.out hlt]
    · rw [patC, if_pos HE3.out, if_neg (by omega), en_all HP.out, if_pos (by omega)]
  have HNXS : Hid (∀ (i : Int) X, FpR w w1.heap.size (.slice (some ⟨g, 0, none⟩) L.length cg) L (.slice ap (plL p L).length cp) (plL p L) X → 0 ≤ i → i ≤ lastI (gLn L) → Calls Try.prog 22 #[.agg #[.slice (some ⟨g, 0, none⟩) L.length cg], .string p, .int .i64 i] X fun e Y => (∃ x c : Int, e = .returned (.tuple #[.int .i64 x, .int .i64 c]) ∧ ((0 ≤ nxF (plL p L) i ∧ c = 0 ∧ x = nxF (plL p L) i) ∨ (nxF (plL p L) i = -1 ∧ c = 6))) ∧ FpR w w1.heap.size (.slice (some ⟨g, 0, none⟩) L.length cg) L (.slice ap (plL p L).length cp) (plL p L) Y) := by
    intro i X hX h0 h1
    have hnx := pl_nx HP.out h0 h1
    refine (HNX.out p i X hX.2.2.1 (by have := HSZ.out.1; omega) HE3.out h0 h1).mono ?_
    rintro e Y ⟨hor, hb⟩
    refine ⟨?_, hX.bel hb⟩
    rcases hor with ⟨hlt, rfl⟩ | ⟨hge, rfl⟩
    · exact ⟨_, _, rfl, .inl ⟨by rw [(hnx.1 hlt).1]; exact (hnx.1 hlt).2, rfl, (hnx.1 hlt).1.symm⟩⟩
    · exact ⟨_, _, rfl, .inr ⟨hnx.2 (by simpa using hge), rfl⟩⟩
  clear HPA HNX HP HE2 HE3 HOK
  obtain ⟨N, hN⟩ : ∃ N : Nat, lastI (gLn L) = N := ⟨(uwW L).size, HSZ.out.2.1.symm⟩
  rw [hN] at HNXS
  have HN8 : Hid (N ≤ 8 ∧ (uwW L).size = N) := by have := HSZ.out; refine ⟨?_, ?_⟩ <;> omega
  have hsz : ((uwW L).size : Int) = (N : Int) := by have := HN8.out.2; omega
  clear hN HSZ
  have HLEN : Hid (∃ n, n = (plL p L).length) := ⟨_, rfl⟩
  obtain ⟨n, hn⟩ := HLEN.out
  generalize plL p L = pl at *
  rw [← hn] at HFD HPATS HNXS HPL ⊢
  have HNN := Lib.hid hn
  clear hn HLEN
  have HCELL : Hid (∀ X k, FpR w w1.heap.size (.slice (some ⟨g, 0, none⟩) L.length cg) L (.slice ap n cp) pl X → k < n → ∃ gp, ap = some ⟨gp, 0, none⟩ ∧ X.cell? ⟨gp, k, none⟩ = some (.int .i64 (pl.getD k 0))) := by
    intro X k hX hk
    obtain ⟨g', cap', hv, hc⟩ := own_get2 hX.2.2.2 rfl (show k < pl.length by rw [← HNN.out]; exact hk)
    injection hv with h1 h2 h3
    exact ⟨g', h1, hc⟩
  have hn9 : n ≤ 9 := HPL.out
  go_wp2
  go_loopw [17] (fun i wr => ∃ k : Nat, i = .int .i64 k ∧ k ≤ n + 1 ∧ FpR w w1.heap.size (.slice (some ⟨g, 0, none⟩) L.length cg) L (.slice ap n cp) pl wr) (fun i _ => n + 1 - (intOf i).toNat)
  case atStart => exact ⟨0, rfl, by omega, HFD.out⟩
  case round =>
    obtain ⟨k, rfl, hk, hst⟩ := hrel
    have HST := Lib.hid hst
    have cb := hst.2.1
    clear hst HFD
    by_cases hlt : k < n + 1
    · have hki : (k : Int) ≤ (n : Int) := by omega
      go_wp2_with fail
      refine (HPATS.out k _ HST.out (by omega)).mono ?_
      rintro e wE ⟨⟨x, c, rfl, hx1, hx2⟩, hst2⟩
      have HST2 := Lib.hid hst2
      clear hst2 HST cb
      by_cases hkn : k < n
      · obtain ⟨rfl, rfl⟩ := hx1 hkn
        obtain ⟨gp, hap, hcl⟩ := HCELL.out _ k HST2.out hkn
        clear hx1 hx2
        subst hap
        have hkI : (k : Int) < (n : Int) := by omega
        have hke : ((k : Int) == (n : Int)) = false := by rw [beq_eq_false_iff_ne]; omega
        generalize pl.getD k 0 = y at hcl ⊢
        go_wp2
        go_roundw
        case rel => exact ⟨k + 1, by go_num, by omega, HST2.out⟩
        case measure => first | (simp [intOf]; done) | (simp [intOf]; omega)
      · obtain rfl : k = n := by omega
        obtain rfl := hx2 rfl
        clear hx1 hx2 hkn
        go_wp2
        go_roundw
        case rel => exact ⟨k + 1, by go_num, by omega, HST2.out⟩
        case measure => first | (simp [intOf]; done) | (simp [intOf]; omega)
    · have hki : ¬ (k : Int) ≤ (n : Int) := by omega
      clear hlt hk HPATS
      go_wp2
      clear hki cb
      go_loopw [20] (fun i wr => ∃ k : Nat, i = .int .i64 k ∧ k ≤ N + 1 ∧ FpR w w1.heap.size (.slice (some ⟨g, 0, none⟩) L.length cg) L (.slice ap n cp) pl wr) (fun i _ => N + 1 - (intOf i).toNat)
      case atStart => exact ⟨0, rfl, by omega, HST.out⟩
      case round =>
        clear HST
        obtain ⟨i, rfl, hi, hst⟩ := hrel
        have HST := Lib.hid hst
        have HNI := HNXS.out i
        have HNIX := Lib.hid HNI
        clear hst HNI HNXS
        by_cases hlt : i < N + 1
        · have hiN : (i : Int) ≤ (N : Int) := by omega
          have hN8 := HN8.out.1
          have hn1 : IntKind.i64.wrap ((n : Int) - 1) = (n : Int) - 1 := IntWalk.i64_in _ (by omega)
          go_wp2
          go_loopw [21, 22] (fun s21 s22 wr2 => ∃ (j : Nat) (jx : Int), j ≤ n ∧ s22 = .int .i64 jx ∧ jx = (j : Int) - 1 ∧ s21 = .int .i64 (nxF (pl.drop j) i) ∧ wr2 = wr) (fun _ s22 _ => (intOf s22 + 1).toNat)
          case atStart => exact ⟨n, _, Nat.le_refl _, rfl, by omega, by rw [HNN.out, List.drop_length]; rfl, rfl⟩
          case round =>
            obtain ⟨j, jx, hj, rfl, hjx, rfl, rfl⟩ := hrel
            by_cases hj0 : 0 < j
            · obtain ⟨q, rfl⟩ : ∃ q, j = q + 1 := ⟨j - 1, by omega⟩
              obtain rfl : jx = (q : Int) := by omega
              obtain ⟨gp, hap, hcl⟩ := HCELL.out _ q HST.out (by omega)
              subst hap
              have hd := nxF_drop pl i (show q < pl.length by rw [← HNN.out]; omega)
              have HD := Lib.hid hd
              have hqn : (q : Int) < (n : Int) := by omega
              have hw1 : IntKind.i64.wrap ((q : Int) - 1) = (q : Int) - 1 := IntWalk.i64_in _ (by omega)
              clear hd hjx
              by_cases hge : (i : Int) ≤ pl.getD q 0
              · have HDD : Hid (nxF (pl.drop q) i = pl.getD q 0) := by show _ = _; rw [HD.out, if_pos hge]
                clear HD
                generalize pl.getD q 0 = y at *
                go_wp2
                go_roundw
                case rel => exact ⟨q, _, by omega, rfl, by omega, by rw [HDD.out], trivial⟩
                case measure => first | (simp [intOf]; done) | (simp [intOf]; omega)
              · have HDD : Hid (nxF (pl.drop q) i = nxF (pl.drop (q + 1)) i) := by show _ = _; rw [HD.out, if_neg hge]
                clear HD
                generalize pl.getD q 0 = y at *
                generalize nxF (pl.drop (q + 1)) i = z at *
                go_wp2
                go_roundw
                case rel => exact ⟨q, _, by omega, rfl, by omega, by rw [HDD.out], trivial⟩
                case measure => first | (simp [intOf]; done) | (simp [intOf]; omega)
            · obtain rfl : j = 0 := by omega
              obtain rfl : jx = -1 := by omega
              have cb := HST.out.2.1
              rw [List.drop_zero]
              clear hj0 hj hjx
              go_wp2_with fail
              refine (HNIX.out _ HST.out (by omega) (by omega)).mono ?_
              rintro e wF ⟨⟨x, c, rfl, hor⟩, hst2⟩
              have HST2 := Lib.hid hst2
              clear hst2 HST cb HNIX
              generalize nxF pl i = z at *
              rcases hor with ⟨hz, rfl, hxz⟩ | ⟨rfl, rfl⟩
              · have hz1 : decide (z < 0) = false := decide_eq_false (by omega)
                have hz2 : decide (z ≥ 0) = true := decide_eq_true (by omega)
                have hz3 : ¬ z < 0 := by omega
                rw [hxz]
                clear hxz
                go_wp2
                go_roundw
                case rel => exact ⟨i + 1, by go_num, by omega, HST2.out⟩
                case measure => first | (simp [intOf]; done) | (simp [intOf]; omega)
              · go_wp2
                go_roundw
                case rel => exact ⟨i + 1, by go_num, by omega, HST2.out⟩
                case measure => first | (simp [intOf]; done) | (simp [intOf]; omega)
        · have hiN : ¬ (i : Int) ≤ (N : Int) := by omega
          go_wp2
          go_ret
          exact ⟨rfl, HST.out.1⟩
end Go.Proofs.Ytimfbnjgodbgoaa

/- Marks of tables and of automata. -/
import Derived.Test.YtefcdkgfabaffaaKC
namespace Go.Proofs.Ytefcdkgfabaffaa
open Go.ChangeShapes Go.WideShapes Go.RowKit
set_option linter.unusedVariables false
set_option linter.unusedSimpArgs false
set_option maxHeartbeats 2000000
set_option maxRecDepth 100000
/-- only blocks of a kind, and new ones, may have changed -/
structure Gp (P : Nat → Prop) (w w' : World) : Prop where
  os : w'.os = w.os
  tape : w'.tape = w.tape
  output : w'.output = w.output
  size : w.heap.size ≤ w'.heap.size
  block : ∀ k, k < w.heap.size → ¬ P k → w'.heap[k]? = w.heap[k]?
theorem Gp.refl (P : Nat → Prop) (w : World) : Gp P w w := ⟨rfl, rfl, rfl, Nat.le_refl _, fun _ _ _ => rfl⟩
theorem Gp.trans {P : Nat → Prop} {a b c : World} (h : Gp P a b) (k : Gp P b c) : Gp P a c :=
  ⟨k.os.trans h.os, k.tape.trans h.tape, k.output.trans h.output, Nat.le_trans h.size k.size, fun i hi hm => (k.block i (by have := h.size; omega) hm).trans (h.block i hi hm)⟩
theorem Gp.of {P : Nat → Prop} {w w' : World} {r : Option Nat} (g : w.grownBy w' r) (h : ∀ b, r = some b → P b) : Gp P w w' :=
  ⟨g.os, g.tape, g.output, g.size, fun k hk hm => g.block k hk (fun e => hm (h k e.symm))⟩
theorem Gp.mono {P Q : Nat → Prop} {w w' : World} (g : Gp P w w') (h : ∀ b, P b → Q b) : Gp Q w w' :=
  ⟨g.os, g.tape, g.output, g.size, fun k hk hm => g.block k hk (fun e => hm (h k e))⟩
theorem Gp.ofBelow {P : Nat → Prop} {w w' : World} (g : Below w.heap.size w w') : Gp P w w' :=
  ⟨g.os, g.tape, g.output, g.size, fun k hk _ => g.block k hk⟩
theorem below_gp {B : Nat} {P : Nat → Prop} {w0 w w' : World} (h : Below B w0 w) (g : Gp P w w') (hB : B ≤ w.heap.size) (hm : ∀ b, P b → B ≤ b) : Below B w0 w' :=
  h.trans ⟨g.os, g.tape, g.output, g.size, fun k hk => g.block k (by omega) (fun e => by have := hm k e; omega)⟩
theorem owns_gp {P : Nat → Prop} {w w' : World} {base e size n : Nat} {v : Value} {xs : List Value} (h : w.ownsRow base e size v n xs) (g : Gp P w w') (hne : ∀ b, v.ownBlock = some b → ¬ P b) : w'.ownsRow base e size v n xs := by
  refine ⟨h.1, ?_⟩
  rcases h.2 with hn | ⟨b, cap, cur, rfl, hb, hgg, rest⟩
  · exact .inl hn
  · refine .inr ⟨b, cap, cur, rfl, hb, ?_, rest⟩
    rw [g.block b (Array.getElem?_eq_some_iff.1 hgg).1 (hne b rfl)]
    exact hgg
/-- a table of the call's own, its rows' values told -/
def RowsT (base : Nat) (w : World) (v : Value) (vs : List Value) (t : Tb) : Prop := vs.length = t.length ∧ w.ownsRow base 22 1 v t.length vs ∧ (∀ k, k < t.length → w.ownsRow base 2 1 (vs.getD k undef) (tA t k).length (iv (tA t k))) ∧ (∀ i j, i < j → j < t.length → ∀ b, (vs.getD i undef).ownBlock = some b → (vs.getD j undef).ownBlock ≠ some b) ∧ (∀ i b, i < t.length → (vs.getD i undef).ownBlock = some b → v.ownBlock ≠ some b)
theorem ownT_rows {base : Nat} {w : World} {v : Value} {t : Tb} (h : OwnT base w v t) : ∃ vs, RowsT base w v vs t := h
theorem rows_ownT {base : Nat} {w : World} {v : Value} {vs : List Value} {t : Tb} (h : RowsT base w v vs t) : OwnT base w v t := ⟨vs, h⟩
theorem rowsT_after {base : Nat} {w w' : World} {v : Value} {vs : List Value} {t : Tb} (h : RowsT base w v vs t) (hb : Below w.heap.size w w') : RowsT base w' v vs t := by
  obtain ⟨hl, h, hr, h2⟩ := h
  exact ⟨hl, owns_after h hb, fun k hk => owns_after (hr k hk) hb, h2⟩
theorem rowsT_gp {P : Nat → Prop} {base : Nat} {w w' : World} {v : Value} {vs : List Value} {t : Tb} (h : RowsT base w v vs t) (g : Gp P w w') (hP : ∀ b, base ≤ b → ¬ P b) : RowsT base w' v vs t := by
  obtain ⟨hl, h, hr, h2⟩ := h
  exact ⟨hl, owns_gp h g (fun b hb => hP b (h.lt b hb).1), fun k hk => owns_gp (hr k hk) g (fun b hb => hP b ((hr k hk).lt b hb).1), h2⟩
theorem rowsT_gpx {P : Nat → Prop} {base : Nat} {w w' : World} {v : Value} {vs : List Value} {t : Tb} (h : RowsT base w v vs t) (g : Gp P w w') (hv : ∀ b, v.ownBlock = some b → ¬ P b) (hr : ∀ i, i < t.length → ∀ b, (vs.getD i undef).ownBlock = some b → ¬ P b) : RowsT base w' v vs t := by
  obtain ⟨hl, h, hrw, h2⟩ := h
  exact ⟨hl, owns_gp h g hv, fun k hk => owns_gp (hrw k hk) g (hr k hk), h2⟩
def mkU (k : Nat) (t : Tb) (j : Nat) : Tb := (List.range t.length).map fun p => if p < j then mks (k + ts t p) (tA t p).length else tA t p
def mkT (k : Nat) (t : Tb) : Tb := mkU k t t.length
theorem mkU_len (k : Nat) (t : Tb) (j : Nat) : (mkU k t j).length = t.length := by simp [mkU]
theorem mkU_at (k : Nat) (t : Tb) (j : Nat) {p : Nat} (h : p < t.length) : tA (mkU k t j) p = if p < j then mks (k + ts t p) (tA t p).length else tA t p := by
  simp [tA, mkU, List.getD, h]
theorem mkU_rlen (k : Nat) (t : Tb) (j : Nat) {p : Nat} (h : p < t.length) : (tA (mkU k t j) p).length = (tA t p).length := by
  rw [mkU_at k t j h]; split
  · exact mks_len _ _
  · rfl
theorem mkU_zero (k : Nat) (t : Tb) : mkU k t 0 = t := by
  apply List.ext_getElem (mkU_len k t 0)
  intro i h1 h2
  have := mkU_at k t 0 h2
  rw [if_neg (by omega), tA, tA, List.getD, List.getD, List.getElem?_eq_getElem h1, List.getElem?_eq_getElem h2] at this
  simpa using this
theorem ts_le {t : Tb} (hr : ∀ r ∈ t, r.length ≤ 1048576) : ∀ p, p ≤ t.length → ts t p ≤ p * 1048576
  | 0, _ => by simp [ts]
  | p + 1, h => by
    have := ts_le hr p (by omega)
    have := hr _ (tA_mem (show p < t.length by omega))
    rw [ts]; omega
theorem rowsT_set {base j : Nat} {w w' : World} {v : Value} {vs : List Value} {t t' : Tb} (h : RowsT base w v vs t) (hj : j < t.length) (hl : t'.length = t.length) (hne : ∀ p, p < t.length → p ≠ j → tA t' p = tA t p)
    (ho : w'.ownsRow base 2 1 (vs.getD j undef) (tA t' j).length (iv (tA t' j))) (g : w.grownBy w' (vs.getD j undef).ownBlock) : RowsT base w' v vs t' := by
  obtain ⟨h0, h1, h2, h3, h4⟩ := h
  refine ⟨by rw [hl]; exact h0, ?_, fun p hp => ?_, fun i j' hij hj' => h3 i j' hij (by omega), fun i b hi => h4 i b (by omega)⟩
  · rw [hl]
    refine World.ownsRow.kept h1 g ?_
    cases hq : v.ownBlock with
    | none => exact .inl rfl
    | some b =>
      right
      intro e
      exact h4 j b hj e.symm hq
  · rw [hl] at hp
    by_cases he : p = j
    · subst he; exact ho
    · rw [hne p hp he]
      refine World.ownsRow.kept (h2 p hp) g ?_
      cases hq : (vs.getD p undef).ownBlock with
      | none => exact .inl rfl
      | some b =>
        right
        intro e
        rcases Nat.lt_or_ge p j with hlt | hge
        · exact h3 p j hlt hj b hq e.symm
        · exact h3 j p (by omega) hp b e.symm hq
theorem rowsT_cell {base : Nat} {w : World} {g c : Nat} {n : Nat} {vs : List Value} {t : Tb} (h : RowsT base w (.slice (some ⟨g, 0, none⟩) n c) vs t) {k : Nat} (hk : k < t.length) : w.cell? ⟨g, k, none⟩ = some (vs.getD k undef) := by
  obtain ⟨h0, h1, _⟩ := h
  have hn : n = t.length := by
    rcases h1.2 with ⟨e, e2⟩ | ⟨_, _, _, e, _⟩
    · cases e
    · injection e
  subst hn
  rw [h1.cellAt k (by omega), List.getD, List.getElem?_eq_getElem (by omega)]; rfl
theorem l_markInt64W (v : Value) (n k : Nat) (ys : List Value) (base : Nat) (w : World) (hk : k + n ≤ 4398046511104) (hown : w.ownsRow base 2 1 v n ys) :
    Calls Try.prog 61 #[v, .int .i64 k] w fun e w' => e = .returned (.int .i64 ((k + n : Nat) : Int)) ∧ w'.ownsRow base 2 1 v n ((mks k n).map (Value.int .i64)) ∧ w.grownBy w' v.ownBlock := by
  rcases owns_cases hown with ⟨rfl, rfl, rfl⟩ | ⟨g, cap, rfl, -, hg, hc, hm, hyl⟩
  · go_enter Try.func61, Try.ntmps61
    go_wp2
    refine wp_loop_rounds 1 ?_
    rw [rounds_succ]
    go_wp2
    go_ret
    exact ⟨rfl, hown, World.grownBy.refl _ _⟩
  · show Calls _ _ _ _ fun e w' => e = .returned (.int .i64 ((k + n : Nat) : Int)) ∧ w'.ownsRow base 2 1 (.slice (some ⟨g, 0, none⟩) n cap) n ((mks k n).map (Value.int .i64)) ∧ w.grownBy w' (some g)
    clear hyl
    unfold maxLen at hm
    go_enter Try.func61, Try.ntmps61
    go_wp2
    go_loopw [1, 5] (fun m i wr => w.grownBy wr (some g) ∧ ∃ j : Nat, j ≤ n ∧ i = .int .i64 j ∧ m = .int .i64 ((k + j : Nat) : Int) ∧ ∃ zs, wr.ownsRow base 2 1 (.slice (some ⟨g, 0, none⟩) n cap) n zs ∧ ∀ t, t < j → zs[t]? = some (.int .i64 ((k + t : Nat) : Int))) (fun _ i _ => n - (intOf i).toNat)
    case atStart => exact ⟨World.grownBy.refl _ _, 0, by omega, rfl, rfl, ys, hown, fun t ht => by omega⟩
    case round =>
      obtain ⟨hgr, j, hj, rfl, rfl, zs, hzs, hall⟩ := hrel
      have HA := Lib.hid hall
      clear hall hown
      have hzl : zs.length = n := by have := hzs.1; omega
      by_cases hlt : j < n
      · obtain ⟨z, hz⟩ : ∃ z, zs[j]? = some z := ⟨_, List.getElem?_eq_getElem (by omega)⟩
        have hcell : wr.cell? ⟨g, j, none⟩ = some z := by rw [hzs.cellAt j (by omega)]; exact hz
        have hfro : wr.frozen? ⟨g, j, none⟩ = false := hzs.frozenAt j
        have HST := Lib.hid (hzs.stored j (.int .i64 ((k + j : Nat) : Int)))
        have HZ := Lib.hid hzl
        have HG := Lib.hid hgr
        have hin : ((j : Nat) : Int) < n := by omega
        clear hzl hgr hzs hz
        go_wp2
        go_roundw
        case rel =>
          refine ⟨grown_set HG.out _ _, j + 1, by omega, by go_num, by go_num, _, HST.out.1, fun t ht => ?_⟩
          have := HZ.out
          by_cases he : t = j
          · subst he; rw [List.getElem?_set_self (by omega)]
          · rw [List.getElem?_set_ne (by omega)]; exact HA.out t (by omega)
        case measure => simp [intOf]; omega
      · have ej : j = n := by omega
        subst ej
        have hfin := mks_of hzl HA.out
        have HF := Lib.hid hfin
        clear hfin
        go_wp2
        go_ret
        exact ⟨rfl, by rw [← HF.out]; exact hzs, hgr⟩
theorem l_heldInt64W (v : Value) (n k : Nat) (base : Nat) (w : World) (hk : k + n ≤ 4398046511104) (hown : w.ownsRow base 2 1 v n ((mks k n).map (Value.int .i64))) :
    Calls Try.prog 62 #[v, .int .i64 k] w fun e w' => e = .returned (.int .i64 ((k + n : Nat) : Int)) ∧ w = w' := by
  rcases owns_cases hown with ⟨rfl, rfl, hnil⟩ | ⟨g, cap, rfl, -, hg, hc, hm, hyl⟩
  · clear hnil
    go_enter Try.func62, Try.ntmps62
    go_wp2
    refine wp_loop_rounds 1 ?_
    rw [rounds_succ]
    go_wp2
    go_ret
    exact ⟨rfl, rfl⟩
  · clear hyl
    unfold maxLen at hm
    have hcell : ∀ j, j < n → w.cell? ⟨g, j, none⟩ = some (.int .i64 ((k + j : Nat) : Int)) := fun j hj => by
      rw [hown.cellAt j (by omega)]; simp [mks, hj]
    have HC := Lib.hid hcell
    clear hcell hown
    go_enter Try.func62, Try.ntmps62
    go_wp2
    go_loop [1, 5] (fun m i => ∃ j : Nat, j ≤ n ∧ i = .int .i64 j ∧ m = .int .i64 ((k + j : Nat) : Int)) (fun _ i => n - (intOf i).toNat)
    case atStart => exact ⟨0, by omega, rfl, rfl⟩
    case round =>
      obtain ⟨j, hj, rfl, rfl⟩ := hrel
      by_cases hlt : j < n
      · have hc1 := HC.out j hlt
        have hin : ((j : Nat) : Int) < n := by omega
        go_wp2
        go_round
        case rel => exact ⟨j + 1, by omega, by go_num, by go_num⟩
        case measure => simp [intOf]; omega
      · have ej : j = n := by omega
        subst ej
        go_wp2
        go_ret
        exact ⟨rfl, rfl⟩
theorem l_markSS (v : Value) (t : Tb) (vs : List Value) (k base : Nat) (w : World) (hk : k ≤ 8388608) (hx : t.length ≤ 1048576) (hr : ∀ r ∈ t, r.length ≤ 1048576) (h : RowsT base w v vs t) :
    Calls Try.prog 46 #[v, .int .i64 k] w fun e w' => e = .returned (.int .i64 ((k + ts t t.length : Nat) : Int)) ∧ RowsT base w' v vs (mkT k t) ∧ Gp (fun b => ∃ i, i < t.length ∧ (vs.getD i undef).ownBlock = some b) w w' := by
  obtain ⟨a, cap, rfl, hav, -⟩ := owns_sl3 h.2.1
  have H := Lib.hid h
  have HTS := Lib.hid (ts_le hr)
  have HRR := Lib.hid hr
  clear h hr
  go_enter Try.func46, Try.ntmps46
  go_wp2
  go_loopw [1, 5] (fun m i wr => Gp (fun b => ∃ i, i < t.length ∧ (vs.getD i undef).ownBlock = some b) w wr ∧ ∃ j : Nat, j ≤ t.length ∧ i = .int .i64 j ∧ m = .int .i64 ((k + ts t j : Nat) : Int) ∧ RowsT base wr (.slice a t.length cap) vs (mkU k t j)) (fun _ i _ => t.length - (intOf i).toNat)
  case atStart => exact ⟨Gp.refl _ _, 0, by omega, rfl, by simp [ts], by rw [mkU_zero]; exact H.out⟩
  case round =>
    obtain ⟨hg, j, hj, rfl, rfl, hrows⟩ := hrel
    by_cases hlt : j < t.length
    · obtain ⟨g, rfl⟩ := hav (by omega)
      have hin : ((j : Nat) : Int) < t.length := by omega
      have hlj : j < (mkU k t j).length := by rw [mkU_len]; exact hlt
      have hro := hrows.2.2.1 j hlj
      have hc := rowsT_cell hrows hlj
      have hrl := mkU_rlen k t j hlt
      have hb1 := HTS.out j (by omega)
      have hb2 := HRR.out _ (tA_mem hlt)
      have HM := Lib.hid (l_markInt64W (vs.getD j undef) _ (k + ts t j) _ base wr (by have : j * 1048576 ≤ 1048576 * 1048576 := Nat.mul_le_mul (by omega) (Nat.le_refl _); omega) hro)
      rw [hrl] at HM
      obtain ⟨r, c, hv, -, -⟩ := owns_sl3 hro
      rw [hv] at hc
      rw [hrl] at hc
      have hv2 : vs.getD j undef = .slice r (tA t j).length c := by rw [hv, hrl]
      have HV := Lib.hid hv2
      have HG := Lib.hid hg
      have HR := Lib.hid hrows
      rw [hv2] at HM
      have hn1 : (tA (mkU k t (j + 1)) j) = mks (k + ts t j) (tA t j).length := by rw [mkU_at k t (j + 1) hlt, if_pos (by omega)]
      have HN1 := Lib.hid hn1
      clear hrows hro hg hv hv2 hrl hb1 hb2 hn1
      have HTE : Hid (k + ts t j + (tA t j).length = k + ts t (j + 1)) := by show _ = _; rw [ts]; omega
      rw [HTE.out] at HM
      generalize (tA t j).length = n at *
      generalize k + ts t j = kj at *
      obtain ⟨kj', hkj⟩ : ∃ x, x = k + ts t (j + 1) := ⟨_, rfl⟩
      rw [← hkj] at HM
      go_wp2_with fail
      refine (HM.out).mono ?_
      rintro e w2 ⟨rfl, ho2, hg2⟩
      have hc2 : Hid (RowsT base w2 (.slice (some ⟨g, 0, none⟩) t.length cap) vs (mkU k t (j + 1))) := by
        show RowsT _ _ _ _ _
        refine rowsT_set HR.out (by rw [mkU_len]; exact hlt) (by rw [mkU_len, mkU_len]) (fun p hp hne => ?_) ?_ (by rw [HV.out]; exact hg2)
        · rw [mkU_len] at hp
          rw [mkU_at k t (j + 1) hp, mkU_at k t j hp]
          by_cases h1 : p < j
          · rw [if_pos (by omega), if_pos h1]
          · rw [if_neg (by omega), if_neg h1]
        · rw [HN1.out, HV.out, mks_len]; exact ho2
      have hg3 : Hid (Gp (fun b => ∃ i, i < t.length ∧ (vs.getD i undef).ownBlock = some b) w w2) := by
        refine HG.out.trans (Gp.of hg2 (fun b hb => ?_))
        exact ⟨j, hlt, by rw [HV.out]; exact hb⟩
      clear hg2 ho2 hc
      go_wp2
      go_roundw
      case rel => exact ⟨hg3.out, j + 1, by omega, by go_num, by first | rw [hkj] | simp, hc2.out⟩
      case measure => first | (simp [intOf]; done) | (simp [intOf]; omega)
    · have ej : j = t.length := by omega
      subst ej
      have hk' : ¬ (t.length : Int) < t.length := by omega
      have HR := Lib.hid hrows
      clear hrows
      go_wp2
      go_ret
      exact ⟨rfl, HR.out, hg⟩
theorem l_heldSS (v : Value) (t : Tb) (vs : List Value) (k base : Nat) (w : World) (hk : k ≤ 8388608) (hx : t.length ≤ 1048576) (hr : ∀ r ∈ t, r.length ≤ 1048576) (h : RowsT base w v vs (mkT k t)) :
    Calls Try.prog 47 #[v, .int .i64 k] w fun e w' => e = .returned (.int .i64 ((k + ts t t.length : Nat) : Int)) ∧ w = w' := by
  have hml : (mkT k t).length = t.length := mkU_len _ _ _
  obtain ⟨a, cap, rfl, hav, -⟩ := owns_sl3 h.2.1
  rw [hml] at hav
  have H := Lib.hid h
  have HTS := Lib.hid (ts_le hr)
  have HRR := Lib.hid hr
  rw [hml]
  have HML := Lib.hid hml
  clear h hr hml
  go_enter Try.func47, Try.ntmps47
  go_wp2
  go_loop [1, 5] (fun m i => ∃ j : Nat, j ≤ t.length ∧ i = .int .i64 j ∧ m = .int .i64 ((k + ts t j : Nat) : Int)) (fun _ i => t.length - (intOf i).toNat)
  case atStart => exact ⟨0, by omega, rfl, by simp [ts]⟩
  case round =>
    obtain ⟨j, hj, rfl, rfl⟩ := hrel
    by_cases hlt : j < t.length
    · obtain ⟨g, rfl⟩ := hav (by omega)
      have hin : ((j : Nat) : Int) < t.length := by omega
      have hlj : j < (mkT k t).length := by rw [HML.out]; exact hlt
      have hro := H.out.2.2.1 j hlj
      have hc := rowsT_cell H.out hlj
      have hat : tA (mkT k t) j = mks (k + ts t j) (tA t j).length := by rw [mkT, mkU_at k t t.length hlt, if_pos hlt]
      rw [hat, mks_len] at hro
      have hb1 := HTS.out j (by omega)
      have hb2 := HRR.out _ (tA_mem hlt)
      have HM := Lib.hid (l_heldInt64W (vs.getD j undef) _ (k + ts t j) base w (by have : j * 1048576 ≤ 1048576 * 1048576 := Nat.mul_le_mul (by omega) (Nat.le_refl _); omega) hro)
      obtain ⟨r, c, hv, -, -⟩ := owns_sl3 hro
      rw [hv] at hc HM
      have hbb : k + ts t (j + 1) ≤ 2199023255552 := by have : j * 1048576 ≤ 1048576 * 1048576 := Nat.mul_le_mul (by omega) (Nat.le_refl _); rw [ts]; omega
      clear hro hv hb1 hb2 hat hlj
      have HTE : Hid (k + ts t j + (tA t j).length = k + ts t (j + 1)) := by show _ = _; rw [ts]; omega
      rw [HTE.out] at HM
      generalize (tA t j).length = n at *
      generalize k + ts t j = kj at *
      obtain ⟨kj', hkj⟩ : ∃ x, x = k + ts t (j + 1) := ⟨_, rfl⟩
      rw [← hkj] at HM
      have hn0 : decide ((kj' : Int) < 0) = false := by rw [decide_eq_false_iff_not]; omega
      go_wp2_with fail
      refine (HM.out).mono ?_
      rintro e w2 ⟨rfl, rfl⟩
      clear hc
      go_wp2
      go_round
      case rel => exact ⟨j + 1, by omega, by go_num, by first | rw [hkj] | simp⟩
      case measure => first | (simp [intOf]; done) | (simp [intOf]; omega)
    · have ej : j = t.length := by omega
      subst ej
      have hk' : ¬ (t.length : Int) < t.length := by omega
      go_wp2
      go_ret
      exact ⟨rfl, rfl⟩
/-- an automaton of the call's own -/
def AuR (base : Nat) (w : World) (u1 u2 : Value) (vs : List Value) (a : Au) : Prop := w.ownsRow base 2 1 u1 a.fi.length (iv a.fi) ∧ RowsT base w u2 vs a.nx ∧ ∀ b, u1.ownBlock = some b → u2.ownBlock ≠ some b ∧ ∀ i, i < a.nx.length → (vs.getD i undef).ownBlock ≠ some b
theorem auR_after {base : Nat} {w w' : World} {u1 u2 : Value} {vs : List Value} {a : Au} (h : AuR base w u1 u2 vs a) (hb : Below w.heap.size w w') : AuR base w' u1 u2 vs a := ⟨owns_after h.1 hb, rowsT_after h.2.1 hb, h.2.2⟩
theorem auR_gp {P : Nat → Prop} {base : Nat} {w w' : World} {u1 u2 : Value} {vs : List Value} {a : Au} (h : AuR base w u1 u2 vs a) (g : Gp P w w') (hP : ∀ b, base ≤ b → ¬ P b) : AuR base w' u1 u2 vs a := ⟨owns_gp h.1 g (fun b hb => hP b (h.1.lt b hb).1), rowsT_gp h.2.1 g hP, h.2.2⟩
theorem auR_inI {base : Nat} {w : World} {u1 u2 : Value} {vs : List Value} {a : Au} (h : AuR base w u1 u2 vs a) : InI w u1 a.fi := inI_own h.1
theorem auR_inT {base : Nat} {w : World} {u1 u2 : Value} {vs : List Value} {a : Au} (h : AuR base w u1 u2 vs a) : InT w u2 a.nx := ownT_in (rows_ownT h.2.1)
/-- the blocks of an automaton lie below a bound -/
def AuHi (hi : Nat) (u1 : Value) (vs : List Value) (a : Au) : Prop := (∀ b, u1.ownBlock = some b → b < hi) ∧ ∀ i b, i < a.nx.length → (vs.getD i undef).ownBlock = some b → b < hi
theorem auR_hi {base : Nat} {w : World} {u1 u2 : Value} {vs : List Value} {a : Au} (h : AuR base w u1 u2 vs a) : AuHi w.heap.size u1 vs a := ⟨fun b hb => (h.1.lt b hb).2, fun i b hi hb => ((h.2.1.2.2.1 i hi).lt b hb).2⟩
def auMk (k : Nat) (a : Au) : Au := ⟨a.st, a.sa, mks k a.fi.length, mkT (k + a.fi.length) a.nx⟩
theorem l_markAutoK (st sa : Int) (u1 u2 : Value) (vs : List Value) (a : Au) (k base hi : Nat) (w : World) (hk : k ≤ 4194304) (ha : auSm a) (h : AuR base w u1 u2 vs a) (hhi : AuHi hi u1 vs a) :
    Calls Try.prog 26 #[.agg #[.int .i64 st, .int .i64 sa, u1, u2], .int .i64 k] w fun e w' => e = .returned (.int .i64 ((k + auTs a : Nat) : Int)) ∧ AuR base w' u1 u2 vs (auMk k a) ∧ Gp (fun b => base ≤ b ∧ b < hi) w w' := by
  obtain ⟨h1, h2, h3⟩ := h
  obtain ⟨s1, s2, s3⟩ := ha
  have hbx := (Below.refl w.heap.size w).alloc (Nat.le_refl _) (.cells #[.int .i64 st, .int .i64 sa, u1, u2] 28)
  have HM := Lib.hid (l_markInt64S u1 a.fi.length k _ base _ (by omega) (owns_after h1 hbx))
  have HS := Lib.hid (fun w h => l_markSS u2 a.nx vs (k + a.fi.length) base w (by omega) s2 s3 h)
  have H2 := Lib.hid (rowsT_after h2 hbx)
  have H3 := Lib.hid h3
  have HHI := Lib.hid hhi
  have HL := Lib.hid h1.lt
  have HR0 := Lib.hid (fun i (hi : i < a.nx.length) b hb => ((h2.2.2.1 i hi).lt b hb).1)
  have HBX := Lib.hid hbx
  clear h1 h2 h3 hhi hbx s1 s2 s3
  go_enter Try.func26, Try.ntmps26
  go_wp2_with fail
  refine (HM.out).mono ?_
  rintro e w2 ⟨rfl, ho2, hg2⟩
  have hx : w2.cell? ⟨w.heap.size, 3, none⟩ = some u2 := by
    refine World.grownBy.cell hg2 (by simp [go_sem]) ?_
    intro e; have := (HL.out _ e.symm).2; simp at this
  have hr2 : RowsT base w2 u2 vs a.nx := by
    refine rowsT_gpx H2.out (Gp.of (P := fun b => u1.ownBlock = some b) hg2 (fun b h => h)) (fun b hb hb2 => (H3.out b hb2).1 hb) (fun i hi b hb hb2 => (H3.out b hb2).2 i hi hb)
  have HO := Lib.hid ho2
  have HG := Lib.hid hg2
  clear ho2 hg2
  go_wp2_with fail
  refine (HS.out _ hr2).mono ?_
  rintro e w3 ⟨rfl, hr3, hg3⟩
  have hf : Hid (AuR base w3 u1 u2 vs (auMk k a)) := by
    refine ⟨?_, hr3, ?_⟩
    · show w3.ownsRow base 2 1 u1 (mks k a.fi.length).length (iv (mks k a.fi.length))
      rw [mks_len]
      exact owns_gp HO.out hg3 (fun b hb => fun ⟨i, hi, hq⟩ => (H3.out b hb).2 i hi hq)
    · intro b hb
      refine ⟨(H3.out b hb).1, fun i hi => (H3.out b hb).2 i ?_⟩
      simpa [auMk, mkT, mkU_len] using hi
  have hgf : Hid (Gp (fun b => base ≤ b ∧ b < hi) w w3) := by
    refine (Gp.ofBelow HBX.out).trans ((Gp.of HG.out (fun b hb => ?_)).trans (hg3.mono (fun b => ?_)))
    · exact ⟨(HL.out b hb).1, HHI.out.1 b hb⟩
    · rintro ⟨i, hi, hq⟩
      exact ⟨HR0.out i hi b hq, HHI.out.2 i b hi hq⟩
  clear hr2 hr3 hg3 hx
  go_wp2
  go_ret
  exact ⟨congrArg Ending.returned (congrArg (Value.int .i64) (by rw [auTs]; omega)), hf.out, hgf.out⟩
theorem l_markAuto (st sa : Int) (u1 u2 : Value) (vs : List Value) (a : Au) (base hi : Nat) (w : World) (ha : auSm a) (h : AuR base w u1 u2 vs a) (hhi : AuHi hi u1 vs a) :
    Calls Try.prog 26 #[.agg #[.int .i64 st, .int .i64 sa, u1, u2], .int .i64 1] w fun e w' => e = .returned (.int .i64 ((1 + auTs a : Nat) : Int)) ∧ AuR base w' u1 u2 vs (auMk 1 a) ∧ Gp (fun b => base ≤ b ∧ b < hi) w w' :=
  l_markAutoK st sa u1 u2 vs a 1 base hi w (by omega) ha h hhi
theorem l_heldAuto (st sa : Int) (u1 u2 : Value) (vs : List Value) (a : Au) (base : Nat) (w : World) (ha : auSm a) (h : AuR base w u1 u2 vs (auMk 1 a)) :
    Calls Try.prog 27 #[.agg #[.int .i64 st, .int .i64 sa, u1, u2], .int .i64 1] w fun e w' => e = .returned (.int .i64 ((1 + auTs a : Nat) : Int)) ∧ Below w.heap.size w w' := by
  obtain ⟨h1, h2, h3⟩ := h
  obtain ⟨s1, s2, s3⟩ := ha
  have hbx := (Below.refl w.heap.size w).alloc (Nat.le_refl _) (.cells #[.int .i64 st, .int .i64 sa, u1, u2] 28)
  have h1 : w.ownsRow base 2 1 u1 (mks 1 a.fi.length).length (iv (mks 1 a.fi.length)) := h1
  rw [mks_len] at h1
  have hts := ts_le s3 a.nx.length (Nat.le_refl _)
  have HM := Lib.hid (l_heldInt64S u1 a.fi.length 1 base _ (by omega) (owns_after h1 hbx))
  have HS := Lib.hid (l_heldSS u2 a.nx vs (1 + a.fi.length) base _ (by omega) s2 s3 (rowsT_after h2 hbx))
  have HBX := Lib.hid hbx
  have hk1 : decide (((1 + a.fi.length : Nat) : Int) < 0) = false := by rw [decide_eq_false_iff_not]; omega
  have hk2 : decide (((1 + a.fi.length + ts a.nx a.nx.length : Nat) : Int) < 0) = false := by rw [decide_eq_false_iff_not]; omega
  have hk3 : Hid (((1 + a.fi.length + ts a.nx a.nx.length : Nat) : Int) = ((1 + auTs a : Nat) : Int)) := by show _ = _; rw [auTs, Nat.add_assoc]
  clear h1 h2 h3 hbx s1 s2 s3 hts
  generalize 1 + a.fi.length + ts a.nx a.nx.length = k2 at *
  generalize 1 + a.fi.length = k1 at *
  go_enter Try.func27, Try.ntmps27
  go_wp2_with fail
  refine (HM.out).mono ?_
  rintro e w2 ⟨rfl, rfl⟩
  go_wp2_with fail
  refine (HS.out).mono ?_
  rintro e w2 ⟨rfl, rfl⟩
  go_wp2
  go_ret
  exact ⟨by first | rfl | (rw [hk3.out]; rfl), HBX.out⟩
end Go.Proofs.Ytefcdkgfabaffaa

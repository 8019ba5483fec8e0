/- Automata that come in: sizes and copies. -/
import Derived.Test.YtefcdkgfabaffaaDoorHA
namespace Go.Proofs.YtefcdkgfabaffaaDoor
open Go.ChangeShapes Go.WideShapes Go.RowKit
set_option linter.unusedVariables false
set_option linter.unusedSimpArgs false
set_option maxHeartbeats 4000000
set_option maxRecDepth 100000
theorem l_szInt64ST (a : Option Addr) (cap n left : Nat) (w : World) (hl : left ≤ 1048576) (hn : n ≤ 9223372036854775807) :
    Calls Tryd.prog 9 #[.slice a n cap, .int .i64 left] w fun e w' => w = w' ∧ ((e = .returned (.int .i64 (-1))) ∨ ∃ m : Nat, e = .returned (.int .i64 m) ∧ m ≤ 1048576 ∧ n ≤ 1048576 ∧ m + n ≤ left) := by
  by_cases hbig : left < n
  · have hb2 : (left : Int) - n < 0 := by omega
    go_enter Tryd.func9, Tryd.ntmps9
    go_wp2
    go_ret
    exact ⟨rfl, .inl rfl⟩
  · have hb2 : ¬ (left : Int) < n := by omega
    go_enter Tryd.func9, Tryd.ntmps9
    go_wp2
    go_ret
    exact ⟨rfl, .inr ⟨left - n, by first | (congr 2; omega) | go_num, by omega, by omega, by omega⟩⟩
/-- how many numbers lie ahead of a row -/
def ts (t : Tb) : Nat → Nat
  | 0 => 0
  | p + 1 => ts t p + (tA t p).length
theorem l_szInt64SST (v : Value) (t : Tb) (left : Nat) (w : World) (hl : left ≤ 1048576) (hin : InT w v t) (hn : t.length ≤ 9223372036854775807) (hr : ∀ r ∈ t, r.length ≤ 9223372036854775807) :
    Calls Tryd.prog 10 #[v, .int .i64 left] w fun e w' => w = w' ∧ ((e = .returned (.int .i64 (-1))) ∨ ∃ m : Nat, e = .returned (.int .i64 m) ∧ m ≤ 1048576 ∧ m + ts t t.length ≤ left ∧ t.length ≤ 1048576 ∧ ∀ r ∈ t, r.length ≤ 1048576) := by
  obtain ⟨a, cap, rfl⟩ := inT_sl hin
  have HIN := Lib.hid hin
  have HR := Lib.hid hr
  clear hin hr
  by_cases hbig : left < t.length
  · have hb2 : (left : Int) - t.length < 0 := by omega
    go_enter Tryd.func10, Tryd.ntmps10
    go_wp2
    go_ret
    exact ⟨rfl, .inl rfl⟩
  · have hb2 : ¬ (left : Int) < t.length := by omega
    go_enter Tryd.func10, Tryd.ntmps10
    go_wp2
    go_loop [1, 5] (fun x i => ∃ k n : Nat, k ≤ t.length ∧ i = .int .i64 k ∧ x = .int .i64 n ∧ n ≤ 1048576 ∧ n + ts t k ≤ left ∧ ∀ j, j < k → (tA t j).length ≤ 1048576) (fun _ i => t.length - (intOf i).toNat)
    case atStart => exact ⟨0, left - t.length, by omega, rfl, by go_num, by omega, by rw [ts]; omega, fun t ht => by omega⟩
    case round =>
      obtain ⟨k, n, hk, rfl, rfl, hn2, htot, hall⟩ := hrel
      have HA := Lib.hid hall
      clear hall
      by_cases hlt : k < t.length
      · obtain ⟨b, off, r, c, rfl, hbl, hc0, hri⟩ := inT_at HIN.out hlt
        have hs1 : (tA t k).length ≤ 9223372036854775807 := HR.out _ (tA_mem hlt)
        have HN : Hid (((tA t k).length ≤ 1048576) → ∀ j, j < k + 1 → (tA t j).length ≤ 1048576) := by
          intro h j hj
          by_cases he : j = k
          · subst he; exact h
          · exact HA.out j (by omega)
        have hin : ((k : Nat) : Int) < t.length := by omega
        have HTS : Hid (ts t (k + 1) = ts t k + (tA t k).length) := rfl
        clear hri
        generalize (tA t k).length = m at *
        go_wp2_with fail
        refine (l_szInt64ST r c m n w hn2 hs1).mono ?_
        rintro e w2 ⟨rfl, rfl | ⟨m2, rfl, hm2, hm3, hm4⟩⟩
        · go_wp2
          go_ret
          exact ⟨rfl, .inl rfl⟩
        · have HN2 := Lib.hid (HN.out hm3)
          go_wp2
          go_round
          case rel => exact ⟨k + 1, m2, by omega, by go_num, rfl, hm2, by have := HTS.out; omega, HN2.out⟩
          case measure => first | (simp [intOf]; done) | (simp [intOf]; omega)
      · have ek : k = t.length := by omega
        have HF : Hid (∀ r ∈ t, r.length ≤ 1048576) := by
          intro r hr
          obtain ⟨j, hj, rfl⟩ := List.getElem_of_mem hr
          have := HA.out j (by omega)
          rwa [tA, List.getD, List.getElem?_eq_getElem hj] at this
        subst ek
        have hk' : ¬ (t.length : Int) < t.length := by omega
        go_wp2
        go_ret
        exact ⟨rfl, .inr ⟨n, rfl, hn2, htot, by omega, HF.out⟩⟩
theorem l_szInt64SS (v : Value) (t : Tb) (left : Nat) (w : World) (hl : left ≤ 1048576) (hin : InT w v t) (hn : t.length ≤ 9223372036854775807) (hr : ∀ r ∈ t, r.length ≤ 9223372036854775807) :
    Calls Tryd.prog 10 #[v, .int .i64 left] w fun e w' => w = w' ∧ ((e = .returned (.int .i64 (-1))) ∨ ∃ m : Nat, e = .returned (.int .i64 m) ∧ m ≤ 1048576 ∧ t.length ≤ 1048576 ∧ ∀ r ∈ t, r.length ≤ 1048576) := by
  refine (l_szInt64SST v t left w hl hin hn hr).mono ?_
  rintro e w' ⟨rfl, rfl | ⟨m, rfl, h1, h2, h3⟩⟩
  · exact ⟨rfl, .inl rfl⟩
  · exact ⟨rfl, .inr ⟨m, rfl, h1, h3⟩⟩
/-- an automaton's numbers together -/
def auTs (a : Au) : Nat := a.fi.length + ts a.nx a.nx.length
theorem l_szAutoT (u1 u2 : Value) (a : Au) (left : Nat) (w : World) (hl : left ≤ 1048576) (h1 : InI w u1 a.fi) (h2 : InT w u2 a.nx) (hf : a.fi.length ≤ 9223372036854775807) (hn : a.nx.length ≤ 9223372036854775807) (hr : ∀ r ∈ a.nx, r.length ≤ 9223372036854775807) :
    Calls Tryd.prog 4 #[.agg #[.int .i64 a.st, .int .i64 a.sa, u1, u2], .int .i64 left] w fun e w' => Below w.heap.size w w' ∧ ((e = .returned (.int .i64 (-1))) ∨ ∃ m : Nat, e = .returned (.int .i64 m) ∧ m ≤ 1048576 ∧ auSm a ∧ auTs a ≤ 1048576) := by
  obtain ⟨a1, c1, rfl⟩ := inI_sl h1
  obtain ⟨a2, c2, rfl⟩ := inT_sl h2
  have hb := (Below.refl w.heap.size w).alloc (Nat.le_refl _) (.cells #[.int .i64 a.st, .int .i64 a.sa, .slice a1 a.fi.length c1, .slice a2 a.nx.length c2] 25)
  have H1 := Lib.hid (fun w => l_szInt64ST a1 c1 a.fi.length left w hl hf)
  have H2 := Lib.hid (fun (left : Nat) (w : World) hl h => l_szInt64SST (.slice a2 a.nx.length c2) a.nx left w hl h hn hr)
  have HT := Lib.hid (inT_below h2 hb)
  have HB := Lib.hid hb
  clear h1 h2 hf hn hr hb
  go_enter Tryd.func4, Tryd.ntmps4
  go_wp2_with fail
  refine (H1.out _).mono ?_
  rintro e w2 ⟨rfl, rfl | ⟨m2, rfl, hm2, hm3, hm3b⟩⟩
  · go_wp2
    go_ret
    exact ⟨HB.out, .inl rfl⟩
  · go_wp2_with fail
    refine (H2.out m2 _ hm2 HT.out).mono ?_
    rintro e w2 ⟨rfl, rfl | ⟨m4, rfl, hm4, hm4b, hm5, hm6⟩⟩
    · go_wp2
      go_ret
      exact ⟨HB.out, .inl rfl⟩
    · have HH : Hid (auSm a ∧ auTs a ≤ 1048576) := ⟨⟨hm3, hm5, hm6⟩, by rw [auTs]; omega⟩
      clear hm6
      go_wp2
      go_ret
      exact ⟨HB.out, .inr ⟨m4, rfl, hm4, HH.out⟩⟩
theorem l_szAuto (u1 u2 : Value) (a : Au) (left : Nat) (w : World) (hl : left ≤ 1048576) (h1 : InI w u1 a.fi) (h2 : InT w u2 a.nx) (hf : a.fi.length ≤ 9223372036854775807) (hn : a.nx.length ≤ 9223372036854775807) (hr : ∀ r ∈ a.nx, r.length ≤ 9223372036854775807) :
    Calls Tryd.prog 4 #[.agg #[.int .i64 a.st, .int .i64 a.sa, u1, u2], .int .i64 left] w fun e w' => Below w.heap.size w w' ∧ ((e = .returned (.int .i64 (-1))) ∨ ∃ m : Nat, e = .returned (.int .i64 m) ∧ m ≤ 1048576 ∧ auSm a) := by
  refine (l_szAutoT u1 u2 a left w hl h1 h2 hf hn hr).mono ?_
  rintro e w' ⟨hb, rfl | ⟨m, rfl, g1, g2, g3⟩⟩
  · exact ⟨hb, .inl rfl⟩
  · exact ⟨hb, .inr ⟨m, rfl, g1, g2⟩⟩
theorem l_toInt64S (v : Value) (xs : List Int) (w : World) (hn : xs.length ≤ 1048576) (hin : InI w v xs) :
    Calls Tryd.prog 13 #[v] w fun e w' => ∃ g, e = .returned (.slice (some ⟨g, 0, none⟩) xs.length xs.length) ∧ w'.ownsRow w.heap.size 2 1 (.slice (some ⟨g, 0, none⟩) xs.length xs.length) xs.length (iv xs) ∧ Below w.heap.size w w' := by
  obtain ⟨a, cap, rfl⟩ := inI_sl hin
  have HIN := Lib.hid hin
  clear hin
  go_enter Tryd.func13, Tryd.ntmps13
  go_wp2_with (at_make; refine make64 _ rfl _ _ rfl w.heap.size (Nat.le_refl _) xs.length rfl rfl hn ?_; intro w1 ho1 hb1)
  have HO := Lib.hid ho1
  clear ho1
  go_loopw [4] (fun i wr => Below w.heap.size w wr ∧ ∃ (k : Nat) (zs : List Int), k ≤ xs.length ∧ i = .int .i64 k ∧ zs.length = xs.length ∧ wr.ownsRow w.heap.size 2 1 (.slice (some ⟨w.heap.size, 0, none⟩) xs.length xs.length) xs.length (zs.map (Value.int .i64)) ∧ ∀ t, t < k → zs.getD t 0 = xs.getD t 0) (fun i _ => xs.length - (intOf i).toNat)
  case atStart => exact ⟨hb1, 0, _, by omega, rfl, by simp, HO.out, fun t ht => by omega⟩
  case round =>
    obtain ⟨hb2, k, zs, hk, rfl, hzl, hzs, hall⟩ := hrel
    have HA := Lib.hid hall
    clear hall
    by_cases hlt : k < xs.length
    · obtain ⟨b, off, rfl, hbl, hc0⟩ := inI_at (inI_below HIN.out hb2) hlt
      have hcz := own_get hzs hzl hlt
      have hfz : wr.frozen? ⟨w.heap.size, k, none⟩ = false := hzs.frozenAt k
      have HST := Lib.hid (own_set hzs k (xs.getD k 0))
      have HB2 := Lib.hid hb2
      have HZL := Lib.hid hzl
      have hin : ((k : Nat) : Int) < xs.length := by omega
      clear hzs hb2 hzl
      generalize hx : xs.getD k 0 = x at *
      have HX := Lib.hid hx
      clear hx
      go_wp2
      go_roundw
      case rel =>
        refine ⟨HB2.out.setCell (p := ⟨w.heap.size, k, none⟩) (Nat.le_refl _) _, k + 1, zs.set k x, by omega, by go_num, by rw [List.length_set]; exact HZL.out, HST.out, fun t ht => ?_⟩
        have hl := HZL.out
        by_cases he : t = k
        · subst he
          rw [HX.out, List.getD, List.getElem?_set_self (by omega)]; rfl
        · rw [List.getD, List.getElem?_set_ne (by omega)]; exact HA.out t (by omega)
      case measure => first | (simp [intOf]; done) | (simp [intOf]; omega)
    · have ek : k = xs.length := by omega
      have hfin : zs = xs := by
        apply List.ext_getElem hzl
        intro j h1 h2
        have := HA.out j (by omega)
        rwa [List.getD, List.getD, List.getElem?_eq_getElem h1, List.getElem?_eq_getElem h2] at this
      rw [hfin] at hzs
      clear ek hfin
      go_wp2
      go_ret
      exact ⟨_, rfl, hzs, hb2⟩
theorem info_row : (Tryd.prog.info? 22).map (fun i => (i.zero, i.size, i.bytes)) = some (some (.slice none 0 0), 1, 24) := by kernel_rfl
theorem l_toInt64SS (v : Value) (t : Tb) (w : World) (hn : t.length ≤ 1048576) (hr : ∀ r ∈ t, r.length ≤ 1048576) (hin : InT w v t) :
    Calls Tryd.prog 14 #[v] w fun e w' => ∃ g, e = .returned (.slice (some ⟨g, 0, none⟩) t.length t.length) ∧ OwnT w.heap.size w' (.slice (some ⟨g, 0, none⟩) t.length t.length) t ∧ Below w.heap.size w w' := by
  obtain ⟨i0, hi, hz0, hz1, hz2⟩ := info_parts info_row
  obtain ⟨a, cap, rfl⟩ := inT_sl hin
  have HIN := Lib.hid hin
  have HR := Lib.hid hr
  clear hin hr
  go_enter Tryd.func14, Tryd.ntmps14
  go_wp2_with (at_make; refine wpList_make_full _ rfl _ _ 23 rfl w.heap.size 22 i0 (.slice none 0 0) 1 Tryd.underlying23 hi hz0 hz1 .i64 .i64 _ _ t.length rfl rfl rfl rfl (by rw [hz2]; omega) (by unfold maxLen; omega) (Nat.le_refl _) ?_; intro w1 ho1 hg1)
  have hb1 : Below w.heap.size w w1 := below_of_grown hg1 (Nat.le_refl _) (fun k hk => by cases hk)
  have hgl : w.heap.size < w1.heap.size := (ho1.lt _ rfl).2
  have HO := Lib.hid ho1
  clear ho1 hg1
  go_loopw [4] (fun i wr => Below w.heap.size w wr ∧ w.heap.size < wr.heap.size ∧ ∃ (k : Nat) (vs : List Value), k ≤ t.length ∧ i = .int .i64 k ∧ wr.ownsRow w.heap.size 22 1 (.slice (some ⟨w.heap.size, 0, none⟩) t.length t.length) t.length vs ∧ (∀ j, j < k → wr.ownsRow (w.heap.size + 1) 2 1 (vs.getD j undef) (tA t j).length (iv (tA t j))) ∧ ∀ i j, i < j → j < k → ∀ b, (vs.getD i undef).ownBlock = some b → (vs.getD j undef).ownBlock ≠ some b) (fun i _ => t.length - (intOf i).toNat)
  case atStart => exact ⟨hb1, hgl, 0, _, by omega, rfl, HO.out, fun t ht => by omega, fun i j _ h => by omega⟩
  case round =>
    obtain ⟨hb2, hgs, k, vs, hk, rfl, hvs, hrows, hdis⟩ := hrel
    have hvl : vs.length = t.length := by have := hvs.1; omega
    by_cases hlt : k < t.length
    · obtain ⟨b, off, r, c, rfl, hbl, hc0, hri⟩ := inT_at (inT_below HIN.out hb2) hlt
      have hin : ((k : Nat) : Int) < t.length := by omega
      have HT := Lib.hid (l_toInt64S (.slice r (tA t k).length c) (tA t k) wr (HR.out _ (tA_mem hlt)) hri)
      have HVS := Lib.hid hvs
      have HROWS := Lib.hid hrows
      have HDIS := Lib.hid hdis
      have HB2 := Lib.hid hb2
      have HVL := Lib.hid hvl
      clear hri hvs hrows hdis hb2 hvl
      generalize hrk : tA t k = rk at *
      have HRK := Lib.hid hrk
      clear hrk
      go_wp2_with fail
      refine HT.out.mono ?_
      rintro e w2 ⟨g, rfl, ho2, hb3⟩
      have hvs2 := owns_after HVS.out hb3
      obtain ⟨z0, hz0'⟩ : ∃ z, vs[k]? = some z := ⟨_, List.getElem?_eq_getElem (by have := HVL.out; omega)⟩
      have hcell : w2.cell? ⟨w.heap.size, k, none⟩ = some z0 := by rw [hvs2.cellAt k (by omega)]; exact hz0'
      have hfro : w2.frozen? ⟨w.heap.size, k, none⟩ = false := hvs2.frozenAt k
      have HST := Lib.hid (hvs2.stored k (.slice (some ⟨g, 0, none⟩) rk.length rk.length)).1
      have HB3 := Lib.hid hb3
      have HO2 := Lib.hid ho2
      have hgw : wr.heap.size ≤ g := (ho2.lt g rfl).1
      clear hvs2 hz0' hb3 ho2 HT
      go_wp2
      go_roundw
      case rel =>
        have hl := HVL.out
        have hB := HB2.out.trans (HB3.out.mono HB2.out.size)
        have hs3 := HB3.out.size
        refine ⟨hB.setCell (p := ⟨w.heap.size, k, none⟩) (Nat.le_refl _) _, by simp; omega, k + 1, _, by omega, by go_num, HST.out, fun j hj => ?_, fun i j hij hj b0 => ?_⟩
        · by_cases he : j = k
          · subst he
            rw [List.getD, List.getElem?_set_self (by omega), HRK.out]
            exact ownsRow_setCell_below (owns_weak HO2.out (show w.heap.size + 1 ≤ wr.heap.size by omega)) (a := ⟨w.heap.size, j, none⟩) (by simp) _
          · rw [List.getD, List.getElem?_set_ne (by omega)]
            exact ownsRow_setCell_below (owns_after (HROWS.out j (by omega)) HB3.out) (a := ⟨w.heap.size, k, none⟩) (by simp) _
        · have hne : i ≠ k := by omega
          rw [List.getD, List.getElem?_set_ne (by omega)]
          by_cases he : j = k
          · subst he
            rw [List.getD, List.getElem?_set_self (by omega)]
            intro h1 h2
            have e2 : g = b0 := by injection h2
            have := ((HROWS.out i (by omega)).lt b0 h1).2
            omega
          · rw [List.getD, List.getElem?_set_ne (by omega)]
            exact HDIS.out i j hij (by omega) b0
      case measure => first | (simp [intOf]; done) | (simp [intOf]; omega)
    · have ek : k = t.length := by omega
      subst ek
      have HF : Hid (OwnT w.heap.size wr (.slice (some ⟨w.heap.size, 0, none⟩) t.length t.length) t) :=
        ⟨vs, hvl, hvs, fun j hj => owns_weak (hrows j hj) (by omega), hdis, fun i b hi h1 h2 => by
          have := ((hrows i hi).lt b h1).1
          have e2 : w.heap.size = b := by injection h2
          omega⟩
      clear hvs hrows hdis hvl
      go_wp2
      go_ret
      exact ⟨_, rfl, HF.out, hb2⟩
theorem put4 {w : World} {b : Nat} {z0 z1 z2 z3 : Value} (v0 v1 v2 v3 : Value) (h0 : w.cell? ⟨b, 0, none⟩ = some z0) (h1 : w.cell? ⟨b, 1, none⟩ = some z1) (h2 : w.cell? ⟨b, 2, none⟩ = some z2) (h3 : w.cell? ⟨b, 3, none⟩ = some z3) :
    ((((w.setCell ⟨b, 0, none⟩ v0).setCell ⟨b, 1, none⟩ v1).setCell ⟨b, 2, none⟩ v2).setCell ⟨b, 3, none⟩ v3).cell? ⟨b, 0, none⟩ = some v0 ∧ ((((w.setCell ⟨b, 0, none⟩ v0).setCell ⟨b, 1, none⟩ v1).setCell ⟨b, 2, none⟩ v2).setCell ⟨b, 3, none⟩ v3).cell? ⟨b, 1, none⟩ = some v1 ∧ ((((w.setCell ⟨b, 0, none⟩ v0).setCell ⟨b, 1, none⟩ v1).setCell ⟨b, 2, none⟩ v2).setCell ⟨b, 3, none⟩ v3).cell? ⟨b, 2, none⟩ = some v2 ∧ ((((w.setCell ⟨b, 0, none⟩ v0).setCell ⟨b, 1, none⟩ v1).setCell ⟨b, 2, none⟩ v2).setCell ⟨b, 3, none⟩ v3).cell? ⟨b, 3, none⟩ = some v3 := by
  have o : ∀ (w : World) (i j : Nat) (v : Value), i ≠ j → (w.setCell ⟨b, i, none⟩ v).cell? ⟨b, j, none⟩ = w.cell? ⟨b, j, none⟩ := fun w i j v h => by rw [World.cell?_setCell_other (h := by first | (intro e; injection e with _ e; exact h e) | (intro e; injection e with _ e; exact h e.symm))]
  refine ⟨?_, ?_, ?_, ?_⟩
  · rw [o _ 3 0 _ (by decide), o _ 2 0 _ (by decide), o _ 1 0 _ (by decide)]; exact cell_st_same _ h0
  · rw [o _ 3 1 _ (by decide), o _ 2 1 _ (by decide)]; exact cell_st_same _ (by rw [o _ 0 1 _ (by decide)]; exact h1)
  · rw [o _ 3 2 _ (by decide)]; exact cell_st_same _ (by rw [o _ 1 2 _ (by decide), o _ 0 2 _ (by decide)]; exact h2)
  · exact cell_st_same _ (by rw [o _ 2 3 _ (by decide), o _ 1 3 _ (by decide), o _ 0 3 _ (by decide)]; exact h3)
theorem ownT_st {base : Nat} {w : World} {v : Value} {t : Tb} (h : OwnT base w v t) {b o : Nat} (hb : b < base) (u : Value) : OwnT base (w.setCell ⟨b, o, none⟩ u) v t := by
  obtain ⟨vs, hl, h, hr, h2⟩ := h
  exact ⟨vs, hl, ownsRow_setCell_below h (a := ⟨b, o, none⟩) hb u, fun k hk => ownsRow_setCell_below (hr k hk) (a := ⟨b, o, none⟩) hb u, h2⟩
theorem ownT_weak {base base' : Nat} {w : World} {v : Value} {t : Tb} (h : OwnT base w v t) (hb : base' ≤ base) : OwnT base' w v t := by
  obtain ⟨vs, hl, h, hr, h2⟩ := h
  exact ⟨vs, hl, owns_weak h hb, fun k hk => owns_weak (hr k hk) hb, h2⟩
theorem l_toAuto (u1 u2 : Value) (a : Au) (w : World) (hs : auSm a) (h1 : InI w u1 a.fi) (h2 : InT w u2 a.nx) :
    Calls Tryd.prog 6 #[.agg #[.int .i64 a.st, .int .i64 a.sa, u1, u2]] w fun e w' => ∃ g1 g2, e = .returned (.agg #[.int .i64 a.st, .int .i64 a.sa, .slice (some ⟨g1, 0, none⟩) a.fi.length a.fi.length, .slice (some ⟨g2, 0, none⟩) a.nx.length a.nx.length]) ∧ w'.ownsRow w.heap.size 2 1 (.slice (some ⟨g1, 0, none⟩) a.fi.length a.fi.length) a.fi.length (iv a.fi) ∧ OwnT w.heap.size w' (.slice (some ⟨g2, 0, none⟩) a.nx.length a.nx.length) a.nx ∧ (g1 ≠ g2 ∧ ∃ c, g1 < c ∧ OwnT c w' (.slice (some ⟨g2, 0, none⟩) a.nx.length a.nx.length) a.nx) ∧ Below w.heap.size w w' := by
  obtain ⟨hs1, hs2, hs3⟩ := hs
  have H1 := Lib.hid (fun w h => l_toInt64S u1 a.fi w hs1 h)
  have H2 := Lib.hid (fun w h => l_toInt64SS u2 a.nx w hs2 hs3 h)
  have HI1 := Lib.hid h1
  have HI2 := Lib.hid h2
  clear h1 h2 hs1 hs2 hs3
  go_enter Tryd.func6, Tryd.ntmps6
  have hbA := (((Below.refl w.heap.size w).alloc (Nat.le_refl _) (.cells #[.int .i64 a.st, .int .i64 a.sa, u1, u2] 25)).alloc (by simp) (.cells #[.int .i64 0, .int .i64 0, .slice none 0 0, .slice none 0 0] 28)).alloc (by first | (simp; done) | (simp; omega)) (.cells #[.int .i64 a.st, .int .i64 a.sa, .slice none 0 0, .slice none 0 0] 28)
  have i1 := inI_below HI1.out hbA
  have HBA := Lib.hid hbA
  clear hbA
  go_wp2_with fail
  refine (H1.out _ i1).mono ?_
  rintro e w2 ⟨g1, rfl, ho1, hb1⟩
  have B1 := HBA.out.trans (hb1.mono HBA.out.size)
  have c3 : w2.cell? ⟨w.heap.size, 3, none⟩ = some u2 := by rw [hb1.cell (by first | (simp; done) | (simp; omega))]; simp [go_sem]
  have k0 : w2.cell? ⟨w.heap.size + 1 + 1, 0, none⟩ = some (.int .i64 a.st) := by rw [hb1.cell (by simp)]; simp [go_sem]
  have k1 : w2.cell? ⟨w.heap.size + 1 + 1, 1, none⟩ = some (.int .i64 a.sa) := by rw [hb1.cell (by simp)]; simp [go_sem]
  have k2 : w2.cell? ⟨w.heap.size + 1 + 1, 2, none⟩ = some (.slice none 0 0) := by rw [hb1.cell (by simp)]; simp [go_sem]
  have k3 : w2.cell? ⟨w.heap.size + 1 + 1, 3, none⟩ = some (.slice none 0 0) := by rw [hb1.cell (by simp)]; simp [go_sem]
  have z0 : w2.cell? ⟨w.heap.size + 1, 0, none⟩ = some (.int .i64 0) := by rw [hb1.cell (by first | (simp; done) | (simp; omega))]; simp [go_sem]
  have z1 : w2.cell? ⟨w.heap.size + 1, 1, none⟩ = some (.int .i64 0) := by rw [hb1.cell (by first | (simp; done) | (simp; omega))]; simp [go_sem]
  have z2 : w2.cell? ⟨w.heap.size + 1, 2, none⟩ = some (.slice none 0 0) := by rw [hb1.cell (by first | (simp; done) | (simp; omega))]; simp [go_sem]
  have z3 : w2.cell? ⟨w.heap.size + 1, 3, none⟩ = some (.slice none 0 0) := by rw [hb1.cell (by first | (simp; done) | (simp; omega))]; simp [go_sem]
  have f2 : w2.frozen? ⟨w.heap.size + 1 + 1, 2, none⟩ = false := by rw [hb1.frozen (by simp)]; simp [go_sem]
  have f3 : ∀ j, w2.frozen? ⟨w.heap.size + 1 + 1, j, none⟩ = false := fun j => by rw [hb1.frozen (by simp)]; simp [go_sem]
  have fz : ∀ j, w2.frozen? ⟨w.heap.size + 1, j, none⟩ = false := fun j => by rw [hb1.frozen (by first | (simp; done) | (simp; omega))]; simp [go_sem]
  have hg1 : w.heap.size + 1 + 1 < g1 := by have := (ho1.lt g1 rfl).1; simp at this; omega
  have HO1 := Lib.hid ho1
  have HB1 := Lib.hid B1
  have HK := Lib.hid k3
  have HZ : Hid (w2.cell? ⟨w.heap.size + 1, 0, none⟩ = some (.int .i64 0) ∧ w2.cell? ⟨w.heap.size + 1, 1, none⟩ = some (.int .i64 0) ∧ w2.cell? ⟨w.heap.size + 1, 2, none⟩ = some (.slice none 0 0) ∧ w2.cell? ⟨w.heap.size + 1, 3, none⟩ = some (.slice none 0 0)) := ⟨z0, z1, z2, z3⟩
  have HK01 : Hid (w2.cell? ⟨w.heap.size + 1 + 1, 0, none⟩ = some (.int .i64 a.st) ∧ w2.cell? ⟨w.heap.size + 1 + 1, 1, none⟩ = some (.int .i64 a.sa)) := ⟨k0, k1⟩
  have HFZ := Lib.hid fz
  have HF3 := Lib.hid f3
  have hw2 : w.heap.size + 1 + 1 < w2.heap.size := World.block_lt_of_cell? _ _ k0
  have HK2 := Lib.hid k2
  clear ho1 hb1 B1 i1 k0 k1 k3 z0 z1 z2 z3 fz f3
  have c3' : (w2.setCell ⟨w.heap.size + 1 + 1, 2, none⟩ (.slice (some ⟨g1, 0, none⟩) a.fi.length a.fi.length)).cell? ⟨w.heap.size, 3, none⟩ = some u2 := by
    rw [cell_st_ne _ (by show w.heap.size + 1 + 1 ≠ w.heap.size; omega)]; exact c3
  go_wp2_with fail
  refine (H2.out _ (inT_below HI2.out (HB1.out.setCell (p := ⟨w.heap.size + 1 + 1, 2, none⟩) (by first | (simp; done) | (simp; omega)) _))).mono ?_
  rintro e w3 ⟨g2, rfl, ho2, hb2⟩
  have e0 : w3.cell? ⟨w.heap.size + 1 + 1, 0, none⟩ = some (.int .i64 a.st) := by rw [hb2.cell (by first | (simp; done) | (simp; omega)), World.cell?_setCell_other (h := by simp)]; exact HK01.out.1
  have e1 : w3.cell? ⟨w.heap.size + 1 + 1, 1, none⟩ = some (.int .i64 a.sa) := by rw [hb2.cell (by first | (simp; done) | (simp; omega)), World.cell?_setCell_other (h := by simp)]; exact HK01.out.2
  have e2 : w3.cell? ⟨w.heap.size + 1 + 1, 2, none⟩ = some (.slice (some ⟨g1, 0, none⟩) a.fi.length a.fi.length) := by rw [hb2.cell (by first | (simp; done) | (simp; omega))]; exact cell_st_same _ HK2.out
  have e3 : w3.cell? ⟨w.heap.size + 1 + 1, 3, none⟩ = some (.slice none 0 0) := by rw [hb2.cell (by first | (simp; done) | (simp; omega)), World.cell?_setCell_other (h := by simp)]; exact HK.out
  have y : ∀ j v, w2.cell? ⟨w.heap.size + 1, j, none⟩ = some v → w3.cell? ⟨w.heap.size + 1, j, none⟩ = some v := fun j v h => by rw [hb2.cell (by first | (simp; done) | (simp; omega)), cell_st_ne _ (by show w.heap.size + 1 + 1 ≠ w.heap.size + 1; omega)]; exact h
  have y0 := y _ _ HZ.out.1
  have y1 := y _ _ HZ.out.2.1
  have y2 := y _ _ HZ.out.2.2.1
  have y3 := y _ _ HZ.out.2.2.2
  have f5 : w3.frozen? ⟨w.heap.size + 1 + 1, 3, none⟩ = false := by rw [hb2.frozen (by first | (simp; done) | (simp; omega))]; simpa using HF3.out 3
  have fy : ∀ j, w3.frozen? ⟨w.heap.size + 1, j, none⟩ = false := fun j => by rw [hb2.frozen (by first | (simp; done) | (simp; omega))]; simpa using HFZ.out j
  clear y
  have f30 := fy 0
  have f31 := fy 1
  have f32 := fy 2
  have f33 := fy 3
  have hg2 : g1 < g2 := by
    have a1 := (HO1.out.lt g1 rfl).2
    obtain ⟨vs, _, h, _⟩ := ho2
    have := (h.lt g2 rfl).1
    simp at this; omega
  have HO2 := Lib.hid ho2
  have HB2 := Lib.hid hb2
  clear ho2 hb2 c3 c3' k2 f2 fy
  have hne : ∀ j, (w3.setCell ⟨w.heap.size + 1 + 1, 3, none⟩ (.slice (some ⟨g2, 0, none⟩) a.nx.length a.nx.length)).cell? ⟨w.heap.size + 1, j, none⟩ = w3.cell? ⟨w.heap.size + 1, j, none⟩ := fun j => cell_st_ne _ (by show w.heap.size + 1 + 1 ≠ w.heap.size + 1; omega)
  have HP := Lib.hid (put4 (w := w3.setCell ⟨w.heap.size + 1 + 1, 3, none⟩ (.slice (some ⟨g2, 0, none⟩) a.nx.length a.nx.length)) (b := w.heap.size + 1) (.int .i64 a.st) (.int .i64 a.sa) (.slice (some ⟨g1, 0, none⟩) a.fi.length a.fi.length) (.slice (some ⟨g2, 0, none⟩) a.nx.length a.nx.length) (by rw [hne]; exact y0) (by rw [hne]; exact y1) (by rw [hne]; exact y2) (by rw [hne]; exact y3))
  clear hne
  go_wp2
  have hP := HP.out
  refine bodyPost_ret (v := .agg #[.int .i64 a.st, .int .i64 a.sa, .slice (some ⟨g1, 0, none⟩) a.fi.length a.fi.length, .slice (some ⟨g2, 0, none⟩) a.nx.length a.nx.length]) (by simp [results, Tryd.results6, go_sem, hP.1, hP.2.1, hP.2.2.1, hP.2.2.2]) rfl ⟨g1, g2, rfl, ?_, ?_, ⟨by omega, (w2.setCell ⟨w.heap.size + 1 + 1, 2, none⟩ (.slice (some ⟨g1, 0, none⟩) a.fi.length a.fi.length)).heap.size, (by simpa using (HO1.out.lt g1 rfl).2), ?_⟩, ?_⟩
  · have h9 := owns_after (ownsRow_setCell_below HO1.out (a := ⟨w.heap.size + 1 + 1, 2, none⟩) (by simp) (.slice (some ⟨g1, 0, none⟩) a.fi.length a.fi.length)) HB2.out
    exact owns_weak (ownsRow_setCell_below (ownsRow_setCell_below (ownsRow_setCell_below (ownsRow_setCell_below (ownsRow_setCell_below h9 (a := ⟨w.heap.size + 1 + 1, 3, none⟩) (by simp) _) (a := ⟨w.heap.size + 1, 0, none⟩) (by first | (simp; done) | (simp; omega)) _) (a := ⟨w.heap.size + 1, 1, none⟩) (by first | (simp; done) | (simp; omega)) _) (a := ⟨w.heap.size + 1, 2, none⟩) (by first | (simp; done) | (simp; omega)) _) (a := ⟨w.heap.size + 1, 3, none⟩) (by first | (simp; done) | (simp; omega)) _) (by first | (simp; done) | (simp; omega))
  · exact ownT_weak (ownT_st (ownT_st (ownT_st (ownT_st (ownT_st HO2.out (b := w.heap.size + 1 + 1) (by simpa using hw2) _) (b := w.heap.size + 1) (by simp; omega) _) (b := w.heap.size + 1) (by simp; omega) _) (b := w.heap.size + 1) (by simp; omega) _) (b := w.heap.size + 1) (by simp; omega) _) (by simp; omega)
  · exact (ownT_st (ownT_st (ownT_st (ownT_st (ownT_st HO2.out (b := w.heap.size + 1 + 1) (by simpa using hw2) _) (b := w.heap.size + 1) (by simp; omega) _) (b := w.heap.size + 1) (by simp; omega) _) (b := w.heap.size + 1) (by simp; omega) _) (b := w.heap.size + 1) (by simp; omega) _)
  · have hB := (HB1.out.setCell (p := ⟨w.heap.size + 1 + 1, 2, none⟩) (by first | (simp; done) | (simp; omega)) (.slice (some ⟨g1, 0, none⟩) a.fi.length a.fi.length))
    exact (((((hB.trans (HB2.out.mono hB.size)).setCell (p := ⟨w.heap.size + 1 + 1, 3, none⟩) (by first | (simp; done) | (simp; omega)) _).setCell (p := ⟨w.heap.size + 1, 0, none⟩) (by first | (simp; done) | (simp; omega)) _).setCell (p := ⟨w.heap.size + 1, 1, none⟩) (by first | (simp; done) | (simp; omega)) _).setCell (p := ⟨w.heap.size + 1, 2, none⟩) (by first | (simp; done) | (simp; omega)) _).setCell (p := ⟨w.heap.size + 1, 3, none⟩) (by first | (simp; done) | (simp; omega)) _
end Go.Proofs.YtefcdkgfabaffaaDoor

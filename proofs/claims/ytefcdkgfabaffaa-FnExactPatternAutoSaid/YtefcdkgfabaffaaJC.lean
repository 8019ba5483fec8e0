/- Coders that come in: copies, comparisons. -/
import Derived.Test.YtefcdkgfabaffaaJB
namespace Go.Proofs.Ytefcdkgfabaffaa
open Go.ChangeShapes Go.WideShapes Go.RowKit
set_option linter.unusedVariables false
set_option linter.unusedSimpArgs false
set_option maxHeartbeats 4000000
set_option maxRecDepth 100000
theorem info_strb : (Try.prog.info? 9).map (fun i => (i.zero, i.size, i.bytes)) = some (some (.string ⟨#[]⟩), 1, 16) := by kernel_rfl
theorem makeS {ops : Array Oper} {rest : List Oper} {o : Oper} {a : Act} {Q : Exit → Act → World → Prop} (w : World) (hg : o.guard = none) (l c : Operand) (hop : o.op = Op.makeSlice 96 l c) (base : Nat) (hbase : base ≤ w.heap.size) (n : Nat) (hl : a.eval l = .int .i64 n) (hc : a.eval c = .int .i64 n) (hn : n ≤ 1048576)
    (hK : ∀ w', w'.ownsRow base 9 1 (.slice (some ⟨w.heap.size, 0, none⟩) n n) n ((List.replicate n (⟨#[]⟩ : ByteArray)).map Value.string) → Below w.heap.size w w' → wpList Try.prog ops Q rest (a.put o.dst (.slice (some ⟨w.heap.size, 0, none⟩) n n)) w') :
    wpList Try.prog ops Q (o :: rest) a w := by
  obtain ⟨ii, hi, hz0, hz1, hz2⟩ := info_parts info_strb
  refine wpList_make_full w hg l c _ hop base 9 ii (.string ⟨#[]⟩) 1 Try.underlying96 hi hz0 hz1 .i64 .i64 _ _ n hl hc rfl rfl (by rw [hz2]; omega) (by unfold maxLen; omega) hbase ?_
  intro w1 ho1 hg1
  refine hK w1 ?_ (below_of_grown hg1 (Nat.le_refl _) (fun k hk => by cases hk))
  rw [Nat.mul_one] at ho1
  have := toList_madeCells_one (.string ⟨#[]⟩) n
  rw [show (Value.string ⟨#[]⟩).cells = #[.string ⟨#[]⟩] from rfl, this] at ho1
  simpa using ho1
theorem own_setS {w : World} {base e : Nat} {g n cap : Nat} {xs : List ByteArray} (h : w.ownsRow base e 1 (.slice (some ⟨g, 0, none⟩) n cap) n (xs.map Value.string)) (k : Nat) (x : ByteArray) :
    (w.setCell ⟨g, k, none⟩ (.string x)).ownsRow base e 1 (.slice (some ⟨g, 0, none⟩) n cap) n ((xs.set k x).map Value.string) := by
  have := (h.stored k (.string x)).1
  rwa [← List.map_set] at this
theorem own_getS {w : World} {base e : Nat} {g n cap : Nat} {xs : List ByteArray} (h : w.ownsRow base e 1 (.slice (some ⟨g, 0, none⟩) n cap) n (xs.map Value.string)) (hl : xs.length = n) {k : Nat} (hk : k < n) : w.cell? ⟨g, k, none⟩ = some (.string (xs.getD k ⟨#[]⟩)) := by
  rw [h.cellAt k (by omega)]; simp [List.getD, show k < xs.length by omega]
theorem l_toStringS (v : Value) (xs : List ByteArray) (w : World) (hn : xs.length ≤ 1048576) (hin : InS w v xs) :
    Calls Try.prog 130 #[v] w fun e w' => ∃ g, e = .returned (.slice (some ⟨g, 0, none⟩) xs.length xs.length) ∧ w'.ownsRow w.heap.size 9 1 (.slice (some ⟨g, 0, none⟩) xs.length xs.length) xs.length (sv xs) ∧ Below w.heap.size w w' := by
  obtain ⟨a, cap, rfl⟩ := inS_sl hin
  have HIN := Lib.hid hin
  clear hin
  go_enter Try.func130, Try.ntmps130
  go_wp2_with (at_make; refine makeS _ rfl _ _ rfl w.heap.size (Nat.le_refl _) xs.length rfl rfl hn ?_; intro w1 ho1 hb1)
  have HO := Lib.hid ho1
  clear ho1
  go_loopw [4] (fun i wr => Below w.heap.size w wr ∧ ∃ (k : Nat) (zs : List ByteArray), k ≤ xs.length ∧ i = .int .i64 k ∧ zs.length = xs.length ∧ wr.ownsRow w.heap.size 9 1 (.slice (some ⟨w.heap.size, 0, none⟩) xs.length xs.length) xs.length (zs.map (Value.string)) ∧ ∀ t, t < k → zs.getD t ⟨#[]⟩ = xs.getD t ⟨#[]⟩) (fun i _ => xs.length - (intOf i).toNat)
  case atStart => exact ⟨hb1, 0, _, by omega, rfl, by simp, HO.out, fun t ht => by omega⟩
  case round =>
    obtain ⟨hb2, k, zs, hk, rfl, hzl, hzs, hall⟩ := hrel
    have HA := Lib.hid hall
    clear hall
    by_cases hlt : k < xs.length
    · obtain ⟨b, off, rfl, hbl, hc0⟩ := inS_at (inS_below HIN.out hb2) hlt
      have hcz := own_getS hzs hzl hlt
      have hfz : wr.frozen? ⟨w.heap.size, k, none⟩ = false := hzs.frozenAt k
      have HST := Lib.hid (own_setS hzs k (xs.getD k ⟨#[]⟩))
      have HB2 := Lib.hid hb2
      have HZL := Lib.hid hzl
      have hin : ((k : Nat) : Int) < xs.length := by omega
      clear hzs hb2 hzl
      generalize hx : xs.getD k ⟨#[]⟩ = x at *
      have HX := Lib.hid hx
      clear hx
      go_wp2
      go_roundw
      case rel =>
        refine ⟨HB2.out.setCell (p := ⟨w.heap.size, k, none⟩) (Nat.le_refl _) _, k + 1, zs.set k x, by omega, by go_num, by rw [List.length_set]; exact HZL.out, HST.out, fun t ht => ?_⟩
        have hl := HZL.out
        by_cases he : t = k
        · subst he
          rw [HX.out, List.getD, List.getElem?_set_self (by omega)]; rfl
        · rw [List.getD, List.getElem?_set_ne (by omega)]; exact HA.out t (by omega)
      case measure => first | (simp [intOf]; done) | (simp [intOf]; omega)
    · have ek : k = xs.length := by omega
      have hfin : zs = xs := by
        apply List.ext_getElem hzl
        intro j h1 h2
        have := HA.out j (by omega)
        rwa [List.getD, List.getD, List.getElem?_eq_getElem h1, List.getElem?_eq_getElem h2] at this
      rw [hfin] at hzs
      clear ek hfin
      go_wp2
      go_ret
      exact ⟨_, rfl, hzs, hb2⟩
theorem info_rowS : (Try.prog.info? 96).map (fun i => (i.zero, i.size, i.bytes)) = some (some (.slice none 0 0), 1, 24) := by kernel_rfl
theorem l_toStringSS (v : Value) (t : Ts) (w : World) (hn : t.length ≤ 1048576) (hr : ∀ r ∈ t, r.length ≤ 1048576) (hin : InU w v t) :
    Calls Try.prog 81 #[v] w fun e w' => ∃ g, e = .returned (.slice (some ⟨g, 0, none⟩) t.length t.length) ∧ OwnU w.heap.size w' (.slice (some ⟨g, 0, none⟩) t.length t.length) t ∧ Below w.heap.size w w' := by
  obtain ⟨i0, hi, hz0, hz1, hz2⟩ := info_parts info_rowS
  obtain ⟨a, cap, rfl⟩ := inU_sl hin
  have HIN := Lib.hid hin
  have HR := Lib.hid hr
  clear hin hr
  go_enter Try.func81, Try.ntmps81
  go_wp2_with (at_make; refine wpList_make_full _ rfl _ _ 37 rfl w.heap.size 96 i0 (.slice none 0 0) 1 Try.underlying37 hi hz0 hz1 .i64 .i64 _ _ t.length rfl rfl rfl rfl (by rw [hz2]; omega) (by unfold maxLen; omega) (Nat.le_refl _) ?_; intro w1 ho1 hg1)
  have hb1 : Below w.heap.size w w1 := below_of_grown hg1 (Nat.le_refl _) (fun k hk => by cases hk)
  have hgl : w.heap.size < w1.heap.size := (ho1.lt _ rfl).2
  have HO := Lib.hid ho1
  clear ho1 hg1
  go_loopw [4] (fun i wr => Below w.heap.size w wr ∧ w.heap.size < wr.heap.size ∧ ∃ (k : Nat) (vs : List Value), k ≤ t.length ∧ i = .int .i64 k ∧ wr.ownsRow w.heap.size 96 1 (.slice (some ⟨w.heap.size, 0, none⟩) t.length t.length) t.length vs ∧ (∀ j, j < k → wr.ownsRow (w.heap.size + 1) 9 1 (vs.getD j undef) (uA t j).length (sv (uA t j))) ∧ ∀ i j, i < j → j < k → ∀ b, (vs.getD i undef).ownBlock = some b → (vs.getD j undef).ownBlock ≠ some b) (fun i _ => t.length - (intOf i).toNat)
  case atStart => exact ⟨hb1, hgl, 0, _, by omega, rfl, HO.out, fun t ht => by omega, fun i j _ h => by omega⟩
  case round =>
    obtain ⟨hb2, hgs, k, vs, hk, rfl, hvs, hrows, hdis⟩ := hrel
    have hvl : vs.length = t.length := by have := hvs.1; omega
    by_cases hlt : k < t.length
    · obtain ⟨b, off, r, c, rfl, hbl, hc0, hri⟩ := inU_at (inU_below HIN.out hb2) hlt
      have hin : ((k : Nat) : Int) < t.length := by omega
      have HT := Lib.hid (l_toStringS (.slice r (uA t k).length c) (uA t k) wr (HR.out _ (uA_mem hlt)) hri)
      have HVS := Lib.hid hvs
      have HROWS := Lib.hid hrows
      have HDIS := Lib.hid hdis
      have HB2 := Lib.hid hb2
      have HVL := Lib.hid hvl
      clear hri hvs hrows hdis hb2 hvl
      generalize hrk : uA t k = rk at *
      have HRK := Lib.hid hrk
      clear hrk
      go_wp2_with fail
      refine HT.out.mono ?_
      rintro e w2 ⟨g, rfl, ho2, hb3⟩
      have hvs2 := owns_after HVS.out hb3
      obtain ⟨z0, hz0'⟩ : ∃ z, vs[k]? = some z := ⟨_, List.getElem?_eq_getElem (by have := HVL.out; omega)⟩
      have hcell : w2.cell? ⟨w.heap.size, k, none⟩ = some z0 := by rw [hvs2.cellAt k (by omega)]; exact hz0'
      have hfro : w2.frozen? ⟨w.heap.size, k, none⟩ = false := hvs2.frozenAt k
      have HST := Lib.hid (hvs2.stored k (.slice (some ⟨g, 0, none⟩) rk.length rk.length)).1
      have HB3 := Lib.hid hb3
      have HO2 := Lib.hid ho2
      have hgw : wr.heap.size ≤ g := (ho2.lt g rfl).1
      clear hvs2 hz0' hb3 ho2 HT
      go_wp2
      go_roundw
      case rel =>
        have hl := HVL.out
        have hB := HB2.out.trans (HB3.out.mono HB2.out.size)
        have hs3 := HB3.out.size
        refine ⟨hB.setCell (p := ⟨w.heap.size, k, none⟩) (Nat.le_refl _) _, by simp; omega, k + 1, _, by omega, by go_num, HST.out, fun j hj => ?_, fun i j hij hj b0 => ?_⟩
        · by_cases he : j = k
          · subst he
            rw [List.getD, List.getElem?_set_self (by omega), HRK.out]
            exact ownsRow_setCell_below (owns_weak HO2.out (show w.heap.size + 1 ≤ wr.heap.size by omega)) (a := ⟨w.heap.size, j, none⟩) (by simp) _
          · rw [List.getD, List.getElem?_set_ne (by omega)]
            exact ownsRow_setCell_below (owns_after (HROWS.out j (by omega)) HB3.out) (a := ⟨w.heap.size, k, none⟩) (by simp) _
        · have hne : i ≠ k := by omega
          rw [List.getD, List.getElem?_set_ne (by omega)]
          by_cases he : j = k
          · subst he
            rw [List.getD, List.getElem?_set_self (by omega)]
            intro h1 h2
            have e2 : g = b0 := by injection h2
            have := ((HROWS.out i (by omega)).lt b0 h1).2
            omega
          · rw [List.getD, List.getElem?_set_ne (by omega)]
            exact HDIS.out i j hij (by omega) b0
      case measure => first | (simp [intOf]; done) | (simp [intOf]; omega)
    · have ek : k = t.length := by omega
      subst ek
      have HF : Hid (OwnU w.heap.size wr (.slice (some ⟨w.heap.size, 0, none⟩) t.length t.length) t) :=
        ⟨vs, hvl, hvs, fun j hj => owns_weak (hrows j hj) (by omega), hdis, fun i b hi h1 h2 => by
          have := ((hrows i hi).lt b h1).1
          have e2 : w.heap.size = b := by injection h2
          omega⟩
      clear hvs hrows hdis hvl
      go_wp2
      go_ret
      exact ⟨_, rfl, HF.out, hb2⟩
theorem ownU_st {base : Nat} {w : World} {v : Value} {t : Ts} (h : OwnU base w v t) {b o : Nat} (hb : b < base) (u : Value) : OwnU base (w.setCell ⟨b, o, none⟩ u) v t := by
  obtain ⟨vs, hl, h, hr, h2⟩ := h
  exact ⟨vs, hl, ownsRow_setCell_below h (a := ⟨b, o, none⟩) hb u, fun k hk => ownsRow_setCell_below (hr k hk) (a := ⟨b, o, none⟩) hb u, h2⟩
theorem ownU_weak {base base' : Nat} {w : World} {v : Value} {t : Ts} (h : OwnU base w v t) (hb : base' ≤ base) : OwnU base' w v t := by
  obtain ⟨vs, hl, h, hr, h2⟩ := h
  exact ⟨vs, hl, owns_weak h hb, fun k hk => owns_weak (hr k hk) hb, h2⟩
theorem l_toCoder (u1 u2 : Value) (a : Co) (w : World) (hs : coSm a) (h1 : InT w u1 a.nx) (h2 : InU w u2 a.ou) :
    Calls Try.prog 30 #[.agg #[.int .i64 a.st, .int .i64 a.sa, u1, u2]] w fun e w' => ∃ g1 g2, e = .returned (.agg #[.int .i64 a.st, .int .i64 a.sa, .slice (some ⟨g1, 0, none⟩) a.nx.length a.nx.length, .slice (some ⟨g2, 0, none⟩) a.ou.length a.ou.length]) ∧ OwnT w.heap.size w' (.slice (some ⟨g1, 0, none⟩) a.nx.length a.nx.length) a.nx ∧ OwnU w.heap.size w' (.slice (some ⟨g2, 0, none⟩) a.ou.length a.ou.length) a.ou ∧ g1 ≠ g2 ∧ Below w.heap.size w w' := by
  obtain ⟨⟨hs1, hs1'⟩, hs2, hs3, hs4⟩ := hs
  have H1 := Lib.hid (fun w h => l_toInt64SS u1 a.nx w hs1 hs1' h)
  have H2 := Lib.hid (fun w h => l_toStringSS u2 a.ou w hs2 hs3 h)
  have HI1 := Lib.hid h1
  have HI2 := Lib.hid h2
  clear h1 h2 hs1 hs1' hs2 hs3 hs4
  go_enter Try.func30, Try.ntmps30
  have hbA := (((Below.refl w.heap.size w).alloc (Nat.le_refl _) (.cells #[.int .i64 a.st, .int .i64 a.sa, u1, u2] 39)).alloc (by simp) (.cells #[.int .i64 0, .int .i64 0, .slice none 0 0, .slice none 0 0] 42)).alloc (by first | (simp; done) | (simp; omega)) (.cells #[.int .i64 a.st, .int .i64 a.sa, .slice none 0 0, .slice none 0 0] 42)
  have i1 := inT_below HI1.out hbA
  have HBA := Lib.hid hbA
  clear hbA
  go_wp2_with fail
  refine (H1.out _ i1).mono ?_
  rintro e w2 ⟨g1, rfl, ho1, hb1⟩
  have B1 := HBA.out.trans (hb1.mono HBA.out.size)
  have c3 : w2.cell? ⟨w.heap.size, 3, none⟩ = some u2 := by rw [hb1.cell (by first | (simp; done) | (simp; omega))]; simp [go_sem]
  have k0 : w2.cell? ⟨w.heap.size + 1 + 1, 0, none⟩ = some (.int .i64 a.st) := by rw [hb1.cell (by simp)]; simp [go_sem]
  have k1 : w2.cell? ⟨w.heap.size + 1 + 1, 1, none⟩ = some (.int .i64 a.sa) := by rw [hb1.cell (by simp)]; simp [go_sem]
  have k2 : w2.cell? ⟨w.heap.size + 1 + 1, 2, none⟩ = some (.slice none 0 0) := by rw [hb1.cell (by simp)]; simp [go_sem]
  have k3 : w2.cell? ⟨w.heap.size + 1 + 1, 3, none⟩ = some (.slice none 0 0) := by rw [hb1.cell (by simp)]; simp [go_sem]
  have z0 : w2.cell? ⟨w.heap.size + 1, 0, none⟩ = some (.int .i64 0) := by rw [hb1.cell (by first | (simp; done) | (simp; omega))]; simp [go_sem]
  have z1 : w2.cell? ⟨w.heap.size + 1, 1, none⟩ = some (.int .i64 0) := by rw [hb1.cell (by first | (simp; done) | (simp; omega))]; simp [go_sem]
  have z2 : w2.cell? ⟨w.heap.size + 1, 2, none⟩ = some (.slice none 0 0) := by rw [hb1.cell (by first | (simp; done) | (simp; omega))]; simp [go_sem]
  have z3 : w2.cell? ⟨w.heap.size + 1, 3, none⟩ = some (.slice none 0 0) := by rw [hb1.cell (by first | (simp; done) | (simp; omega))]; simp [go_sem]
  have f2 : w2.frozen? ⟨w.heap.size + 1 + 1, 2, none⟩ = false := by rw [hb1.frozen (by simp)]; simp [go_sem]
  have f3 : ∀ j, w2.frozen? ⟨w.heap.size + 1 + 1, j, none⟩ = false := fun j => by rw [hb1.frozen (by simp)]; simp [go_sem]
  have fz : ∀ j, w2.frozen? ⟨w.heap.size + 1, j, none⟩ = false := fun j => by rw [hb1.frozen (by first | (simp; done) | (simp; omega))]; simp [go_sem]
  have hg1 : w.heap.size + 1 + 1 < g1 := by
    obtain ⟨vs, _, h, _⟩ := ho1
    have := (h.lt g1 rfl).1
    simp at this; omega
  have HO1 := Lib.hid ho1
  have HB1 := Lib.hid B1
  have HK := Lib.hid k3
  have HZ : Hid (w2.cell? ⟨w.heap.size + 1, 0, none⟩ = some (.int .i64 0) ∧ w2.cell? ⟨w.heap.size + 1, 1, none⟩ = some (.int .i64 0) ∧ w2.cell? ⟨w.heap.size + 1, 2, none⟩ = some (.slice none 0 0) ∧ w2.cell? ⟨w.heap.size + 1, 3, none⟩ = some (.slice none 0 0)) := ⟨z0, z1, z2, z3⟩
  have HK01 : Hid (w2.cell? ⟨w.heap.size + 1 + 1, 0, none⟩ = some (.int .i64 a.st) ∧ w2.cell? ⟨w.heap.size + 1 + 1, 1, none⟩ = some (.int .i64 a.sa)) := ⟨k0, k1⟩
  have HFZ := Lib.hid fz
  have HF3 := Lib.hid f3
  have hw2 : w.heap.size + 1 + 1 < w2.heap.size := World.block_lt_of_cell? _ _ k0
  have HK2 := Lib.hid k2
  clear ho1 hb1 B1 i1 k0 k1 k3 z0 z1 z2 z3 fz f3
  have c3' : (w2.setCell ⟨w.heap.size + 1 + 1, 2, none⟩ (.slice (some ⟨g1, 0, none⟩) a.nx.length a.nx.length)).cell? ⟨w.heap.size, 3, none⟩ = some u2 := by
    rw [cell_st_ne _ (by show w.heap.size + 1 + 1 ≠ w.heap.size; omega)]; exact c3
  go_wp2_with fail
  refine (H2.out _ (inU_below HI2.out (HB1.out.setCell (p := ⟨w.heap.size + 1 + 1, 2, none⟩) (by first | (simp; done) | (simp; omega)) _))).mono ?_
  rintro e w3 ⟨g2, rfl, ho2, hb2⟩
  have e0 : w3.cell? ⟨w.heap.size + 1 + 1, 0, none⟩ = some (.int .i64 a.st) := by rw [hb2.cell (by first | (simp; done) | (simp; omega)), World.cell?_setCell_other (h := by simp)]; exact HK01.out.1
  have e1 : w3.cell? ⟨w.heap.size + 1 + 1, 1, none⟩ = some (.int .i64 a.sa) := by rw [hb2.cell (by first | (simp; done) | (simp; omega)), World.cell?_setCell_other (h := by simp)]; exact HK01.out.2
  have e2 : w3.cell? ⟨w.heap.size + 1 + 1, 2, none⟩ = some (.slice (some ⟨g1, 0, none⟩) a.nx.length a.nx.length) := by rw [hb2.cell (by first | (simp; done) | (simp; omega))]; exact cell_st_same _ HK2.out
  have e3 : w3.cell? ⟨w.heap.size + 1 + 1, 3, none⟩ = some (.slice none 0 0) := by rw [hb2.cell (by first | (simp; done) | (simp; omega)), World.cell?_setCell_other (h := by simp)]; exact HK.out
  have y : ∀ j v, w2.cell? ⟨w.heap.size + 1, j, none⟩ = some v → w3.cell? ⟨w.heap.size + 1, j, none⟩ = some v := fun j v h => by rw [hb2.cell (by first | (simp; done) | (simp; omega)), cell_st_ne _ (by show w.heap.size + 1 + 1 ≠ w.heap.size + 1; omega)]; exact h
  have y0 := y _ _ HZ.out.1
  have y1 := y _ _ HZ.out.2.1
  have y2 := y _ _ HZ.out.2.2.1
  have y3 := y _ _ HZ.out.2.2.2
  have f5 : w3.frozen? ⟨w.heap.size + 1 + 1, 3, none⟩ = false := by rw [hb2.frozen (by first | (simp; done) | (simp; omega))]; simpa using HF3.out 3
  have fy : ∀ j, w3.frozen? ⟨w.heap.size + 1, j, none⟩ = false := fun j => by rw [hb2.frozen (by first | (simp; done) | (simp; omega))]; simpa using HFZ.out j
  clear y
  have f30 := fy 0
  have f31 := fy 1
  have f32 := fy 2
  have f33 := fy 3
  have hg2 : g1 < g2 := by
    have a1 : g1 < w2.heap.size := by
      obtain ⟨vs, _, h, _⟩ := HO1.out
      exact (h.lt g1 rfl).2
    obtain ⟨vs, _, h, _⟩ := ho2
    have := (h.lt g2 rfl).1
    simp at this; omega
  have HO2 := Lib.hid ho2
  have HB2 := Lib.hid hb2
  clear ho2 hb2 c3 c3' k2 f2 fy
  have hne : ∀ j, (w3.setCell ⟨w.heap.size + 1 + 1, 3, none⟩ (.slice (some ⟨g2, 0, none⟩) a.ou.length a.ou.length)).cell? ⟨w.heap.size + 1, j, none⟩ = w3.cell? ⟨w.heap.size + 1, j, none⟩ := fun j => cell_st_ne _ (by show w.heap.size + 1 + 1 ≠ w.heap.size + 1; omega)
  have HP := Lib.hid (put4 (w := w3.setCell ⟨w.heap.size + 1 + 1, 3, none⟩ (.slice (some ⟨g2, 0, none⟩) a.ou.length a.ou.length)) (b := w.heap.size + 1) (.int .i64 a.st) (.int .i64 a.sa) (.slice (some ⟨g1, 0, none⟩) a.nx.length a.nx.length) (.slice (some ⟨g2, 0, none⟩) a.ou.length a.ou.length) (by rw [hne]; exact y0) (by rw [hne]; exact y1) (by rw [hne]; exact y2) (by rw [hne]; exact y3))
  clear hne
  go_wp2
  have hP := HP.out
  refine bodyPost_ret (v := .agg #[.int .i64 a.st, .int .i64 a.sa, .slice (some ⟨g1, 0, none⟩) a.nx.length a.nx.length, .slice (some ⟨g2, 0, none⟩) a.ou.length a.ou.length]) (by simp [results, Try.results30, go_sem, hP.1, hP.2.1, hP.2.2.1, hP.2.2.2]) rfl ⟨g1, g2, rfl, ?_, ?_, by omega, ?_⟩
  · have h9 := ownT_after (ownT_st HO1.out (b := w.heap.size + 1 + 1) (o := 2) (by simp) (.slice (some ⟨g1, 0, none⟩) a.nx.length a.nx.length)) HB2.out
    exact ownT_weak (ownT_st (ownT_st (ownT_st (ownT_st (ownT_st h9 (b := w.heap.size + 1 + 1) (by simp) _) (b := w.heap.size + 1) (by first | (simp; done) | (simp; omega)) _) (b := w.heap.size + 1) (by first | (simp; done) | (simp; omega)) _) (b := w.heap.size + 1) (by first | (simp; done) | (simp; omega)) _) (b := w.heap.size + 1) (by first | (simp; done) | (simp; omega)) _) (by first | (simp; done) | (simp; omega))
  · exact ownU_weak (ownU_st (ownU_st (ownU_st (ownU_st (ownU_st HO2.out (b := w.heap.size + 1 + 1) (by simpa using hw2) _) (b := w.heap.size + 1) (by simp; omega) _) (b := w.heap.size + 1) (by simp; omega) _) (b := w.heap.size + 1) (by simp; omega) _) (b := w.heap.size + 1) (by simp; omega) _) (by simp; omega)
  · have hB := (HB1.out.setCell (p := ⟨w.heap.size + 1 + 1, 2, none⟩) (by first | (simp; done) | (simp; omega)) (.slice (some ⟨g1, 0, none⟩) a.nx.length a.nx.length))
    exact (((((hB.trans (HB2.out.mono hB.size)).setCell (p := ⟨w.heap.size + 1 + 1, 3, none⟩) (by first | (simp; done) | (simp; omega)) _).setCell (p := ⟨w.heap.size + 1, 0, none⟩) (by first | (simp; done) | (simp; omega)) _).setCell (p := ⟨w.heap.size + 1, 1, none⟩) (by first | (simp; done) | (simp; omega)) _).setCell (p := ⟨w.heap.size + 1, 2, none⟩) (by first | (simp; done) | (simp; omega)) _).setCell (p := ⟨w.heap.size + 1, 3, none⟩) (by first | (simp; done) | (simp; omega)) _
theorem l_eqS (va vb : Value) (xs ys : List ByteArray) (w : World) (ha : InS w va xs) (hb : InS w vb ys) (hx : xs.length ≤ 1048576) (hy : ys.length ≤ 1048576) :
    Calls Try.prog 133 #[va, vb] w fun e w' => e = .returned (.bool (decide (xs = ys))) ∧ Qt w w' := by
  obtain ⟨a, cap, rfl⟩ := inS_sl ha
  obtain ⟨a1, cap1, rfl⟩ := inS_sl hb
  have HA := Lib.hid ha
  have HB := Lib.hid hb
  clear ha hb
  by_cases hlen : xs.length = ys.length
  · have hle : ((xs.length : Int) != ys.length) = false := by simp [hlen]
    have HLEN := Lib.hid hlen
    clear hlen
    go_enter Try.func133, Try.ntmps133
    go_wp2
    go_loopw [5] (fun i wr => Qt w wr ∧ ∃ k : Nat, k ≤ xs.length ∧ i = .int .i64 k ∧ ∀ t, t < k → xs.getD t ⟨#[]⟩ = ys.getD t ⟨#[]⟩) (fun i _ => xs.length - (intOf i).toNat)
    case atStart => exact ⟨Qt.refl _, 0, by omega, rfl, fun t ht => by omega⟩
    case round =>
      obtain ⟨hq, k, hk, rfl, hall⟩ := hrel
      have HALL := Lib.hid hall
      clear hall
      by_cases hlt : k < xs.length
      · have hbl : Below w.heap.size w wr := by obtain ⟨q0, rfl⟩ := hq; exact below_drewN (Below.refl _ _) _
        obtain ⟨g, off, rfl, hg, hx1⟩ := inS_at (inS_below HA.out hbl) hlt
        obtain ⟨g1, off1, rfl, hg1, hy1⟩ := inS_at (inS_below HB.out hbl) (show k < ys.length by have := HLEN.out; omega)
        have hin : ((k : Nat) : Int) < xs.length := by omega
        have hin2 : ((k : Nat) : Int) < ys.length := by have := HLEN.out; omega
        have HEQ : Hid (xs.getD k ⟨#[]⟩ = ys.getD k ⟨#[]⟩ → ∀ t, t < k + 1 → xs.getD t ⟨#[]⟩ = ys.getD t ⟨#[]⟩) := by
          intro e t ht
          by_cases he : t = k
          · subst he; exact e
          · exact HALL.out t (by omega)
        have HNE : Hid (¬ xs.getD k ⟨#[]⟩ = ys.getD k ⟨#[]⟩ → decide (xs = ys) = false) := by
          intro h
          rw [decide_eq_false_iff_not]
          rintro rfl
          exact h rfl
        clear hbl
        generalize xs.getD k ⟨#[]⟩ = x1 at *
        generalize ys.getD k ⟨#[]⟩ = y1 at *
        by_cases heq : x1 = y1
        · have HALL2 := Lib.hid (HEQ.out heq)
          subst heq
          go_wp2
          go_big_quiet (fail)
          go_wp2
          go_roundw
          case rel => exact ⟨hq.drewN _, k + 1, by omega, by go_num, HALL2.out⟩
          case measure => first | (simp [intOf]; done) | (simp [intOf]; omega)
        · have HF := Lib.hid (HNE.out heq)
          have hne0 : (x1.toList == y1.toList) = false := by
            rw [beq_eq_false_iff_ne, ne_eq, ByteArray.toList_eq, ByteArray.toList_eq, Array.toList_inj, ← ByteArray.ext_iff]
            exact heq
          clear heq
          go_wp2
          go_big_quiet (fail)
          go_wp2
          go_ret
          exact ⟨ret_bool HF.out.symm, hq.drewN _⟩
      · have ek : k = xs.length := by omega
        subst ek
        have HF : Hid (decide (xs = ys) = true) := by
          show _ = _
          rw [decide_eq_true_iff]
          apply List.ext_getElem HLEN.out
          intro j h1 h2
          have := HALL.out j h1
          rwa [List.getD, List.getD, List.getElem?_eq_getElem h1, List.getElem?_eq_getElem h2] at this
        have hk' : ¬ (xs.length : Int) < xs.length := by omega
        go_wp2
        go_ret
        exact ⟨ret_bool HF.out.symm, hq⟩
  · have hle : ((xs.length : Int) != ys.length) = true := by simp only [bne_iff_ne, ne_eq]; omega
    have HF : Hid (decide (xs = ys) = false) := by show _ = _; rw [decide_eq_false_iff_not]; rintro rfl; exact hlen rfl
    go_enter Try.func133, Try.ntmps133
    go_wp2
    go_ret
    exact ⟨ret_bool HF.out.symm, Qt.refl _⟩
theorem l_eqU (va vb : Value) (xs ys : Ts) (w : World) (ha : InU w va xs) (hb : InU w vb ys) (hx : xs.length ≤ 1048576) (hy : ys.length ≤ 1048576) (hxr : ∀ r ∈ xs, r.length ≤ 1048576) (hyr : ∀ r ∈ ys, r.length ≤ 1048576) :
    Calls Try.prog 86 #[va, vb] w fun e w' => e = .returned (.bool (decide (xs = ys))) ∧ Qt w w' := by
  obtain ⟨a, cap, rfl⟩ := inU_sl ha
  obtain ⟨a1, cap1, rfl⟩ := inU_sl hb
  have HA := Lib.hid ha
  have HB := Lib.hid hb
  have HXR := Lib.hid hxr
  have HYR := Lib.hid hyr
  clear ha hb hxr hyr
  skip
  by_cases hlen : xs.length = ys.length
  · have hle : ((xs.length : Int) != ys.length) = false := by simp [hlen]
    have HLEN := Lib.hid hlen
    clear hlen
    go_enter Try.func86, Try.ntmps86
    go_wp2
    go_loopw [5] (fun i wr => Qt w wr ∧ ∃ k : Nat, k ≤ xs.length ∧ i = .int .i64 k ∧ ∀ t, t < k → uA xs t = uA ys t) (fun i _ => xs.length - (intOf i).toNat)
    case atStart => exact ⟨Qt.refl _, 0, by omega, rfl, fun t ht => by omega⟩
    case round =>
      obtain ⟨hq, k, hk, rfl, hall⟩ := hrel
      have HALL := Lib.hid hall
      clear hall
      by_cases hlt : k < xs.length
      · have hbl : Below w.heap.size w wr := by obtain ⟨q0, rfl⟩ := hq; exact below_drewN (Below.refl _ _) _
        obtain ⟨g, off, r0, c0, rfl, hg, hx1, hi1⟩ := inU_at (inU_below HA.out hbl) hlt
        obtain ⟨g1, off1, r1, c1, rfl, hg1, hy1, hi2⟩ := inU_at (inU_below HB.out hbl) (show k < ys.length by have := HLEN.out; omega)
        have hin : ((k : Nat) : Int) < xs.length := by omega
        have hin2 : ((k : Nat) : Int) < ys.length := by have := HLEN.out; omega
        have HEQ : Hid (uA xs k = uA ys k → ∀ t, t < k + 1 → uA xs t = uA ys t) := by
          intro e t ht
          by_cases he : t = k
          · subst he; exact e
          · exact HALL.out t (by omega)
        have HNE : Hid (¬ uA xs k = uA ys k → decide (xs = ys) = false) := by
          intro h
          rw [decide_eq_false_iff_not]
          rintro rfl
          exact h rfl
        have hl1 := HXR.out _ (uA_mem hlt)
        have hl2 := HYR.out _ (uA_mem (show k < ys.length by have := HLEN.out; omega))
        clear hbl
        generalize uA xs k = x1 at *
        generalize uA ys k = y1 at *
        have HS : Hid (∀ q, Calls Try.prog 133 #[.slice r0 x1.length c0, .slice r1 y1.length c1] (wr.drewN q) fun e w' => e = .returned (.bool (decide (x1 = y1))) ∧ Qt (wr.drewN q) w') := fun q => by
          have e1 : InS (wr.drewN q) (.slice r0 x1.length c0) x1 := inS_below hi1 (below_drewN (Below.refl _ _) q)
          have e2 : InS (wr.drewN q) (.slice r1 y1.length c1) y1 := inS_below hi2 (below_drewN (Below.refl _ _) q)
          exact l_eqS _ _ _ _ _ e1 e2 hl1 hl2
        clear hi1 hi2
        by_cases heq : x1 = y1
        · have HALL2 := Lib.hid (HEQ.out heq)
          have hd : decide (x1 = y1) = true := by simp [heq]
          rw [hd] at HS
          clear heq hd
          go_wp2
          go_big_quiet ((go_at_call 133; exact Calls.quiet_of (HS.out _)))
          go_wp2
          go_roundw
          case rel => exact ⟨hq.drewN _, k + 1, by omega, by go_num, HALL2.out⟩
          case measure => first | (simp [intOf]; done) | (simp [intOf]; omega)
        · have HF := Lib.hid (HNE.out heq)
          have hd : decide (x1 = y1) = false := by simp [heq]
          rw [hd] at HS
          clear heq hd
          go_wp2
          go_big_quiet ((go_at_call 133; exact Calls.quiet_of (HS.out _)))
          go_wp2
          go_ret
          exact ⟨ret_bool HF.out.symm, hq.drewN _⟩
      · have ek : k = xs.length := by omega
        subst ek
        have HF : Hid (decide (xs = ys) = true) := by
          show _ = _
          rw [decide_eq_true_iff]
          apply List.ext_getElem HLEN.out
          intro j h1 h2
          have := HALL.out j h1
          rwa [uA, uA, List.getD, List.getD, List.getElem?_eq_getElem h1, List.getElem?_eq_getElem h2] at this
        have hk' : ¬ (xs.length : Int) < xs.length := by omega
        go_wp2
        go_ret
        exact ⟨ret_bool HF.out.symm, hq⟩
  · have hle : ((xs.length : Int) != ys.length) = true := by simp only [bne_iff_ne, ne_eq]; omega
    have HF : Hid (decide (xs = ys) = false) := by show _ = _; rw [decide_eq_false_iff_not]; rintro rfl; exact hlen rfl
    go_enter Try.func86, Try.ntmps86
    go_wp2
    go_ret
    exact ⟨ret_bool HF.out.symm, Qt.refl _⟩
theorem l_eqCoder (u1 u2 x1 x2 : Value) (a : Co) (w : World) (ha : coSm a) (h1 : InT w u1 a.nx) (h2 : InU w u2 a.ou) (h3 : InT w x1 a.nx) (h4 : InU w x2 a.ou) :
    Calls Try.prog 32 #[.agg #[.int .i64 a.st, .int .i64 a.sa, u1, u2], .agg #[.int .i64 a.st, .int .i64 a.sa, x1, x2]] w fun e w' => e = .returned (.bool true) ∧ Below w.heap.size w w' := by
  have hbx := ((Below.refl w.heap.size w).alloc (Nat.le_refl _) (.cells #[.int .i64 a.st, .int .i64 a.sa, u1, u2] 42)).alloc (by simp) (.cells #[.int .i64 a.st, .int .i64 a.sa, x1, x2] 42)
  have HI := Lib.hid (fun w h h' => l_eqT u1 x1 a.nx a.nx w h h' ha.1.1 ha.1.1 ha.1.2 ha.1.2)
  have HT := Lib.hid (fun w h h' => l_eqU u2 x2 a.ou a.ou w h h' ha.2.1 ha.2.1 ha.2.2.1 ha.2.2.1)
  have d1 : decide (a.nx = a.nx) = true := by simp
  have d2 : decide (a.ou = a.ou) = true := by simp
  rw [d1] at HI
  rw [d2] at HT
  have H1 := Lib.hid (inT_below h1 hbx)
  have H2 := Lib.hid (inU_below h2 hbx)
  have H3 := Lib.hid (inT_below h3 hbx)
  have H4 := Lib.hid (inU_below h4 hbx)
  have HBX := Lib.hid hbx
  clear ha h1 h2 h3 h4 hbx d1 d2
  have b1 : ∀ x : Int, (x != x) = false := fun x => by simp
  go_enter Try.func32, Try.ntmps32
  go_wp2_with fail
  refine (HI.out _ H1.out H3.out).mono ?_
  rintro e w2 ⟨rfl, q2, rfl⟩
  go_wp2_with fail
  refine (HT.out _ (inU_below H2.out (below_drewN (Below.refl _ _) q2)) (inU_below H4.out (below_drewN (Below.refl _ _) q2))).mono ?_
  rintro e w2 ⟨rfl, q3, rfl⟩
  go_wp2
  go_ret
  exact ⟨rfl, by first | exact below_drewN (below_drewN HBX.out _) _ | exact below_drewN HBX.out _⟩
end Go.Proofs.Ytefcdkgfabaffaa

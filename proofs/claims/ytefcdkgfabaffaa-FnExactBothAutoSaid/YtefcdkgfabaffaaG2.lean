/- Copies of a grammar, comparisons, marks. -/
import Derived.Test.YtefcdkgfabaffaaG1
namespace Go.Proofs.Ytefcdkgfabaffaa
open Go.ChangeShapes Go.WideShapes Go.RowKit
set_option linter.unusedVariables false
set_option linter.unusedSimpArgs false
set_option maxHeartbeats 4000000
set_option maxRecDepth 100000
theorem l_toRule (a : ByteArray) (x y : Int) (w : World) : Calls Try.prog 139 #[.agg #[.string a, .int .i64 x, .int .i64 y]] w fun e w' => e = .returned (.agg #[.string a, .int .i64 x, .int .i64 y]) ∧ Below w.heap.size w w' := by
  go_enter Try.func139, Try.ntmps139
  go_wp2
  exact bodyPost_ret (v := .agg #[.string a, .int .i64 x, .int .i64 y]) (by simp [results, Try.results139, go_sem]) rfl ⟨rfl, (by repeat (first | exact Below.refl _ _ | assumption | apply Below.drew | (refine Below.alloc ?_ (by first | (simp; done) | (simp; omega)) _) | (refine Below.setCell ?_ (by first | (simp; done) | (simp; omega)) _)))⟩
theorem info_rule : (Try.prog.info? 131).map (fun i => (i.zero, i.size, i.bytes)) = some (some (.agg #[.string ⟨#[]⟩, .int .i64 0, .int .i64 0]), 3, 32) := by kernel_rfl
theorem l_toRuleS (v : Value) (l : List Ru) (w : World) (hn : l.length ≤ 1048576) (hin : InRu w v l) :
    Calls Try.prog 99 #[v] w fun e w' => ∃ g cap, e = .returned (.slice (some ⟨g, 0, none⟩) l.length cap) ∧ w'.ownsRow w.heap.size 131 3 (.slice (some ⟨g, 0, none⟩) l.length cap) l.length (ruV l) ∧ Below w.heap.size w w' := by
  obtain ⟨i0, hi, hz0, hz1, hz2⟩ := info_parts info_rule
  obtain ⟨a, cap, rfl⟩ := inRu_sl hin
  have HIN := Lib.hid hin
  clear hin
  go_enter Try.func99, Try.ntmps99
  go_wp2_with (at_make; refine wpList_make_full _ rfl _ _ 57 rfl w.heap.size 131 i0 (.agg #[.string ⟨#[]⟩, .int .i64 0, .int .i64 0]) 3 Try.underlying57 hi hz0 hz1 .i64 .i64 _ _ l.length rfl rfl rfl rfl (by rw [hz2]; omega) (by unfold maxLen; omega) (Nat.le_refl _) ?_; intro w1 ho1 hg1)
  have hbel : Below w.heap.size w w1 := below_of_grown hg1 (Nat.le_refl _) (fun k hk => by cases hk)
  have HO := Lib.hid ho1
  clear ho1
  have hgl := (HO.out.lt _ rfl).2
  go_loopw [4] (fun i wr => Below w.heap.size w wr ∧ ∃ (k : Nat) (zs : List Value), k ≤ l.length ∧ i = .int .i64 k ∧ wr.ownsRow w.heap.size 131 3 (.slice (some ⟨w.heap.size, 0, none⟩) l.length l.length) l.length zs ∧ ∀ t, t < k → zs[t * 3]? = (ruV l)[t * 3]? ∧ zs[t * 3 + 1]? = (ruV l)[t * 3 + 1]? ∧ zs[t * 3 + 2]? = (ruV l)[t * 3 + 2]?) (fun i _ => l.length - (intOf i).toNat)
  case atStart => exact ⟨hbel, 0, _, by omega, rfl, HO.out, fun t ht => by omega⟩
  case round =>
    obtain ⟨hb2, k, zs, hk, rfl, hzs, hall⟩ := hrel
    have HA := Lib.hid hall
    have HZ := Lib.hid hzs.1
    clear hall
    by_cases hlt : k < l.length
    · obtain ⟨b, off, rfl, hbl, hc0, hc1, hc2⟩ := inRu_at (inRu_below HIN.out hb2) hlt
      have E := Lib.hid (ruV_at l k hlt)
      have HO2 := Lib.hid hzs
      have HB2 := Lib.hid hb2
      have hin : ((k : Nat) : Int) < l.length := by omega
      clear hzs
      generalize (ruA l k).1 = x1 at *
      generalize (ruA l k).2.1 = x2 at *
      generalize (ruA l k).2.2 = x3 at *
      go_wp2_with fail
      refine (l_toRule _ _ _ _).mono ?_
      rintro e w2 ⟨rfl, hb3⟩
      have hzs := owns_after HO2.out hb3
      obtain ⟨z0, hz0'⟩ : ∃ z, zs[k * 3]? = some z := ⟨_, List.getElem?_eq_getElem (by have := HZ.out; omega)⟩
      obtain ⟨z1, hz1'⟩ : ∃ z, zs[k * 3 + 1]? = some z := ⟨_, List.getElem?_eq_getElem (by have := HZ.out; omega)⟩
      obtain ⟨z2, hz2'⟩ : ∃ z, zs[k * 3 + 2]? = some z := ⟨_, List.getElem?_eq_getElem (by have := HZ.out; omega)⟩
      have hcell : w2.cell? ⟨w.heap.size, k * 3, none⟩ = some z0 := by rw [hzs.cellAt (k * 3) (by omega)]; exact hz0'
      have hcell2 : w2.cell? ⟨w.heap.size, k * 3 + 1, none⟩ = some z1 := by rw [hzs.cellAt (k * 3 + 1) (by omega)]; exact hz1'
      have hcell3 : w2.cell? ⟨w.heap.size, k * 3 + 2, none⟩ = some z2 := by rw [hzs.cellAt (k * 3 + 2) (by omega)]; exact hz2'
      have hfro : w2.frozen? ⟨w.heap.size, k * 3, none⟩ = false := hzs.frozenAt (k * 3)
      have hfro2 : w2.frozen? ⟨w.heap.size, k * 3 + 1, none⟩ = false := hzs.frozenAt (k * 3 + 1)
      have hfro3 : w2.frozen? ⟨w.heap.size, k * 3 + 2, none⟩ = false := hzs.frozenAt (k * 3 + 2)
      have hs1 := (hzs.stored (k * 3) (.string x1)).1
      have hs2 := (hs1.stored (k * 3 + 1) (.int .i64 x2)).1
      have HST := Lib.hid (hs2.stored (k * 3 + 2) (.int .i64 x3)).1
      have HB3 := Lib.hid (HB2.out.trans (hb3.mono HB2.out.size))
      clear hz0' hz1' hz2' hzs hs1 hs2 hb3 hc0 hc1 hc2 hb2
      go_wp2
      go_roundw
      case rel =>
        refine ⟨((HB3.out.setCell (p := ⟨w.heap.size, k * 3, none⟩) (Nat.le_refl _) _).setCell (p := ⟨w.heap.size, k * 3 + 1, none⟩) (Nat.le_refl _) _).setCell (p := ⟨w.heap.size, k * 3 + 2, none⟩) (Nat.le_refl _) _, k + 1, _, by omega, by go_num, HST.out, fun t ht => ?_⟩
        have hzl := HZ.out
        obtain ⟨E0, E1, E2⟩ := E.out
        by_cases he : t = k
        · subst he
          refine ⟨?_, ?_, ?_⟩
          · rw [List.getElem?_set_ne (by omega), List.getElem?_set_ne (by omega), List.getElem?_set_self (by omega), E0]
          · rw [List.getElem?_set_ne (by omega), List.getElem?_set_self (by simp; omega), E1]
          · rw [List.getElem?_set_self (by simp; omega), E2]
        · have := HA.out t (by omega)
          refine ⟨?_, ?_, ?_⟩
          · rw [List.getElem?_set_ne (by omega), List.getElem?_set_ne (by omega), List.getElem?_set_ne (by omega)]; exact this.1
          · rw [List.getElem?_set_ne (by omega), List.getElem?_set_ne (by omega), List.getElem?_set_ne (by omega)]; exact this.2.1
          · rw [List.getElem?_set_ne (by omega), List.getElem?_set_ne (by omega), List.getElem?_set_ne (by omega)]; exact this.2.2
      case measure => first | (simp [intOf]; done) | (simp [intOf]; omega)
    · have ek : k = l.length := by omega
      have hfin : zs = ruV l := by
        apply List.ext_getElem?
        intro j
        by_cases hj : j < l.length * 3
        · have := HA.out (j / 3) (by omega)
          by_cases he : j % 3 = 0
          · have e : j = j / 3 * 3 := by omega
            rw [e]; exact this.1
          · by_cases he1 : j % 3 = 1
            · have e : j = j / 3 * 3 + 1 := by omega
              rw [e]; exact this.2.1
            · have e : j = j / 3 * 3 + 2 := by omega
              rw [e]; exact this.2.2
        · rw [List.getElem?_eq_none (by have := HZ.out; omega), List.getElem?_eq_none (by rw [ruV_len]; omega)]
      rw [hfin] at hzs
      clear ek hfin
      go_wp2
      go_ret
      exact ⟨_, _, rfl, hzs, hb2⟩
theorem l_toGrammar (v : Value) (l : List Ru) (w : World) (hn : l.length ≤ 1048576) (hin : InRu w v l) :
    Calls Try.prog 41 #[.agg #[v]] w fun e w' => ∃ g cap, e = .returned (.agg #[.slice (some ⟨g, 0, none⟩) l.length cap]) ∧ w'.ownsRow w.heap.size 131 3 (.slice (some ⟨g, 0, none⟩) l.length cap) l.length (ruV l) ∧ Below w.heap.size w w' := by
  have H := Lib.hid (fun w (h : InRu w v l) => l_toRuleS v l w hn h)
  have HIN := Lib.hid hin
  clear hin hn
  go_enter Try.func41, Try.ntmps41
  go_wp2_with fail
  refine (H.out _ (inRu_from HIN.out (Nat.le_refl _) (by repeat (first | exact Below.refl _ _ | assumption | apply Below.drew | (refine Below.alloc ?_ (by first | (simp; done) | (simp; omega)) _) | (refine Below.setCell ?_ (by first | (simp; done) | (simp; omega)) _))))).mono ?_
  rintro e w1 ⟨g, cap, rfl, ho1, hb1⟩
  have c1 : w1.cell? ⟨w.heap.size + 1, 0, none⟩ = some (.slice none 0 0) := by rw [hb1.cell (by simp)]; simp [go_sem]
  have c2 : w1.cell? ⟨w.heap.size + 1 + 1, 0, none⟩ = some (.slice none 0 0) := by rw [hb1.cell (by simp)]; simp [go_sem]
  have f1 : w1.frozen? ⟨w.heap.size + 1, 0, none⟩ = false := by rw [hb1.frozen (by simp)]; simp [go_sem]
  have f2 : w1.frozen? ⟨w.heap.size + 1 + 1, 0, none⟩ = false := by rw [hb1.frozen (by simp)]; simp [go_sem]
  have hb2 : Below w.heap.size w w1 := below_box (below_box (below_box hb1))
  have ho2 := ownsRow_setCell_below (ownsRow_setCell_below ho1 (a := ⟨w.heap.size + 1 + 1, 0, none⟩) (by simp) (.slice (some ⟨g, 0, none⟩) l.length cap)) (a := ⟨w.heap.size + 1, 0, none⟩) (by simp) (.slice (some ⟨g, 0, none⟩) l.length cap)
  have ho3 := owns_weak ho2 (show w.heap.size ≤ _ by simp; omega)
  have hres : ((w1.setCell ⟨w.heap.size + 1 + 1, 0, none⟩ (.slice (some ⟨g, 0, none⟩) l.length cap)).setCell ⟨w.heap.size + 1, 0, none⟩ (.slice (some ⟨g, 0, none⟩) l.length cap)).cell? ⟨w.heap.size + 1, 0, none⟩ = some (.slice (some ⟨g, 0, none⟩) l.length cap) := by
    exact cell_st_same _ ((cell_st_ne _ (by show w.heap.size + 1 + 1 ≠ w.heap.size + 1; omega)).trans c1)
  have HO3 := Lib.hid ho3
  have HB2 := Lib.hid hb2
  clear hb1 ho1 ho2 ho3 hb2 H HIN
  go_wp2
  exact bodyPost_ret (v := .agg #[.slice (some ⟨g, 0, none⟩) l.length cap]) (by simp [results, Try.results41, go_sem, hres]) rfl ⟨g, cap, rfl, HO3.out, (HB2.out.setCell (by simp; omega) _).setCell (by simp) _⟩
theorem l_eqRule (a : ByteArray) (x y : Int) (w : World) : Calls Try.prog 142 #[.agg #[.string a, .int .i64 x, .int .i64 y], .agg #[.string a, .int .i64 x, .int .i64 y]] w fun e w' => e = .returned (.bool true) ∧ Below w.heap.size w w' := by
  go_enter Try.func142, Try.ntmps142
  go_wp2
  go_ret
  exact ⟨rfl, (by repeat (first | exact Below.refl _ _ | assumption | apply Below.drew | (refine Below.alloc ?_ (by simp) _) | (refine Below.setCell ?_ (by simp) _)))⟩
theorem l_eqRuleS (va vb : Value) (l : List Ru) (w : World) (ha : InRu w va l) (hb : InRu w vb l) (hx : l.length ≤ 1048576) :
    Calls Try.prog 101 #[va, vb] w fun e w' => e = .returned (.bool true) ∧ Below w.heap.size w w' := by
  obtain ⟨a, cap, rfl⟩ := inRu_sl ha
  obtain ⟨a1, cap1, rfl⟩ := inRu_sl hb
  have HA := Lib.hid ha
  have HB := Lib.hid hb
  clear ha hb
  go_enter Try.func101, Try.ntmps101
  go_wp2
  go_loopw [5] (fun i wr => Below w.heap.size w wr ∧ ∃ k : Nat, k ≤ l.length ∧ i = .int .i64 k) (fun i _ => l.length - (intOf i).toNat)
  case atStart => exact ⟨Below.refl _ _, 0, by omega, rfl⟩
  case round =>
    obtain ⟨hb, k, hk, rfl⟩ := hrel
    by_cases hlt : k < l.length
    · obtain ⟨g, off, rfl, hg, hx1, hx2, hx3⟩ := inRu_at (inRu_below HA.out hb) hlt
      obtain ⟨g1, off1, rfl, hg1, hy1, hy2, hy3⟩ := inRu_at (inRu_below HB.out hb) hlt
      have hin : ((k : Nat) : Int) < l.length := by omega
      generalize (ruA l k).1 = x1 at *
      generalize (ruA l k).2.1 = x2 at *
      generalize (ruA l k).2.2 = x3 at *
      go_wp2
      go_region_held3 (fun w' => w'.cell? ⟨g, off + k * 3, none⟩ = some (.string x1) ∧ w'.cell? ⟨g, off + k * 3 + 1, none⟩ = some (.int .i64 x2) ∧ w'.cell? ⟨g, off + k * 3 + 2, none⟩ = some (.int .i64 x3) ∧ w'.cell? ⟨g1, off1 + k * 3, none⟩ = some (.string x1) ∧ w'.cell? ⟨g1, off1 + k * 3 + 1, none⟩ = some (.int .i64 x2) ∧ w'.cell? ⟨g1, off1 + k * 3 + 2, none⟩ = some (.int .i64 x3)) (first | go_keep | (go_split_ands; refine ⟨?_, ?_, ?_, ?_, ?_, ?_⟩ <;> (rw [hb1.cell (by have := hb.size; simp; omega)]; assumption))) ((go_at_call 142; refine (l_eqRule _ _ _ _).mono ?_; rintro e w1 ⟨rfl, hb1⟩))
      have HB2 := Lib.hid (hb.drew.trans (hb1.mono (by have := hb.size; simp; omega)))
      clear hb hb1 hx1 hx2 hx3 hy1 hy2 hy3
      go_wp2
      go_roundw
      case rel => exact ⟨HB2.out, k + 1, by omega, by go_num⟩
      case measure => first | (simp [intOf]; done) | (simp [intOf]; omega)
    · go_wp2
      go_ret
      exact ⟨rfl, hb⟩
theorem l_eqGrammar (va vb : Value) (l : List Ru) (w : World) (ha : InRu w va l) (hb : InRu w vb l) (hx : l.length ≤ 1048576) :
    Calls Try.prog 44 #[.agg #[va], .agg #[vb]] w fun e w' => e = .returned (.bool true) ∧ Below w.heap.size w w' := by
  have H := Lib.hid (fun w (ha : InRu w va l) (hb : InRu w vb l) => l_eqRuleS va vb l w ha hb hx)
  have HA := Lib.hid ha
  have HB := Lib.hid hb
  clear ha hb hx
  go_enter Try.func44, Try.ntmps44
  go_wp2_with fail
  refine (H.out _ (inRu_from HA.out (Nat.le_refl _) (by repeat (first | exact Below.refl _ _ | assumption | apply Below.drew | (refine Below.alloc ?_ (by simp) _) | (refine Below.setCell ?_ (by simp) _)))) (inRu_from HB.out (Nat.le_refl _) (by repeat (first | exact Below.refl _ _ | assumption | apply Below.drew | (refine Below.alloc ?_ (by simp) _) | (refine Below.setCell ?_ (by simp) _))))).mono ?_
  rintro e w1 ⟨rfl, hb1⟩
  have hb2 := below_box (below_box hb1)
  clear hb1
  go_wp2
  go_ret
  exact ⟨rfl, hb2⟩
end Go.Proofs.Ytefcdkgfabaffaa

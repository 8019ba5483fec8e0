/- Marks on a grammar of the call's own, with what they leave there. -/
import Derived.Test.YtimfbnjgodbgoaaDoorTD
namespace Go.Proofs.YtimfbnjgodbgoaaDoor
open Go.ChangeShapes Go.WideShapes Go.RowKit
set_option linter.unusedVariables false
set_option linter.unusedSimpArgs false
set_option maxHeartbeats 2000000
set_option maxRecDepth 100000
def mkZ (k j : Nat) (zs : List Value) : Prop := ∀ q, q < j → zs[q * 3]? = some (.string (mt (k + 3 * q))) ∧ zs[q * 3 + 1]? = some (.int .i64 ((k + 3 * q + 1 : Nat) : Int)) ∧ zs[q * 3 + 2]? = some (.int .i64 ((k + 3 * q + 2 : Nat) : Int))
theorem mkZ_step {k j : Nat} {zs : List Value} (h : mkZ k j zs) (hl : j * 3 + 2 < zs.length) : mkZ k (j + 1) (((zs.set (j * 3) (.string (mt (k + 3 * j)))).set (j * 3 + 1) (.int .i64 ((k + 3 * j + 1 : Nat) : Int))).set (j * 3 + 2) (.int .i64 ((k + 3 * j + 1 + 1 : Nat) : Int))) := by
  intro q hq
  by_cases he : q = j
  · subst he
    refine ⟨?_, ?_, ?_⟩
    · rw [List.getElem?_set_ne (by omega), List.getElem?_set_ne (by omega), List.getElem?_set_self (by omega)]
    · rw [List.getElem?_set_ne (by omega), List.getElem?_set_self (by rw [List.length_set]; omega)]
    · rw [List.getElem?_set_self (by rw [List.length_set, List.length_set]; omega)]
  · obtain ⟨h1, h2, h3⟩ := h q (by omega)
    refine ⟨?_, ?_, ?_⟩
    · rw [List.getElem?_set_ne (by omega), List.getElem?_set_ne (by omega), List.getElem?_set_ne (by omega)]; exact h1
    · rw [List.getElem?_set_ne (by omega), List.getElem?_set_ne (by omega), List.getElem?_set_ne (by omega)]; exact h2
    · rw [List.getElem?_set_ne (by omega), List.getElem?_set_ne (by omega), List.getElem?_set_ne (by omega)]; exact h3
/-- rules of the call's own that bear the marks from k on -/
def MkG (w : World) (base : Nat) (v : Value) (n k : Nat) : Prop := ∃ zs, w.ownsRow base 42 3 v n zs ∧ mkZ k n zs
theorem MkG.after {w w' : World} {base : Nat} {v : Value} {n k : Nat} (h : MkG w base v n k) (hb : Below w.heap.size w w') : MkG w' base v n k := by
  obtain ⟨zs, h1, h2⟩ := h
  exact ⟨zs, owns_after h1 hb, h2⟩
theorem l_markRuleZ (v : Value) (n k : Nat) (ys : List Value) (base : Nat) (w : World) (hk1 : 1 ≤ k) (hk : k + 3 * n ≤ 1099511627776) (hown : w.ownsRow base 42 3 v n ys) :
    Calls Tryd.prog 30 #[v, .int .i64 k] w fun e w' => e = .returned (.int .i64 ((k + 3 * n : Nat) : Int)) ∧ w.grownBy w' v.ownBlock ∧ MkG w' base v n k := by
  rcases owns_cases3 hown with ⟨rfl, rfl, hnil⟩ | ⟨g, cap, rfl, -, hg, hc, hm, hyl⟩
  · go_enter Tryd.func30, Tryd.ntmps30
    go_wp2
    refine wp_loop_rounds 1 ?_
    rw [rounds_succ]
    go_wp2
    go_ret
    exact ⟨rfl, World.grownBy.refl _ _, ys, hown, fun q hq => by omega⟩
  · clear hyl
    have hm : n ≤ 1048576 * 1048576 := by omega
    go_enter Tryd.func30, Tryd.ntmps30
    go_wp2
    go_loopw [1, 5] (fun m i wr => w.grownBy wr (some g) ∧ ∃ j : Nat, j ≤ n ∧ i = .int .i64 j ∧ m = .int .i64 ((k + 3 * j : Nat) : Int) ∧ ∃ zs, wr.ownsRow base 42 3 (.slice (some ⟨g, 0, none⟩) n cap) n zs ∧ mkZ k j zs) (fun _ i _ => n - (intOf i).toNat)
    case atStart => exact ⟨World.grownBy.refl _ _, 0, by omega, rfl, rfl, ys, hown, fun q hq => by omega⟩
    case round =>
      obtain ⟨hgr, j, hj, rfl, rfl, zs, hzs, hmk⟩ := hrel
      clear hown
      have hzl : zs.length = n * 3 := hzs.1
      by_cases hlt : j < n
      · have HMK := Lib.hid (mkZ_step hmk (by omega))
        have HZ := Lib.hid hzl
        have HG := Lib.hid hgr
        have HO := Lib.hid hzs
        have hin : ((j : Nat) : Int) < n := by omega
        clear hzl hgr hzs hmk
        go_wp2_with fail
        refine (l_markText (k + 3 * j) _ (by omega) (by omega)).mono ?_
        rintro e w1 ⟨rfl, hb1⟩
        have hzs := owns_after HO.out hb1
        obtain ⟨z, hz⟩ : ∃ z, zs[j * 3]? = some z := ⟨_, List.getElem?_eq_getElem (by have := HZ.out; omega)⟩
        obtain ⟨z2, hz2⟩ : ∃ z, zs[j * 3 + 1]? = some z := ⟨_, List.getElem?_eq_getElem (by have := HZ.out; omega)⟩
        obtain ⟨z3, hz3⟩ : ∃ z, zs[j * 3 + 2]? = some z := ⟨_, List.getElem?_eq_getElem (by have := HZ.out; omega)⟩
        have hcell : w1.cell? ⟨g, j * 3, none⟩ = some z := by rw [hzs.cellAt (j * 3) (by omega)]; exact hz
        have hcell2 : w1.cell? ⟨g, j * 3 + 1, none⟩ = some z2 := by rw [hzs.cellAt (j * 3 + 1) (by omega)]; exact hz2
        have hcell3 : w1.cell? ⟨g, j * 3 + 2, none⟩ = some z3 := by rw [hzs.cellAt (j * 3 + 2) (by omega)]; exact hz3
        have hfro : w1.frozen? ⟨g, j * 3, none⟩ = false := hzs.frozenAt (j * 3)
        have hfro2 : w1.frozen? ⟨g, j * 3 + 1, none⟩ = false := hzs.frozenAt (j * 3 + 1)
        have hfro3 : w1.frozen? ⟨g, j * 3 + 2, none⟩ = false := hzs.frozenAt (j * 3 + 2)
        generalize hy : mt (k + 3 * j) = y at *
        have hs1 := (hzs.stored (j * 3) (.string y)).1
        have hs2 := (hs1.stored (j * 3 + 1) (.int .i64 ((k + 3 * j + 1 : Nat) : Int))).1
        have HST := Lib.hid ((hs2.stored (j * 3 + 2) (.int .i64 ((k + 3 * j + 1 + 1 : Nat) : Int))).1)
        have HB1 := Lib.hid hb1
        have HY := Lib.hid hy
        clear hz hz2 hz3 hzs hb1 hs1 hs2 hy
        go_wp2
        go_roundw
        case rel => exact ⟨grown_set (grown_set (grown_set (grown_bel HG.out HB1.out) _ _) _ _) _ _, j + 1, by omega, by go_num, by go_num, _, HST.out, HMK.out⟩
        case measure => first | (simp [intOf]; done) | (simp [intOf]; omega)
      · have ej : j = n := by omega
        subst ej
        go_wp2
        go_ret
        exact ⟨rfl, hgr, zs, hzs, hmk⟩
theorem l_heldRuleZ (v : Value) (n k : Nat) (base : Nat) (w : World) (hk1 : 1 ≤ k) (hk : k + 3 * n ≤ 1099511627776) (h : MkG w base v n k) :
    Calls Tryd.prog 31 #[v, .int .i64 k] w fun e w' => e = .returned (.int .i64 ((k + 3 * n : Nat) : Int)) ∧ Below w.heap.size w w' := by
  obtain ⟨zs, hown, hmk⟩ := h
  rcases owns_cases3 hown with ⟨rfl, rfl, hnil⟩ | ⟨g, cap, rfl, -, hg, hc, hm, hyl⟩
  · clear hnil
    go_enter Tryd.func31, Tryd.ntmps31
    go_wp2
    refine wp_loop_rounds 1 ?_
    rw [rounds_succ]
    go_wp2
    go_ret
    exact ⟨rfl, Below.refl _ _⟩
  · clear hyl
    unfold maxLen at hm
    have hcell : ∀ j, j < n → w.cell? ⟨g, j * 3, none⟩ = some (.string (mt (k + 3 * j))) ∧ w.cell? ⟨g, j * 3 + 1, none⟩ = some (.int .i64 ((k + 3 * j + 1 : Nat) : Int)) ∧ w.cell? ⟨g, j * 3 + 2, none⟩ = some (.int .i64 ((k + 3 * j + 2 : Nat) : Int)) := fun j hj => by
      obtain ⟨q1, q2, q3⟩ := hmk j hj
      rw [hown.cellAt (j * 3) (by omega), hown.cellAt (j * 3 + 1) (by omega), hown.cellAt (j * 3 + 2) (by omega)]
      exact ⟨q1, q2, q3⟩
    have HC := Lib.hid hcell
    clear hcell hown hmk
    go_enter Tryd.func31, Tryd.ntmps31
    go_wp2
    go_loopw [1, 5] (fun m i wr => Below w.heap.size w wr ∧ ∃ j : Nat, j ≤ n ∧ i = .int .i64 j ∧ m = .int .i64 ((k + 3 * j : Nat) : Int)) (fun _ i _ => n - (intOf i).toNat)
    case atStart => exact ⟨Below.refl _ _, 0, by omega, rfl, rfl⟩
    case round =>
      obtain ⟨hb, j, hj, rfl, rfl⟩ := hrel
      by_cases hlt : j < n
      · obtain ⟨hc1, hc2, hc3⟩ := HC.out j hlt
        rw [← hb.cell (p := ⟨g, j * 3, none⟩) hg] at hc1
        have HC3 : Hid (∀ w1, Below wr.heap.size wr w1 → w1.cell? ⟨g, j * 3 + 1, none⟩ = some (.int .i64 ((k + 3 * j + 1 : Nat) : Int)) ∧ w1.cell? ⟨g, j * 3 + 2, none⟩ = some (.int .i64 ((k + 3 * j + 2 : Nat) : Int))) := fun w1 h1 => by
          rw [h1.cell (p := ⟨g, j * 3 + 1, none⟩) (by have := hb.size; simp; omega), hb.cell (p := ⟨g, j * 3 + 1, none⟩) hg, h1.cell (p := ⟨g, j * 3 + 2, none⟩) (by have := hb.size; simp; omega), hb.cell (p := ⟨g, j * 3 + 2, none⟩) hg]; exact ⟨hc2, hc3⟩
        have hin : ((j : Nat) : Int) < n := by omega
        have hmt := fun w => l_markText (k + 3 * j) w (by omega) (by omega)
        generalize mt (k + 3 * j) = y at *
        have HMT := Lib.hid hmt
        clear hmt hc2 hc3
        go_wp2
        go_region_held3 (fun w' => w'.cell? ⟨g, j * 3, none⟩ = some (.string y)) (first | go_keep | (exact (hb1.cell (p := ⟨g, j * 3, none⟩) (by have := hb.size; simp; omega)).trans (by assumption))) ((go_at_call 43; refine (HMT.out _).mono ?_; rintro e w1 ⟨rfl, hb1⟩))
        have hb1' : Below wr.heap.size wr w1 := (Below.refl _ _).drew.trans hb1
        obtain ⟨hc4, hc5⟩ := HC3.out w1 hb1'
        have HB2 := Lib.hid (hb.trans (hb1'.mono hb.size))
        clear hb hb1 hb1' hc1
        go_wp2
        go_roundw
        case rel => exact ⟨HB2.out, j + 1, by omega, by go_num, by go_num⟩
        case measure => first | (simp [intOf]; done) | (simp [intOf]; omega)
      · have ej : j = n := by omega
        subst ej
        go_wp2
        go_ret
        exact ⟨rfl, hb⟩
theorem l_markGr (v : Value) (n : Nat) (ys : List Value) (base : Nat) (w : World) (hn : n ≤ 1048576) (hown : w.ownsRow base 42 3 v n ys) :
    Calls Tryd.prog 12 #[.agg #[v], .int .i64 1] w fun e w' => e = .returned (.int .i64 ((1 + 3 * n : Nat) : Int)) ∧ w.grownBy w' v.ownBlock ∧ MkG w' base v n 1 := by
  have hbx := owns_after hown ((Below.refl w.heap.size w).alloc (Nat.le_refl _) (.cells #[v] 29))
  have H := Lib.hid (l_markRuleZ v n 1 ys base _ (by omega) (by omega) hbx)
  have HG : Hid (w.grownBy (w.alloc (.cells #[v] 29)) v.ownBlock) := (World.grownBy_alloc w (.cells #[v] 29) none).but _
  rcases owns_cases3 hown with ⟨rfl, -, -⟩ | ⟨g, cap, rfl, -⟩
  all_goals
    clear hown hbx
    go_enter Tryd.func12, Tryd.ntmps12
    go_wp2_with fail
    refine H.out.mono ?_
    rintro e w1 ⟨rfl, hg1, hm⟩
    have HG2 := Lib.hid (HG.out.trans hg1)
    have HM := Lib.hid hm
    clear hg1 H HG hm
    go_wp2
    go_ret
    exact ⟨rfl, HG2.out, HM.out⟩
theorem l_heldGr (v : Value) (n : Nat) (base : Nat) (w : World) (hn : n ≤ 1048576) (h : MkG w base v n 1) :
    Calls Tryd.prog 13 #[.agg #[v], .int .i64 1] w fun e w' => e = .returned (.int .i64 ((1 + 3 * n : Nat) : Int)) ∧ Below w.heap.size w w' := by
  have H := Lib.hid (l_heldRuleZ v n 1 base _ (by omega) (by omega) (h.after ((Below.refl w.heap.size w).alloc (Nat.le_refl _) (.cells #[v] 29))))
  obtain ⟨zs, hown, -⟩ := h
  rcases owns_cases3 hown with ⟨rfl, -, -⟩ | ⟨g, cap, rfl, -⟩
  all_goals
    clear hown
    have hnn : ¬ ((1 + 3 * n : Nat) : Int) < 0 := by omega
    go_enter Tryd.func13, Tryd.ntmps13
    go_wp2_with fail
    refine H.out.mono ?_
    rintro e w1 ⟨rfl, hb1⟩
    have HB := Lib.hid (below_box hb1)
    clear hb1 H
    go_wp2
    go_ret
    exact ⟨rfl, HB.out⟩
end Go.Proofs.YtimfbnjgodbgoaaDoor

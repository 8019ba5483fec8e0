/- Marks of rules; the law of LengthsOf. -/
import Derived.Test.YtefcdkgfabaffaaG7
namespace Go.Proofs.Ytefcdkgfabaffaa
open Go.ChangeShapes Go.WideShapes Go.RowKit
set_option linter.unusedVariables false
set_option linter.unusedSimpArgs false
set_option maxHeartbeats 4000000
set_option maxRecDepth 100000
theorem l_markRuleS (g n cap k : Nat) (ys : List Value) (base : Nat) (w : World) (hk1 : 1 ≤ k) (hk : k + 3 * n ≤ 1099511627776) (hown : w.ownsRow base 131 3 (.slice (some ⟨g, 0, none⟩) n cap) n ys) :
    Calls Try.prog 102 #[.slice (some ⟨g, 0, none⟩) n cap, .int .i64 k] w fun e w' => e = .returned (.int .i64 ((k + 3 * n : Nat) : Int)) ∧ w.grownBy w' (some g) := by
  have hg := (hown.lt _ rfl).2
  have hm : n ≤ 1048576 * 1048576 := by omega
  go_enter Try.func102, Try.ntmps102
  go_wp2
  go_loopw [1, 5] (fun m i wr => w.grownBy wr (some g) ∧ ∃ j : Nat, j ≤ n ∧ i = .int .i64 j ∧ m = .int .i64 ((k + 3 * j : Nat) : Int) ∧ ∃ zs, wr.ownsRow base 131 3 (.slice (some ⟨g, 0, none⟩) n cap) n zs) (fun _ i _ => n - (intOf i).toNat)
  case atStart => exact ⟨World.grownBy.refl _ _, 0, by omega, rfl, rfl, ys, hown⟩
  case round =>
    obtain ⟨hgr, j, hj, rfl, rfl, zs, hzs⟩ := hrel
    clear hown
    have hzl : zs.length = n * 3 := hzs.1
    by_cases hlt : j < n
    · have HZ := Lib.hid hzl
      have HG := Lib.hid hgr
      have HO := Lib.hid hzs
      have hin : ((j : Nat) : Int) < n := by omega
      clear hzl hgr hzs
      go_wp2_with fail
      refine (l_markText (k + 3 * j) _ (by omega) (by omega)).mono ?_
      rintro e w1 ⟨rfl, hb1⟩
      have hzs := owns_after HO.out hb1
      obtain ⟨z, hz⟩ : ∃ z, zs[j * 3]? = some z := ⟨_, List.getElem?_eq_getElem (by have := HZ.out; omega)⟩
      obtain ⟨z2, hz2⟩ : ∃ z, zs[j * 3 + 1]? = some z := ⟨_, List.getElem?_eq_getElem (by have := HZ.out; omega)⟩
      obtain ⟨z3, hz3⟩ : ∃ z, zs[j * 3 + 2]? = some z := ⟨_, List.getElem?_eq_getElem (by have := HZ.out; omega)⟩
      have hcell : w1.cell? ⟨g, j * 3, none⟩ = some z := by rw [hzs.cellAt (j * 3) (by omega)]; exact hz
      have hcell2 : w1.cell? ⟨g, j * 3 + 1, none⟩ = some z2 := by rw [hzs.cellAt (j * 3 + 1) (by omega)]; exact hz2
      have hcell3 : w1.cell? ⟨g, j * 3 + 2, none⟩ = some z3 := by rw [hzs.cellAt (j * 3 + 2) (by omega)]; exact hz3
      have hfro : w1.frozen? ⟨g, j * 3, none⟩ = false := hzs.frozenAt (j * 3)
      have hfro2 : w1.frozen? ⟨g, j * 3 + 1, none⟩ = false := hzs.frozenAt (j * 3 + 1)
      have hfro3 : w1.frozen? ⟨g, j * 3 + 2, none⟩ = false := hzs.frozenAt (j * 3 + 2)
      generalize hy : mt (k + 3 * j) = y at *
      have hs1 := (hzs.stored (j * 3) (.string y)).1
      have hs2 := (hs1.stored (j * 3 + 1) (.int .i64 ((k + 3 * j + 1 : Nat) : Int))).1
      have HST := Lib.hid ((hs2.stored (j * 3 + 2) (.int .i64 ((k + 3 * j + 1 + 1 : Nat) : Int))).1)
      have HB1 := Lib.hid hb1
      have HY := Lib.hid hy
      clear hz hz2 hz3 hzs hb1 hs1 hs2 hy
      go_wp2
      go_roundw
      case rel => exact ⟨grown_set (grown_set (grown_set (grown_bel HG.out HB1.out) _ _) _ _) _ _, j + 1, by omega, by go_num, by go_num, _, HST.out⟩
      case measure => first | (simp [intOf]; done) | (simp [intOf]; omega)
    · have ej : j = n := by omega
      subst ej
      go_wp2
      go_ret
      exact ⟨rfl, hgr⟩
theorem l_markGrammar (g n cap : Nat) (ys : List Value) (base : Nat) (w : World) (hk : n ≤ 1048576) (hown : w.ownsRow base 131 3 (.slice (some ⟨g, 0, none⟩) n cap) n ys) :
    Calls Try.prog 45 #[.agg #[.slice (some ⟨g, 0, none⟩) n cap], .int .i64 1] w fun e w' => e = .returned (.int .i64 ((1 + 3 * n : Nat) : Int)) ∧ w.grownBy w' (some g) := by
  have hbx := owns_after hown ((Below.refl w.heap.size w).alloc (Nat.le_refl _) (.cells #[.slice (some ⟨g, 0, none⟩) n cap] 59))
  have H := Lib.hid (l_markRuleS g n cap 1 ys base _ (by omega) (by omega) hbx)
  clear hown hbx
  go_enter Try.func45, Try.ntmps45
  go_wp2_with fail
  refine H.out.mono ?_
  rintro e w1 ⟨rfl, hg1⟩
  have hg2 : w.grownBy w1 (some g) := (grown_bel (World.grownBy.refl w (some g)) ((Below.refl _ _).alloc (Nat.le_refl _) _)).trans hg1
  clear hg1 H
  go_wp2
  go_ret
  exact ⟨rfl, hg2⟩
end Go.Proofs.Ytefcdkgfabaffaa

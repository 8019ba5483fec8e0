/- Slices of runs that a call owns: eqRunS, markRunS, heldRunS. -/
import Derived.Test.YtdighfjoechbkaaS1
namespace Go.Proofs.Ytdighfjoechbkaa
open Go.ChangeShapes Go.WideShapes Go.RowKit
set_option linter.unusedVariables false
set_option linter.unusedSimpArgs false
set_option maxHeartbeats 4000000
set_option maxRecDepth 100000
/-- the cells of runs -/
def rnV (l : List (ByteArray × Int)) : List Value := l.flatMap fun r => [.string r.1, .int .i64 r.2]
theorem rnV_len : ∀ l, (rnV l).length = l.length * 2
  | [] => rfl
  | a :: l => by
    have := rnV_len l
    simp [rnV] at *; omega
theorem rnV_0 : ∀ (l : List (ByteArray × Int)) (k : Nat), k < l.length → (rnV l)[k * 2]? = some (.string (l.getD k (⟨#[]⟩, 0)).1)
  | [], k, h => by simp at h
  | a :: l, 0, h => rfl
  | a :: l, k + 1, h => by
    have := rnV_0 l k (by simpa using h)
    simp only [rnV, List.flatMap_cons] at *
    rw [show (k + 1) * 2 = k * 2 + 1 + 1 by omega]
    simpa using this
theorem rnV_1 : ∀ (l : List (ByteArray × Int)) (k : Nat), k < l.length → (rnV l)[k * 2 + 1]? = some (.int .i64 (l.getD k (⟨#[]⟩, 0)).2)
  | [], k, h => by simp at h
  | a :: l, 0, h => rfl
  | a :: l, k + 1, h => by
    have := rnV_1 l k (by simpa using h)
    simp only [rnV, List.flatMap_cons] at *
    rw [show (k + 1) * 2 + 1 = k * 2 + 1 + 1 + 1 by omega]
    simpa using this
theorem owns_cases2 {w : World} {base e size : Nat} {v : Value} {n : Nat} {xs : List Value} (h : w.ownsRow base e size v n xs) : (v = .slice none 0 0 ∧ n = 0 ∧ xs = []) ∨ ∃ g cap, v = .slice (some ⟨g, 0, none⟩) n cap ∧ base ≤ g ∧ g < w.heap.size ∧ n ≤ cap ∧ cap ≤ maxLen ∧ xs.length = n * size := by
  have hl := h.lt
  obtain ⟨h1, h2⟩ := h
  rcases h2 with ⟨rfl, rfl⟩ | ⟨g, cap, cur, rfl, hb, hh, hn, hm, _, _⟩
  · left; exact ⟨rfl, rfl, List.eq_nil_of_length_eq_zero (by simpa using h1)⟩
  · right
    exact ⟨g, cap, rfl, hb, (hl g rfl).2, hn, hm, h1⟩
theorem l_eqRun (a : ByteArray) (x : Int) (w : World) : Calls Try.prog 67 #[.agg #[.string a, .int .i64 x], .agg #[.string a, .int .i64 x]] w fun e w' => e = .returned (.bool true) ∧ Below w.heap.size w w' := by
  go_enter Try.func67, Try.ntmps67
  go_wp2
  go_ret
  exact ⟨rfl, (by repeat (first | exact Below.refl _ _ | assumption | apply Below.drew | (refine Below.alloc ?_ (by simp) _) | (refine Below.setCell ?_ (by simp) _)))⟩
theorem l_eqRunS (va vb : Value) (xs : List (ByteArray × Int)) (ba bb : Nat) (w : World) (ha : w.ownsRow ba 66 2 va xs.length (rnV xs)) (hb : w.ownsRow bb 66 2 vb xs.length (rnV xs)) (hx : xs.length ≤ 1099511627776) :
    Calls Try.prog 34 #[va, vb] w fun e w' => e = .returned (.bool true) ∧ Below w.heap.size w w' := by
  rcases owns_cases2 ha with ⟨rfl, h0, hnil⟩ | ⟨g, cap, rfl, -, hg, hc, hm, -⟩
  · rcases owns_cases2 hb with ⟨rfl, h1, hnil1⟩ | ⟨g1, cap1, rfl, -, hg1, hc1, hm1, -⟩
    · clear ha hb h0 h1 hnil hnil1 hx
      go_enter Try.func34, Try.ntmps34
      go_wp2
      refine wp_loop_rounds 1 ?_
      rw [rounds_succ]
      go_wp2
      go_ret
      exact ⟨rfl, Below.refl _ _⟩
    · clear ha hb hnil hx
      rw [h0]
      clear h0
      go_enter Try.func34, Try.ntmps34
      go_wp2
      refine wp_loop_rounds 1 ?_
      rw [rounds_succ]
      go_wp2
      go_ret
      exact ⟨rfl, Below.refl _ _⟩
  · rcases owns_cases2 hb with ⟨rfl, h1, hnil1⟩ | ⟨g1, cap1, rfl, -, hg1, hc1, hm1, -⟩
    · clear ha hb hnil1 hx
      rw [h1]
      clear h1
      go_enter Try.func34, Try.ntmps34
      go_wp2
      refine wp_loop_rounds 1 ?_
      rw [rounds_succ]
      go_wp2
      go_ret
      exact ⟨rfl, Below.refl _ _⟩
    · have hca : ∀ j, j < xs.length → w.cell? ⟨g, j * 2, none⟩ = some (.string (xs.getD j (⟨#[]⟩, 0)).1) ∧ w.cell? ⟨g, j * 2 + 1, none⟩ = some (.int .i64 (xs.getD j (⟨#[]⟩, 0)).2) := fun j hj => by
        rw [ha.cellAt (j * 2) (by omega), ha.cellAt (j * 2 + 1) (by omega), rnV_0 _ _ hj, rnV_1 _ _ hj]; exact ⟨rfl, rfl⟩
      have hcb : ∀ j, j < xs.length → w.cell? ⟨g1, j * 2, none⟩ = some (.string (xs.getD j (⟨#[]⟩, 0)).1) ∧ w.cell? ⟨g1, j * 2 + 1, none⟩ = some (.int .i64 (xs.getD j (⟨#[]⟩, 0)).2) := fun j hj => by
        rw [hb.cellAt (j * 2) (by omega), hb.cellAt (j * 2 + 1) (by omega), rnV_0 _ _ hj, rnV_1 _ _ hj]; exact ⟨rfl, rfl⟩
      clear ha hb
      have HCA := Lib.hid hca
      have HCB := Lib.hid hcb
      clear hca hcb
      go_enter Try.func34, Try.ntmps34
      go_wp2
      go_loopw [5] (fun i wr => Below w.heap.size w wr ∧ ∃ k : Nat, k ≤ xs.length ∧ i = .int .i64 k) (fun i _ => xs.length - (intOf i).toNat)
      case atStart => exact ⟨Below.refl _ _, 0, by omega, rfl⟩
      case round =>
        obtain ⟨hb, k, hk, rfl⟩ := hrel
        by_cases hlt : k < xs.length
        · obtain ⟨hx1, hx2⟩ := HCA.out k hlt
          obtain ⟨hy1, hy2⟩ := HCB.out k hlt
          rw [← hb.cell (p := ⟨g, k * 2, none⟩) hg] at hx1
          rw [← hb.cell (p := ⟨g, k * 2 + 1, none⟩) hg] at hx2
          rw [← hb.cell (p := ⟨g1, k * 2, none⟩) hg1] at hy1
          rw [← hb.cell (p := ⟨g1, k * 2 + 1, none⟩) hg1] at hy2
          have hin : ((k : Nat) : Int) < xs.length := by omega
          generalize (xs.getD k (⟨#[]⟩, 0)).1 = x1 at *
          generalize (xs.getD k (⟨#[]⟩, 0)).2 = x2 at *
          go_wp2
          go_region_held3 (fun w' => w'.cell? ⟨g, k * 2, none⟩ = some (.string x1) ∧ w'.cell? ⟨g, k * 2 + 1, none⟩ = some (.int .i64 x2) ∧ w'.cell? ⟨g1, k * 2, none⟩ = some (.string x1) ∧ w'.cell? ⟨g1, k * 2 + 1, none⟩ = some (.int .i64 x2)) (first | go_keep | (go_split_ands; refine ⟨?_, ?_, ?_, ?_⟩ <;> (rw [hb1.cell (by have := hb.size; simp; omega)]; assumption))) ((go_at_call 67; refine (l_eqRun _ _ _).mono ?_; rintro e w1 ⟨rfl, hb1⟩))
          have HB2 := Lib.hid (hb.drew.trans (hb1.mono (by have := hb.size; simp; omega)))
          clear hb hb1 hx1 hx2 hy1 hy2
          go_wp2
          go_roundw
          case rel => exact ⟨HB2.out, k + 1, by omega, by go_num⟩
          case measure => first | (simp [intOf]; done) | (simp [intOf]; omega)
        · go_wp2
          go_ret
          exact ⟨rfl, hb⟩
/-- the marks from k on, as runs -/
def mkr (k n : Nat) : List (ByteArray × Int) := (List.range n).map fun i => (mt (k + 2 * i), ((k + 2 * i + 1 : Nat) : Int))
theorem mkr_get (k n t : Nat) (h : t < n) : (mkr k n).getD t (⟨#[]⟩, 0) = (mt (k + 2 * t), ((k + 2 * t + 1 : Nat) : Int)) := by
  simp [mkr, List.getD, h]
theorem mkr_len (k n : Nat) : (mkr k n).length = n := by simp [mkr]
theorem mkr_of {k n : Nat} {ys : List Value} (hl : ys.length = n * 2) (h : ∀ j, j < n → ys[j * 2]? = some (.string (mt (k + 2 * j))) ∧ ys[j * 2 + 1]? = some (.int .i64 ((k + 2 * j + 1 : Nat) : Int))) : ys = rnV (mkr k n) := by
  apply List.ext_getElem?
  intro j
  by_cases hj : j < n * 2
  · have hd : j / 2 < n := by omega
    have hm := mkr_get k n (j / 2) hd
    by_cases he : j % 2 = 0
    · have e : j = j / 2 * 2 := by omega
      rw [e, (h (j / 2) hd).1, rnV_0 _ _ (by rw [mkr_len]; exact hd), hm]
    · have e : j = j / 2 * 2 + 1 := by omega
      rw [e, (h (j / 2) hd).2, rnV_1 _ _ (by rw [mkr_len]; exact hd), hm]
  · rw [List.getElem?_eq_none (by omega), List.getElem?_eq_none (by rw [rnV_len, mkr_len]; omega)]
theorem l_markRunS (v : Value) (n k : Nat) (ys : List Value) (base : Nat) (w : World) (hk1 : 1 ≤ k) (hk : k + 2 * n ≤ 1099511627776) (hown : w.ownsRow base 66 2 v n ys) :
    Calls Try.prog 35 #[v, .int .i64 k] w fun e w' => e = .returned (.int .i64 ((k + 2 * n : Nat) : Int)) ∧ w'.ownsRow base 66 2 v n (rnV (mkr k n)) ∧ w.grownBy w' v.ownBlock := by
  rcases owns_cases2 hown with ⟨rfl, rfl, rfl⟩ | ⟨g, cap, rfl, -, hg, hc, hm, hyl⟩
  · go_enter Try.func35, Try.ntmps35
    go_wp2
    refine wp_loop_rounds 1 ?_
    rw [rounds_succ]
    go_wp2
    go_ret
    exact ⟨rfl, hown, World.grownBy.refl _ _⟩
  · show Calls _ _ _ _ fun e w' => e = .returned (.int .i64 ((k + 2 * n : Nat) : Int)) ∧ w'.ownsRow base 66 2 (.slice (some ⟨g, 0, none⟩) n cap) n (rnV (mkr k n)) ∧ w.grownBy w' (some g)
    clear hyl
    unfold maxLen at hm
    go_enter Try.func35, Try.ntmps35
    go_wp2
    go_loopw [1, 5] (fun m i wr => w.grownBy wr (some g) ∧ ∃ j : Nat, j ≤ n ∧ i = .int .i64 j ∧ m = .int .i64 ((k + 2 * j : Nat) : Int) ∧ ∃ zs, wr.ownsRow base 66 2 (.slice (some ⟨g, 0, none⟩) n cap) n zs ∧ ∀ t, t < j → zs[t * 2]? = some (.string (mt (k + 2 * t))) ∧ zs[t * 2 + 1]? = some (.int .i64 ((k + 2 * t + 1 : Nat) : Int))) (fun _ i _ => n - (intOf i).toNat)
    case atStart => exact ⟨World.grownBy.refl _ _, 0, by omega, rfl, rfl, ys, hown, fun t ht => by omega⟩
    case round =>
      obtain ⟨hgr, j, hj, rfl, rfl, zs, hzs, hall⟩ := hrel
      have HA := Lib.hid hall
      clear hall hown
      have hzl : zs.length = n * 2 := hzs.1
      by_cases hlt : j < n
      · have HZ := Lib.hid hzl
        have HG := Lib.hid hgr
        have HO := Lib.hid hzs
        have hin : ((j : Nat) : Int) < n := by omega
        clear hzl hgr hzs
        go_wp2_with fail
        refine (l_markText (k + 2 * j) _ (by omega) (by omega)).mono ?_
        rintro e w1 ⟨rfl, hb1⟩
        have hzs := owns_after HO.out hb1
        obtain ⟨z, hz⟩ : ∃ z, zs[j * 2]? = some z := ⟨_, List.getElem?_eq_getElem (by have := HZ.out; omega)⟩
        obtain ⟨z2, hz2⟩ : ∃ z, zs[j * 2 + 1]? = some z := ⟨_, List.getElem?_eq_getElem (by have := HZ.out; omega)⟩
        have hcell : w1.cell? ⟨g, j * 2, none⟩ = some z := by rw [hzs.cellAt (j * 2) (by omega)]; exact hz
        have hfro : w1.frozen? ⟨g, j * 2, none⟩ = false := hzs.frozenAt (j * 2)
        have hfro2 : w1.frozen? ⟨g, j * 2 + 1, none⟩ = false := hzs.frozenAt (j * 2 + 1)
        generalize hy : mt (k + 2 * j) = y at *
        have hs1 := (hzs.stored (j * 2) (.string y)).1
        have hcell2 : (w1.setCell ⟨g, j * 2, none⟩ (.string y)).cell? ⟨g, j * 2 + 1, none⟩ = some z2 := by
          rw [hs1.cellAt (j * 2 + 1) (by omega), List.getElem?_set_ne (by omega)]; exact hz2
        have HST := Lib.hid ((hs1.stored (j * 2 + 1) (.int .i64 ((k + 2 * j + 1 : Nat) : Int))).1)
        have HB1 := Lib.hid hb1
        have HY := Lib.hid hy
        clear hz hz2 hzs hb1 hs1 hy
        go_wp2
        go_roundw
        case rel =>
          refine ⟨grown_set (grown_set (grown_below HG.out HB1.out) _ _) _ _, j + 1, by omega, by go_num, by go_num, _, HST.out, fun t ht => ?_⟩
          have hzl := HZ.out
          by_cases he : t = j
          · subst he
            refine ⟨?_, ?_⟩
            · rw [List.getElem?_set_ne (by omega), List.getElem?_set_self (by omega), HY.out]
            · rw [List.getElem?_set_self (by simp; omega)]
          · rw [List.getElem?_set_ne (by omega), List.getElem?_set_ne (by omega), List.getElem?_set_ne (by omega), List.getElem?_set_ne (by omega)]
            exact HA.out t (by omega)
        case measure => first | (simp [intOf]; done) | (simp [intOf]; omega)
      · have ej : j = n := by omega
        subst ej
        have hfin := mkr_of hzl HA.out
        have HF := Lib.hid hfin
        clear hfin
        go_wp2
        go_ret
        exact ⟨rfl, by rw [← HF.out]; exact hzs, hgr⟩
theorem l_heldRunS (v : Value) (n k : Nat) (base : Nat) (w : World) (hk1 : 1 ≤ k) (hk : k + 2 * n ≤ 1099511627776) (hown : w.ownsRow base 66 2 v n (rnV (mkr k n))) :
    Calls Try.prog 36 #[v, .int .i64 k] w fun e w' => e = .returned (.int .i64 ((k + 2 * n : Nat) : Int)) ∧ Below w.heap.size w w' := by
  rcases owns_cases2 hown with ⟨rfl, rfl, hnil⟩ | ⟨g, cap, rfl, -, hg, hc, hm, hyl⟩
  · clear hnil
    go_enter Try.func36, Try.ntmps36
    go_wp2
    refine wp_loop_rounds 1 ?_
    rw [rounds_succ]
    go_wp2
    go_ret
    exact ⟨rfl, Below.refl _ _⟩
  · clear hyl
    unfold maxLen at hm
    have hcell : ∀ j, j < n → w.cell? ⟨g, j * 2, none⟩ = some (.string (mt (k + 2 * j))) ∧ w.cell? ⟨g, j * 2 + 1, none⟩ = some (.int .i64 ((k + 2 * j + 1 : Nat) : Int)) := fun j hj => by
      rw [hown.cellAt (j * 2) (by omega), hown.cellAt (j * 2 + 1) (by omega), rnV_0 _ _ (by rw [mkr_len]; exact hj), rnV_1 _ _ (by rw [mkr_len]; exact hj), mkr_get k n j hj]
      exact ⟨rfl, rfl⟩
    have HC := Lib.hid hcell
    clear hcell hown
    go_enter Try.func36, Try.ntmps36
    go_wp2
    go_loopw [1, 5] (fun m i wr => Below w.heap.size w wr ∧ ∃ j : Nat, j ≤ n ∧ i = .int .i64 j ∧ m = .int .i64 ((k + 2 * j : Nat) : Int)) (fun _ i _ => n - (intOf i).toNat)
    case atStart => exact ⟨Below.refl _ _, 0, by omega, rfl, rfl⟩
    case round =>
      obtain ⟨hb, j, hj, rfl, rfl⟩ := hrel
      by_cases hlt : j < n
      · obtain ⟨hc1, hc2⟩ := HC.out j hlt
        rw [← hb.cell (p := ⟨g, j * 2, none⟩) hg] at hc1
        have hc3 : ∀ w1, Below wr.heap.size wr w1 → w1.cell? ⟨g, j * 2 + 1, none⟩ = some (.int .i64 ((k + 2 * j + 1 : Nat) : Int)) := fun w1 h1 => by
          rw [h1.cell (p := ⟨g, j * 2 + 1, none⟩) (by have := hb.size; simp; omega), hb.cell (p := ⟨g, j * 2 + 1, none⟩) hg]; exact hc2
        have HC3 := Lib.hid hc3
        have hin : ((j : Nat) : Int) < n := by omega
        have hmt := fun w => l_markText (k + 2 * j) w (by omega) (by omega)
        generalize mt (k + 2 * j) = y at *
        have HMT := Lib.hid hmt
        clear hmt hc2 hc3
        go_wp2
        go_region_held3 (fun w' => w'.cell? ⟨g, j * 2, none⟩ = some (.string y)) (first | go_keep | (exact (hb1.cell (p := ⟨g, j * 2, none⟩) (by have := hb.size; simp; omega)).trans (by assumption))) ((go_at_call 65; refine (HMT.out _).mono ?_; rintro e w1 ⟨rfl, hb1⟩))
        have hb1' : Below wr.heap.size wr w1 := (Below.refl _ _).drew.trans hb1
        have hc4 := HC3.out w1 hb1'
        have HB2 := Lib.hid (hb.trans (hb1'.mono hb.size))
        clear hb hb1 hb1' hc1
        go_wp2
        go_roundw
        case rel => exact ⟨HB2.out, j + 1, by omega, by go_num, by go_num⟩
        case measure => first | (simp [intOf]; done) | (simp [intOf]; omega)
      · have ej : j = n := by omega
        subst ej
        go_wp2
        go_ret
        exact ⟨rfl, hb⟩
theorem l_markR1 (v : Value) (n : Nat) (ys : List Value) (base : Nat) (w : World) (hk : n ≤ 1099511627) (hown : w.ownsRow base 66 2 v n ys) :
    Calls Try.prog 35 #[v, .int .i64 1] w fun e w' => e = .returned (.int .i64 ((1 + 2 * n : Nat) : Int)) ∧ w'.ownsRow base 66 2 v n (rnV (mkr 1 n)) ∧ w.grownBy w' v.ownBlock :=
  l_markRunS v n 1 ys base w (by omega) (by omega) hown
theorem l_heldR1 (v : Value) (n : Nat) (base : Nat) (w : World) (hk : n ≤ 1099511627) (hown : w.ownsRow base 66 2 v n (rnV (mkr 1 n))) :
    Calls Try.prog 36 #[v, .int .i64 1] w fun e w' => e = .returned (.int .i64 ((1 + 2 * n : Nat) : Int)) ∧ Below w.heap.size w w' :=
  l_heldRunS v n 1 base w (by omega) (by omega) hown
end Go.Proofs.Ytdighfjoechbkaa

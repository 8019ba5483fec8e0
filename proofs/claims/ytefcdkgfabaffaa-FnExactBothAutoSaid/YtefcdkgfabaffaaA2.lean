/- Slices of int64 that a call owns: eqInt64S, markInt64S, heldInt64S. -/
import Derived.Test.YtefcdkgfabaffaaA1
namespace Go.Proofs.Ytefcdkgfabaffaa
open Go.ChangeShapes Go.WideShapes Go.RowKit
set_option linter.unusedVariables false
set_option linter.unusedSimpArgs false
set_option maxHeartbeats 2000000
set_option maxRecDepth 100000

theorem owns_cases {w : World} {base e : Nat} {v : Value} {n : Nat} {xs : List Value} (h : w.ownsRow base e 1 v n xs) : (v = .slice none 0 0 ∧ n = 0 ∧ xs = []) ∨ ∃ g cap, v = .slice (some ⟨g, 0, none⟩) n cap ∧ base ≤ g ∧ g < w.heap.size ∧ n ≤ cap ∧ cap ≤ maxLen ∧ xs.length = n := by
  have hl := h.lt
  obtain ⟨h1, h2⟩ := h
  rcases h2 with ⟨rfl, rfl⟩ | ⟨g, cap, cur, rfl, hb, hh, hn, hm, _, _⟩
  · left; exact ⟨rfl, rfl, List.eq_nil_of_length_eq_zero (by simpa using h1)⟩
  · right
    exact ⟨g, cap, rfl, hb, (hl g rfl).2, hn, hm, by simpa using h1⟩
/-- what is owned stays owned where nothing below the end of memory turns -/
theorem owns_below {w w' : World} {base e size : Nat} {v : Value} {n : Nat} {xs : List Value} (h : w.ownsRow base e size v n xs) {B : Nat} (hb : Below B w w') (hB : ∀ k, v.ownBlock = some k → k < B) : w'.ownsRow base e size v n xs := by
  obtain ⟨h1, h2⟩ := h
  refine ⟨h1, ?_⟩
  rcases h2 with h2 | ⟨g, cap, cur, rfl, hg, hh, r⟩
  · exact .inl h2
  · exact .inr ⟨g, cap, cur, rfl, hg, by rw [hb.block g (hB g rfl)]; exact hh, r⟩
theorem owns_after {w w' : World} {base e size : Nat} {v : Value} {n : Nat} {xs : List Value} (h : w.ownsRow base e size v n xs) (hb : Below w.heap.size w w') : w'.ownsRow base e size v n xs :=
  owns_below h hb fun k hk => (h.lt k hk).2
theorem owns_qt {w w' : World} {base e size : Nat} {v : Value} {n : Nat} {xs : List Value} (h : w.ownsRow base e size v n xs) (hb : Qt w w') : w'.ownsRow base e size v n xs := by
  obtain ⟨q, rfl⟩ := hb
  exact ownsRow_drewN h q
theorem owns_weak {w : World} {base base' e size : Nat} {v : Value} {n : Nat} {xs : List Value} (h : w.ownsRow base e size v n xs) (hb : base' ≤ base) : w.ownsRow base' e size v n xs := by
  obtain ⟨h1, h2⟩ := h
  refine ⟨h1, ?_⟩
  rcases h2 with h2 | ⟨g, cap, cur, rfl, hg, r⟩
  · exact .inl h2
  · exact .inr ⟨g, cap, cur, rfl, by omega, r⟩
theorem qt_size {w w' : World} (h : Qt w w') : w'.heap.size = w.heap.size := by
  obtain ⟨q, rfl⟩ := h; simp

theorem qt_dd (w : World) (q r : Nat) : Qt w ((w.drewN q).drewN r) := ⟨q + r, by simp⟩
theorem int_ne {a b : Int} (h : ¬ a = b) : (a != b) = true := by simpa using h
theorem l_eqInt64S (va vb : Value) (xs ys : List Int) (ba bb : Nat) (w : World) (ha : w.ownsRow ba 2 1 va xs.length (xs.map (Value.int .i64))) (hb : w.ownsRow bb 2 1 vb ys.length (ys.map (Value.int .i64))) (hx : xs.length ≤ 1099511627776) (hy : ys.length ≤ 1099511627776) :
    Calls Try.prog 60 #[va, vb] w fun e w' => e = .returned (.bool (decide (xs = ys))) ∧ Qt w w' := by
  by_cases hl : xs.length = ys.length
  · rcases owns_cases ha with ⟨rfl, h0, hnil⟩ | ⟨g, cap, rfl, -, hg, hc, hm, -⟩
    · rcases owns_cases hb with ⟨rfl, h1, hnil1⟩ | ⟨g1, cap1, rfl, -, hg1, hc1, hm1, -⟩
      · have hfin : xs = ys := by rw [List.eq_nil_of_length_eq_zero h0, List.eq_nil_of_length_eq_zero h1]
        have HF := Lib.hid hfin
        clear hfin ha hb hl h0 h1 hnil hnil1 hx hy
        go_enter Try.func60, Try.ntmps60
        go_wp2
        refine wp_loop_rounds 1 ?_
        rw [rounds_succ]
        go_wp2
        go_ret
        exact ⟨ret_bool (by simp [HF.out]), Qt.refl _⟩
      · have h1 : ys.length = 0 := by omega
        have hfin : xs = ys := by rw [List.eq_nil_of_length_eq_zero h0, List.eq_nil_of_length_eq_zero h1]
        have HF := Lib.hid hfin
        clear hfin ha hb hl hnil hx hy h0
        rw [h1]
        clear h1
        go_enter Try.func60, Try.ntmps60
        go_wp2
        refine wp_loop_rounds 1 ?_
        rw [rounds_succ]
        go_wp2
        go_ret
        exact ⟨ret_bool (by simp [HF.out]), Qt.refl _⟩
    · rcases owns_cases hb with ⟨rfl, h1, hnil1⟩ | ⟨g1, cap1, rfl, -, hg1, hc1, hm1, -⟩
      · have h0 : xs.length = 0 := by omega
        have hfin : xs = ys := by rw [List.eq_nil_of_length_eq_zero h0, List.eq_nil_of_length_eq_zero h1]
        have HF := Lib.hid hfin
        clear hfin ha hb hl hnil1 hx hy h1
        rw [h0]
        clear h0
        go_enter Try.func60, Try.ntmps60
        go_wp2
        refine wp_loop_rounds 1 ?_
        rw [rounds_succ]
        go_wp2
        go_ret
        exact ⟨ret_bool (by simp [HF.out]), Qt.refl _⟩
      · have HL := Lib.hid hl
        have hca : ∀ j, j < xs.length → w.cell? ⟨g, j, none⟩ = some (.int .i64 (xs.getD j 0)) := fun j hj => by
          rw [ha.cellAt j (by omega)]; simp [List.getElem?_map, List.getD, hj]
        have hcb : ∀ j, j < xs.length → w.cell? ⟨g1, j, none⟩ = some (.int .i64 (ys.getD j 0)) := fun j hj => by
          rw [hb.cellAt j (by omega)]; simp [List.getElem?_map, List.getD, show j < ys.length by omega]
        rw [← hl]
        clear ha hb hl hy
        have HCA := Lib.hid hca
        have HCB := Lib.hid hcb
        clear hca hcb
        go_enter Try.func60, Try.ntmps60
        go_wp2
        go_loopw [5] (fun i wr => Qt w wr ∧ ∃ k : Nat, k ≤ xs.length ∧ i = .int .i64 k ∧ xs.take k = ys.take k) (fun i _ => xs.length - (intOf i).toNat)
        case atStart => exact ⟨Qt.refl _, 0, by omega, rfl, rfl⟩
        case round =>
          obtain ⟨⟨q, rfl⟩, k, hk, rfl, heq⟩ := hrel
          have HE := Lib.hid heq
          clear heq
          by_cases hlt : k < xs.length
          · have hcx := HCA.out k hlt
            have hcy := HCB.out k hlt
            have hin : ((k : Nat) : Int) < xs.length := by omega
            by_cases hv : xs.getD k 0 = ys.getD k 0
            · have HN : Hid (xs.take (k + 1) = ys.take (k + 1)) := by
                show _ = _
                have hy : k < ys.length := by have := HL.out; omega
                rw [List.take_succ_eq_append_getElem hlt, List.take_succ_eq_append_getElem hy, HE.out]
                simp [List.getD, hlt, hy] at hv
                rw [hv]
              rw [← hv] at hcy
              clear hv
              generalize xs.getD k 0 = x at *
              go_wp2
              go_quiet (fail)
              go_wp2
              go_roundw
              case rel => exact ⟨(by first | exact Qt.refl _ | exact ⟨_, rfl⟩ | exact qt_dd _ _ _ | assumption), k + 1, by omega, by go_num, HN.out⟩
              case measure => simp [intOf]; omega
            · have HF : Hid (¬ xs = ys) := fun h => hv (by rw [h])
              have hne := int_ne hv
              clear hv
              generalize xs.getD k 0 = x at *
              generalize ys.getD k 0 = y at *
              go_wp2
              go_quiet (fail)
              go_wp2
              go_ret
              exact ⟨ret_bool (by simp [HF.out]), (by first | exact Qt.refl _ | exact ⟨_, rfl⟩ | exact qt_dd _ _ _ | assumption)⟩
          · have HF : Hid (xs = ys) := by
              show _ = _
              have h := HE.out
              rwa [List.take_of_length_le (by omega), List.take_of_length_le (by have := HL.out; omega)] at h
            go_wp2
            go_ret
            exact ⟨ret_bool (by simp [HF.out]), ⟨_, rfl⟩⟩
  · have HF : Hid (¬ xs = ys) := fun h => hl (by rw [h])
    have hb1 : ((xs.length : Int) != (ys.length : Int)) = true := by simp; omega
    rcases owns_cases ha with ⟨rfl, h0, hnil⟩ | ⟨g, cap, rfl, -, hg, hc, hm, -⟩
    · rcases owns_cases hb with ⟨rfl, h1, hnil1⟩ | ⟨g1, cap1, rfl, -, hg1, hc1, hm1, -⟩
      · omega
      · rw [h0] at hb1
        clear h0 hl hnil ha hb
        go_enter Try.func60, Try.ntmps60
        go_wp2
        go_ret
        exact ⟨ret_bool (by simp [HF.out]), Qt.refl _⟩
    · rcases owns_cases hb with ⟨rfl, h1, hnil1⟩ | ⟨g1, cap1, rfl, -, hg1, hc1, hm1, -⟩
      · rw [h1] at hb1
        clear h1 hl hnil1 ha hb
        go_enter Try.func60, Try.ntmps60
        go_wp2
        go_ret
        exact ⟨ret_bool (by simp [HF.out]), Qt.refl _⟩
      · clear hl ha hb
        go_enter Try.func60, Try.ntmps60
        go_wp2
        go_ret
        exact ⟨ret_bool (by simp [HF.out]), Qt.refl _⟩
theorem grown_set {w w' : World} {g : Nat} (h : w.grownBy w' (some g)) (j : Nat) (u : Value) : w.grownBy (w'.setCell ⟨g, j, none⟩ u) (some g) :=
  ⟨h.os, h.tape, h.output, by have := h.size; simpa [World.setCell] using this, fun k hk hne => by
    rw [Below.heap_setCell _ _ _ _ (fun e => hne (by simp [e]))]; exact h.block k hk hne⟩
theorem grown_drewN {w w' : World} {r : Option Nat} (h : w.grownBy w' r) (q : Nat) : w.grownBy (w'.drewN q) r :=
  ⟨h.os, h.tape, h.output, h.size, h.block⟩
/-- the marks from k on -/
def mks (k n : Nat) : List Int := (List.range n).map fun i => ((k + i : Nat) : Int)
theorem mks_len (k n : Nat) : (mks k n).length = n := by simp [mks]
theorem mks_of {k n : Nat} {ys : List Value} (hl : ys.length = n) (h : ∀ j, j < n → ys[j]? = some (.int .i64 ((k + j : Nat) : Int))) : ys = (mks k n).map (Value.int .i64) := by
  apply List.ext_getElem?
  intro j
  by_cases hj : j < n
  · rw [h j hj]; simp [mks, hj]
  · rw [List.getElem?_eq_none (by omega), List.getElem?_eq_none (by simp [mks]; omega)]
theorem l_markInt64S (v : Value) (n k : Nat) (ys : List Value) (base : Nat) (w : World) (hk : k + n ≤ 1099511627776) (hown : w.ownsRow base 2 1 v n ys) :
    Calls Try.prog 61 #[v, .int .i64 k] w fun e w' => e = .returned (.int .i64 ((k + n : Nat) : Int)) ∧ w'.ownsRow base 2 1 v n ((mks k n).map (Value.int .i64)) ∧ w.grownBy w' v.ownBlock := by
  rcases owns_cases hown with ⟨rfl, rfl, rfl⟩ | ⟨g, cap, rfl, -, hg, hc, hm, hyl⟩
  · go_enter Try.func61, Try.ntmps61
    go_wp2
    refine wp_loop_rounds 1 ?_
    rw [rounds_succ]
    go_wp2
    go_ret
    exact ⟨rfl, hown, World.grownBy.refl _ _⟩
  · show Calls _ _ _ _ fun e w' => e = .returned (.int .i64 ((k + n : Nat) : Int)) ∧ w'.ownsRow base 2 1 (.slice (some ⟨g, 0, none⟩) n cap) n ((mks k n).map (Value.int .i64)) ∧ w.grownBy w' (some g)
    clear hyl
    unfold maxLen at hm
    go_enter Try.func61, Try.ntmps61
    go_wp2
    go_loopw [1, 5] (fun m i wr => w.grownBy wr (some g) ∧ ∃ j : Nat, j ≤ n ∧ i = .int .i64 j ∧ m = .int .i64 ((k + j : Nat) : Int) ∧ ∃ zs, wr.ownsRow base 2 1 (.slice (some ⟨g, 0, none⟩) n cap) n zs ∧ ∀ t, t < j → zs[t]? = some (.int .i64 ((k + t : Nat) : Int))) (fun _ i _ => n - (intOf i).toNat)
    case atStart => exact ⟨World.grownBy.refl _ _, 0, by omega, rfl, rfl, ys, hown, fun t ht => by omega⟩
    case round =>
      obtain ⟨hgr, j, hj, rfl, rfl, zs, hzs, hall⟩ := hrel
      have HA := Lib.hid hall
      clear hall hown
      have hzl : zs.length = n := by have := hzs.1; omega
      by_cases hlt : j < n
      · obtain ⟨z, hz⟩ : ∃ z, zs[j]? = some z := ⟨_, List.getElem?_eq_getElem (by omega)⟩
        have hcell : wr.cell? ⟨g, j, none⟩ = some z := by rw [hzs.cellAt j (by omega)]; exact hz
        have hfro : wr.frozen? ⟨g, j, none⟩ = false := hzs.frozenAt j
        have HST := Lib.hid (hzs.stored j (.int .i64 ((k + j : Nat) : Int)))
        have HZ := Lib.hid hzl
        have HG := Lib.hid hgr
        have hin : ((j : Nat) : Int) < n := by omega
        clear hzl hgr hzs hz
        go_wp2
        go_roundw
        case rel =>
          refine ⟨grown_set HG.out _ _, j + 1, by omega, by go_num, by go_num, _, HST.out.1, fun t ht => ?_⟩
          have := HZ.out
          by_cases he : t = j
          · subst he; rw [List.getElem?_set_self (by omega)]
          · rw [List.getElem?_set_ne (by omega)]; exact HA.out t (by omega)
        case measure => simp [intOf]; omega
      · have ej : j = n := by omega
        subst ej
        have hfin := mks_of hzl HA.out
        have HF := Lib.hid hfin
        clear hfin
        go_wp2
        go_ret
        exact ⟨rfl, by rw [← HF.out]; exact hzs, hgr⟩
theorem l_heldInt64S (v : Value) (n k : Nat) (base : Nat) (w : World) (hk : k + n ≤ 1099511627776) (hown : w.ownsRow base 2 1 v n ((mks k n).map (Value.int .i64))) :
    Calls Try.prog 62 #[v, .int .i64 k] w fun e w' => e = .returned (.int .i64 ((k + n : Nat) : Int)) ∧ w = w' := by
  rcases owns_cases hown with ⟨rfl, rfl, hnil⟩ | ⟨g, cap, rfl, -, hg, hc, hm, hyl⟩
  · clear hnil
    go_enter Try.func62, Try.ntmps62
    go_wp2
    refine wp_loop_rounds 1 ?_
    rw [rounds_succ]
    go_wp2
    go_ret
    exact ⟨rfl, rfl⟩
  · clear hyl
    unfold maxLen at hm
    have hcell : ∀ j, j < n → w.cell? ⟨g, j, none⟩ = some (.int .i64 ((k + j : Nat) : Int)) := fun j hj => by
      rw [hown.cellAt j (by omega)]; simp [mks, hj]
    have HC := Lib.hid hcell
    clear hcell hown
    go_enter Try.func62, Try.ntmps62
    go_wp2
    go_loop [1, 5] (fun m i => ∃ j : Nat, j ≤ n ∧ i = .int .i64 j ∧ m = .int .i64 ((k + j : Nat) : Int)) (fun _ i => n - (intOf i).toNat)
    case atStart => exact ⟨0, by omega, rfl, rfl⟩
    case round =>
      obtain ⟨j, hj, rfl, rfl⟩ := hrel
      by_cases hlt : j < n
      · have hc1 := HC.out j hlt
        have hin : ((j : Nat) : Int) < n := by omega
        go_wp2
        go_round
        case rel => exact ⟨j + 1, by omega, by go_num, by go_num⟩
        case measure => simp [intOf]; omega
      · have ej : j = n := by omega
        subst ej
        go_wp2
        go_ret
        exact ⟨rfl, rfl⟩
end Go.Proofs.Ytefcdkgfabaffaa

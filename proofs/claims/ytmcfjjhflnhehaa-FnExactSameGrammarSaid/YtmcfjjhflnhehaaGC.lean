/- SameGrammar, of the program and of the reference, and its law. -/
import Derived.Test.YtmcfjjhflnhehaaGB
import Derived.Laws.StructEq
namespace Go.Proofs.Ytmcfjjhflnhehaa
open Go.ChangeShapes Go.WideShapes Go.RowKit
set_option linter.unusedVariables false
set_option linter.unusedSimpArgs false
set_option maxHeartbeats 2000000
set_option maxRecDepth 100000
theorem inRu_drew {w : World} {v : Value} {l : List Ru} (h : InRu w v l) : InRu w.drew v l := inRu_below h (Below.drew (Below.refl _ _))
theorem ru_all {l m : List Ru} (hlen : l.length = m.length) (h : ∀ t, t < l.length → ruA l t = ruA m t) : l = m := by
  apply List.ext_getElem hlen
  intro t h1 h2
  have := h t h1
  rwa [ruA, ruA, List.getD, List.getD, List.getElem?_eq_getElem h1, List.getElem?_eq_getElem h2] at this
theorem ru_eqIn (x1 y1 : ByteArray) (x2 x3 y2 y3 : Int) (r : Bool) (hr : r = decide (x1 = y1 ∧ x2 = y2 ∧ x3 = y3)) (w : World) : (Op.equalIn 10000 52 (.agg #[.string x1, .int .i64 x2, .int .i64 x3]) (.agg #[.string y1, .int .i64 y2, .int .i64 y3])).run Try.prog w = .ok r w := by
  subst hr
  have hp : Try.prog.stoodInHeld 52 = false := by kernel_rfl
  have hu := Try.underlying52
  have h1 : (x1.toList == y1.toList) = decide (x1 = y1) := by
    rw [Bool.eq_iff_iff, beq_iff_eq, decide_eq_true_iff, ByteArray.toList_eq, ByteArray.toList_eq, Array.toList_inj, ByteArray.ext_iff]
  simp [go_sem, hp, hu, part, h1]
  by_cases e1 : x1 = y1 <;> by_cases e2 : x2 = y2 <;> by_cases e3 : x3 = y3 <;> simp [e1, e2, e3, go_sem]
theorem ru_guard (X Y : Operand) (xs ys : Array Value) (w : World) : (eqGuard .neq 52 X Y (.agg xs) (.agg ys)).run Try.prog w = .ok () w :=
  run_eqGuard_agg w .neq _ X Y xs ys (by kernel_rfl)
theorem sl_equalRu (va vb : Value) (l m : List Ru) (w : World) (hl : l.length ≤ 1048576) (hm : m.length ≤ 1048576) (ha : InRu w va l) (hb : InRu w vb m) :
    Calls Try.prog 48 #[va, vb] w fun e w' => e = .returned (.bool (decide (l = m))) ∧ Below w.heap.size w w' := by
  obtain ⟨a, cap, rfl⟩ := inRu_sl ha
  obtain ⟨a1, cap1, rfl⟩ := inRu_sl hb
  have HA := Lib.hid ha
  have HB := Lib.hid hb
  clear ha hb
  by_cases hlen : l.length = m.length
  · have hle : ((l.length : Int) != m.length) = false := by simp [hlen]
    go_enter Try.func48, Try.ntmps48
    go_wp2
    go_loopw [5, 13] (fun _ i wr => Below w.heap.size w wr ∧ ∃ k : Nat, k ≤ l.length ∧ i = .int .i64 k ∧ ∀ t, t < k → ruA l t = ruA m t) (fun _ i _ => l.length - (intOf i).toNat)
    case atStart => exact ⟨Below.refl _ _, 0, by omega, rfl, fun t ht => by omega⟩
    case round =>
      obtain ⟨hb, k, hk, rfl, hall⟩ := hrel
      have HALL := Lib.hid hall
      clear hall
      by_cases hlt : k < l.length
      · obtain ⟨g, off, rfl, hg, hx1, hx2, hx3⟩ := inRu_at (inRu_below HA.out hb) hlt
        obtain ⟨g1, off1, rfl, hg1, hy1, hy2, hy3⟩ := inRu_at (inRu_below HB.out hb) (show k < m.length by omega)
        have hin : ((k : Nat) : Int) < l.length := by omega
        have hin2 : ((k : Nat) : Int) < m.length := by omega
        have HEQ : Hid ((ruA l k).1 = (ruA m k).1 ∧ (ruA l k).2.1 = (ruA m k).2.1 ∧ (ruA l k).2.2 = (ruA m k).2.2 → ∀ t, t < k + 1 → ruA l t = ruA m t) := by
          rintro ⟨e1, e2, e3⟩ t ht
          by_cases he : t = k
          · subst he
            exact Prod.ext e1 (Prod.ext e2 e3)
          · exact HALL.out t (by omega)
        have HNE : Hid (¬ ((ruA l k).1 = (ruA m k).1 ∧ (ruA l k).2.1 = (ruA m k).2.1 ∧ (ruA l k).2.2 = (ruA m k).2.2) → decide (l = m) = false) := by
          intro h
          rw [decide_eq_false_iff_not]
          rintro rfl
          exact h ⟨rfl, rfl, rfl⟩
        generalize (ruA l k).1 = x1 at *
        generalize (ruA l k).2.1 = x2 at *
        generalize (ruA l k).2.2 = x3 at *
        generalize (ruA m k).1 = y1 at *
        generalize (ruA m k).2.1 = y2 at *
        generalize (ruA m k).2.2 = y3 at *
        have hgd := ru_guard
        by_cases heq : x1 = y1 ∧ x2 = y2 ∧ x3 = y3
        · have HALL2 := Lib.hid (HEQ.out heq)
          have hei := ru_eqIn x1 y1 x2 x3 y2 y3 true (by simp [heq])
          clear heq
          go_wp2
          go_big_quiet (fail)
          go_wp2
          go_roundw
          case rel => exact ⟨below_drewN hb nq, k + 1, by omega, by go_num, HALL2.out⟩
          case measure => first | (simp [intOf]; done) | (simp [intOf]; omega)
        · have HF := Lib.hid (HNE.out heq)
          have hei := ru_eqIn x1 y1 x2 x3 y2 y3 false (by simp only [heq, decide_false])
          clear heq
          go_wp2
          go_big_quiet (fail)
          go_wp2
          go_ret
          exact ⟨ret_bool HF.out.symm, below_drewN hb nq⟩
      · have ek : k = l.length := by omega
        subst ek
        have HF : Hid (decide (l = m) = true) := by show _ = _; rw [decide_eq_true_iff]; exact ru_all hlen HALL.out
        have hk' : ¬ (l.length : Int) < l.length := by omega
        go_wp2
        go_ret
        exact ⟨ret_bool HF.out.symm, hb⟩
  · have hle : ((l.length : Int) != m.length) = true := by simp only [bne_iff_ne, ne_eq]; omega
    have HF : Hid (decide (l = m) = false) := by show _ = _; rw [decide_eq_false_iff_not]; rintro rfl; exact hlen rfl
    go_enter Try.func48, Try.ntmps48
    go_wp2
    go_ret
    exact ⟨ret_bool HF.out.symm, Below.refl _ _⟩
theorem i_SameGrammar (va vb : Value) (l m : List Ru) (w : World) (hl : l.length ≤ 1048576) (hm : m.length ≤ 1048576) (ha : InRu w va l) (hb : InRu w vb m) :
    Calls Try.prog 18 #[.agg #[va], .agg #[vb]] w fun e w' => e = .returned (.bool (decide (l = m))) ∧ Below w.heap.size w w' := by
  have H := Lib.hid (fun w (ha : InRu w va l) (hb : InRu w vb m) => sl_equalRu va vb l m w hl hm ha hb)
  have HA := Lib.hid ha
  have HB := Lib.hid hb
  clear ha hb hl hm
  generalize decide (l = m) = r at *
  go_enter Try.func18, Try.ntmps18
  go_wp2_with fail
  refine (H.out _ (inRu_from HA.out (Nat.le_refl _) (by repeat (first | exact Below.refl _ _ | assumption | apply Below.drew | (refine Below.alloc ?_ (by simp) _) | (refine Below.setCell ?_ (by simp) _)))) (inRu_from HB.out (Nat.le_refl _) (by repeat (first | exact Below.refl _ _ | assumption | apply Below.drew | (refine Below.alloc ?_ (by simp) _) | (refine Below.setCell ?_ (by simp) _))))).mono ?_
  rintro e w1 ⟨rfl, hb1⟩
  have hb2 := below_box (below_box hb1)
  clear hb1
  go_wp2
  go_ret
  exact ⟨rfl, hb2⟩
theorem s_SameGrammar (va vb : Value) (l m : List Ru) (w : World) (hl : l.length ≤ 1048576) (hm : m.length ≤ 1048576) (ha : InRu w va l) (hb : InRu w vb m) :
    Calls Try.prog 16 #[.agg #[va], .agg #[vb]] w fun e w' => e = .returned (.bool (decide (l = m))) ∧ Below w.heap.size w w' := by
  obtain ⟨a, cap, rfl⟩ := inRu_sl ha
  obtain ⟨a1, cap1, rfl⟩ := inRu_sl hb
  have HA := Lib.hid (inRu_box (o := .cells #[.slice a1 m.length cap1] 29) (inRu_box (o := .cells #[.slice a l.length cap] 29) ha))
  have HB := Lib.hid (inRu_box (o := .cells #[.slice a1 m.length cap1] 29) (inRu_box (o := .cells #[.slice a l.length cap] 29) hb))
  have HBX : Hid (∀ w', Below (w.heap.size + 1 + 1) ((w.alloc (.cells #[.slice a l.length cap] 29)).alloc (.cells #[.slice a1 m.length cap1] 29)) w' → Below w.heap.size w w') := fun w' h => below_box (below_box (by simpa using h))
  clear ha hb
  by_cases hlen : l.length = m.length
  · have hle : ((l.length : Int) != m.length) = false := by simp [hlen]
    have HLEN := Lib.hid hlen
    clear hlen
    go_enter Try.func16, Try.ntmps16
    go_wp2
    go_loopw [5] (fun i wr => Below (w.heap.size + 1 + 1) ((w.alloc (.cells #[.slice a l.length cap] 29)).alloc (.cells #[.slice a1 m.length cap1] 29)) wr ∧ ∃ k : Nat, k ≤ l.length ∧ i = .int .i64 k ∧ ∀ t, t < k → ruA l t = ruA m t) (fun i _ => l.length - (intOf i).toNat)
    case atStart => exact ⟨Below.refl _ _, 0, by omega, rfl, fun t ht => by omega⟩
    case round =>
      obtain ⟨hb, k, hk, rfl, hall⟩ := hrel
      have HALL := Lib.hid hall
      have c1 : wr.cell? ⟨w.heap.size, 0, none⟩ = some (.slice a l.length cap) := by rw [hb.cell (p := ⟨w.heap.size, 0, none⟩) (by simp; omega)]; simp [go_sem]
      have c2 : wr.cell? ⟨w.heap.size + 1, 0, none⟩ = some (.slice a1 m.length cap1) := by rw [hb.cell (p := ⟨w.heap.size + 1, 0, none⟩) (by simp)]; simp [go_sem]
      clear hall
      by_cases hlt : k < l.length
      · obtain ⟨g, off, rfl, hg, hx1, hx2, hx3⟩ := inRu_at (inRu_from HA.out (by simp) hb) hlt
        obtain ⟨g1, off1, rfl, hg1, hy1, hy2, hy3⟩ := inRu_at (inRu_from HB.out (by simp) hb) (show k < m.length by have := HLEN.out; omega)
        have hin : ((k : Nat) : Int) < l.length := by omega
        have hin2 : ((k : Nat) : Int) < m.length := by have := HLEN.out; omega
        have HEQ : Hid ((ruA l k).1 = (ruA m k).1 ∧ (ruA l k).2.1 = (ruA m k).2.1 ∧ (ruA l k).2.2 = (ruA m k).2.2 → ∀ t, t < k + 1 → ruA l t = ruA m t) := by
          rintro ⟨e1, e2, e3⟩ t ht
          by_cases he : t = k
          · subst he
            exact Prod.ext e1 (Prod.ext e2 e3)
          · exact HALL.out t (by omega)
        have HNE : Hid (¬ ((ruA l k).1 = (ruA m k).1 ∧ (ruA l k).2.1 = (ruA m k).2.1 ∧ (ruA l k).2.2 = (ruA m k).2.2) → decide (l = m) = false) := by
          intro h
          rw [decide_eq_false_iff_not]
          rintro rfl
          exact h ⟨rfl, rfl, rfl⟩
        generalize (ruA l k).1 = x1 at *
        generalize (ruA l k).2.1 = x2 at *
        generalize (ruA l k).2.2 = x3 at *
        generalize (ruA m k).1 = y1 at *
        generalize (ruA m k).2.1 = y2 at *
        generalize (ruA m k).2.2 = y3 at *
        have hgd := ru_guard
        by_cases heq : x1 = y1 ∧ x2 = y2 ∧ x3 = y3
        · have HALL2 := Lib.hid (HEQ.out heq)
          have hei := ru_eqIn x1 y1 x2 x3 y2 y3 true (by simp [heq])
          clear heq
          go_wp2
          go_big_quiet (fail)
          go_wp2
          go_roundw
          case rel => exact ⟨below_drewN hb nq, k + 1, by omega, by go_num, HALL2.out⟩
          case measure => first | (simp [intOf]; done) | (simp [intOf]; omega)
        · have HF := Lib.hid (HNE.out heq)
          have hei := ru_eqIn x1 y1 x2 x3 y2 y3 false (by simp only [heq, decide_false])
          clear heq
          go_wp2
          go_big_quiet (fail)
          go_wp2
          go_ret
          exact ⟨ret_bool HF.out.symm, HBX.out _ (below_drewN hb nq)⟩
      · have ek : k = l.length := by omega
        subst ek
        have HF : Hid (decide (l = m) = true) := by show _ = _; rw [decide_eq_true_iff]; exact ru_all HLEN.out HALL.out
        have hk' : ¬ (l.length : Int) < l.length := by omega
        go_wp2
        go_ret
        exact ⟨ret_bool HF.out.symm, HBX.out _ hb⟩
  · have hle : ((l.length : Int) != m.length) = true := by simp only [bne_iff_ne, ne_eq]; omega
    have HF : Hid (decide (l = m) = false) := by show _ = _; rw [decide_eq_false_iff_not]; rintro rfl; exact hlen rfl
    go_enter Try.func16, Try.ntmps16
    go_wp2
    go_ret
    exact ⟨ret_bool HF.out.symm, HBX.out _ (by simpa using Below.refl _ _)⟩
theorem walk_FnExactSameGrammar (v : Value) (l : List Ru) (v2 : Value) (m : List Ru) (w : World) (h0 : GrIn w v l) (h0b : l.length ≤ 9223372036854775807) (h0c : ∀ r ∈ l, r.1.size ≤ 9223372036854775807) (h1 : GrIn w v2 m) (h1b : m.length ≤ 9223372036854775807) (h1c : ∀ r ∈ m, r.1.size ≤ 9223372036854775807) :
    Calls Try.prog 3 #[v, v2] w fun e w' => e = .returned (.bool true) ∧ Below w.heap.size w w' := by
  obtain ⟨u, rfl, hin⟩ := h0
  obtain ⟨u2, rfl, hin2⟩ := h1
  have b0 : ((w.alloc (.cells #[u] 24)).alloc (.cells #[u2] 24)).cell? ⟨w.heap.size, 0, none⟩ = some u := by simp [go_sem]
  have d0 : ((w.alloc (.cells #[u] 24)).alloc (.cells #[u2] 24)).cell? ⟨w.heap.size + 1, 0, none⟩ = some u2 := by simp [go_sem]
  have i0 := inRu_box (o := .cells #[u2] 24) (inRu_box (o := .cells #[u] 24) hin)
  have j0 := inRu_box (o := .cells #[u2] 24) (inRu_box (o := .cells #[u] 24) hin2)
  have HBX : Hid (∀ w', Below ((w.alloc (.cells #[u] 24)).alloc (.cells #[u2] 24)).heap.size ((w.alloc (.cells #[u] 24)).alloc (.cells #[u2] 24)) w' → Below w.heap.size w w') := fun w' h => below_box (below_box h)
  clear hin hin2
  go_enter Try.func3, Try.ntmps3
  go_wp2_with fail
  refine (l_szGrammar u l 1048576 _ (by omega) i0 h0b h0c).mono ?_
  rintro e w1 ⟨hb1, rfl | ⟨n0, rfl, hn0, hln, hsz⟩⟩
  · clear h0b h0c h1b h1c b0 i0 d0 j0
    have hbb := HBX.out _ hb1
    clear hb1
    go_wp2
    go_ret
    exact ⟨rfl, hbb⟩
  · have HSZ := Lib.hid hsz
    have j1 := inRu_below j0 hb1
    have d1 := cell_later hb1 d0
    clear h0b h0c hsz
    go_wp2_with fail
    refine (l_szGrammar u2 m n0 _ hn0 j1 h1b h1c).mono ?_
    rintro e w2 ⟨hb2, rfl | ⟨n1, rfl, hn1, hlm, hsz2⟩⟩
    · clear h1b h1c b0 i0 d0 j0 d1 j1
      have hbb := HBX.out _ (hb1.trans (hb2.mono hb1.size))
      clear hb1 hb2
      go_wp2
      go_ret
      exact ⟨rfl, hbb⟩
    · have B2 := hb1.trans (hb2.mono hb1.size)
      have i2 := inRu_below i0 B2
      have j2 := inRu_below j0 B2
      have b2 := cell_later B2 b0
      have d2 := cell_later B2 d0
      clear h1b h1c hsz2 d1 j1 hb1 hb2
      go_wp2
      go_region_held3 (fun w' => Below w2.heap.size w2 w' ∧ w'.cell? ⟨w.heap.size, 0, none⟩ = some u ∧ w'.cell? ⟨w.heap.size + 1, 0, none⟩ = some u2 ∧ InRu w' u l ∧ InRu w' u2 m) (first | (go_split_ands; refine ⟨?_, ?_, ?_, ?_, ?_⟩ <;> first | assumption | exact Below.drew (Below.refl _ _) | exact Below.drew (by assumption) | exact inRu_below (by assumption) (Below.drew (Below.refl _ _)) | exact cell_later hbA (by assumption) | exact cell_later hbB (by assumption) | exact cell_later hbC (by assumption) | exact inRu_below (by assumption) hbA | exact inRu_below (by assumption) hbB | exact inRu_below (by assumption) hbC | exact Below.trans ‹Below w2.heap.size w2 _› (hbA.mono (Below.size ‹Below w2.heap.size w2 _›)) | exact Below.trans ‹Below w2.heap.size w2 _› (hbB.mono (Below.size ‹Below w2.heap.size w2 _›)) | exact Below.trans ‹Below w2.heap.size w2 _› (hbC.mono (Below.size ‹Below w2.heap.size w2 _›)) | simp [*])) (first | (go_at_call 17; refine (l_toGrammar u l _ hln (by first | assumption | (go_split_ands; assumption))).mono ?_; rintro e wA ⟨gA, cA, rfl, hoA, hbA⟩) | (go_at_call 17; refine (l_toGrammar u2 m _ hlm (by first | assumption | (go_split_ands; assumption))).mono ?_; rintro e wB ⟨gB, cB, rfl, hoB, hbB⟩) | (go_at_call 16; refine (s_SameGrammar _ _ l m _ hln hlm (by first | exact (inRu_own rfl hoA) | exact inRu_drew (inRu_own rfl hoA) | exact inRu_below (inRu_own rfl hoA) hbB | exact inRu_drew (inRu_below (inRu_own rfl hoA) hbB) | exact inRu_below (inRu_drew (inRu_own rfl hoA)) hbB | exact inRu_drew (inRu_below (inRu_drew (inRu_own rfl hoA)) hbB)) (by first | exact (inRu_own rfl hoB) | exact inRu_drew (inRu_own rfl hoB) | exact inRu_below (inRu_own rfl hoB) hbA | exact inRu_drew (inRu_below (inRu_own rfl hoB) hbA) | exact inRu_below (inRu_drew (inRu_own rfl hoB)) hbA | exact inRu_drew (inRu_below (inRu_drew (inRu_own rfl hoB)) hbA))).mono ?_; rintro e wC ⟨rfl, hbC⟩))
      all_goals
        rename_i hS
        have BC := B2.trans (hS.1.mono B2.size)
        have iC := hS.2.2.2.1
        have bC := hS.2.1
        clear hS hbC hbA hbB hoA hoB b2 d2 i2 j2 B2
        go_wp2_with fail
        refine (l_toGrammar u l wC hln iC).mono ?_
        rintro e w3 ⟨g3, c3, rfl, ho3, hb3⟩
        have B3 := BC.trans (hb3.mono BC.size)
        have B3' := B3.alloc B3.size (.cells #[.slice (some ⟨g3, 0, none⟩) l.length c3] 29)
        have j3 := inRu_below j0 B3'
        have d3 := cell_later B3' d0
        have x3 := box_cell w3 (.slice (some ⟨g3, 0, none⟩) l.length c3) 29
        have ix3 := inRu_box (o := .cells #[.slice (some ⟨g3, 0, none⟩) l.length c3] 29) (inRu_own rfl ho3)
        have B3s := B3'.size
        clear ho3 hb3 B3 iC bC BC
        go_wp2_with fail
        refine (l_toGrammar u2 m _ hlm j3).mono ?_
        rintro e w4 ⟨g4, c4, rfl, ho4, hb4⟩
        have B4 := B3'.trans (hb4.mono B3'.size)
        have B4' := B4.alloc B4.size (.cells #[.slice (some ⟨g4, 0, none⟩) m.length c4] 29)
        have a4 := (Below.refl _ w4).alloc (Nat.le_refl _) (.cells #[.slice (some ⟨g4, 0, none⟩) m.length c4] 29)
        have x4 := cell_later a4 (cell_later hb4 x3)
        have ix4 := inRu_below (inRu_below ix3 hb4) a4
        have y4 := box_cell w4 (.slice (some ⟨g4, 0, none⟩) m.length c4) 29
        have jx4 := inRu_below (inRu_own rfl ho4) a4
        clear ho4 hb4 B4 B3' a4 x3 ix3 j3 d3
        go_wp2_with fail
        refine (i_SameGrammar _ _ l m _ hln hlm ix4 jx4).mono ?_
        rintro e w5 ⟨rfl, hb5⟩
        have B5 := B4'.trans (hb5.mono B4'.size)
        have x5 := cell_later hb5 x4
        have y5 := cell_later hb5 y4
        have ix5 := inRu_below ix4 hb5
        have jx5 := inRu_below jx4 hb5
        have b5 := cell_later B5 b0
        have d5 := cell_later B5 d0
        have i5 := inRu_below i0 B5
        have j5 := inRu_below j0 B5
        clear hb5 B4' x4 y4 ix4 jx4
        generalize decide (l = m) = rr at *
        have hrr : (rr != rr) = false := by simp
        go_wp2
        go_region_held3 (fun w' => Below w5.heap.size w5 w' ∧ w'.cell? ⟨w.heap.size, 0, none⟩ = some u ∧ w'.cell? ⟨w3.heap.size, 0, none⟩ = some (.slice (some ⟨g3, 0, none⟩) l.length c3) ∧ InRu w' u l ∧ InRu w' (.slice (some ⟨g3, 0, none⟩) l.length c3) l) (first | (go_split_ands; refine ⟨?_, ?_, ?_, ?_, ?_⟩ <;> first | assumption | exact Below.drew (Below.refl _ _) | exact Below.drew (by assumption) | exact inRu_below (by assumption) (Below.drew (Below.refl _ _)) | exact cell_later hbA (by assumption) | exact inRu_below (by assumption) hbA | exact Below.trans ‹Below w5.heap.size w5 _› (hbA.mono (Below.size ‹Below w5.heap.size w5 _›)) | simp [*])) (first | (go_at_call 17; refine (l_toGrammar u l _ hln (by assumption)).mono ?_; rintro e wA ⟨g6, c6, rfl, ho6, hbA⟩) | (go_at_call 19; refine (l_eqGrammar _ _ l _ (by first | assumption | exact inRu_below (inRu_below ix5 (Below.drew (Below.refl _ _))) hbA) (by first | exact inRu_own rfl ho6 | exact inRu_below (inRu_own rfl ho6) (Below.drew (Below.refl _ _))) hln).mono ?_; rintro e wA ⟨rfl, hbA⟩))
        rename_i hS
        have BA := B5.trans (hS.1.mono B5.size)
        have yA := cell_later hS.1 y5
        have jxA := inRu_below jx5 hS.1
        have dA := cell_later hS.1 d5
        have jA := inRu_below j5 hS.1
        clear hS hbA b5 x5 i5 ix5 d5 y5 j5 jx5 ho6 B5
        go_wp2
        go_region_held3 (fun w' => Below wA.heap.size wA w' ∧ w'.cell? ⟨w.heap.size + 1, 0, none⟩ = some u2 ∧ w'.cell? ⟨w4.heap.size, 0, none⟩ = some (.slice (some ⟨g4, 0, none⟩) m.length c4) ∧ InRu w' u2 m ∧ InRu w' (.slice (some ⟨g4, 0, none⟩) m.length c4) m) (first | (go_split_ands; refine ⟨?_, ?_, ?_, ?_, ?_⟩ <;> first | assumption | exact Below.drew (Below.refl _ _) | exact Below.drew (by assumption) | exact inRu_below (by assumption) (Below.drew (Below.refl _ _)) | exact cell_later hbE (by assumption) | exact inRu_below (by assumption) hbE | exact Below.trans ‹Below wA.heap.size wA _› (hbE.mono (Below.size ‹Below wA.heap.size wA _›)) | simp [*])) (first | (go_at_call 17; refine (l_toGrammar u2 m _ hlm (by assumption)).mono ?_; rintro e wE ⟨g6, c6, rfl, ho6, hbE⟩) | (go_at_call 19; refine (l_eqGrammar _ _ m _ (by first | assumption | exact inRu_below (inRu_below jxA (Below.drew (Below.refl _ _))) hbE) (by first | exact inRu_own rfl ho6 | exact inRu_below (inRu_own rfl ho6) (Below.drew (Below.refl _ _))) hlm).mono ?_; rintro e wE ⟨rfl, hbE⟩))
        rename_i hS
        have BF := HBX.out _ (BA.trans (hS.1.mono BA.size))
        clear hS hbE BA yA jxA dA jA
        go_wp2
        go_ret
        exact ⟨rfl, BF⟩
end Go.Proofs.Ytmcfjjhflnhehaa

/- A part of a grammar's word, as a grammar: the walk. -/
import Derived.Test.YtoejelieogjjpaaQG
import Derived.Deep.DeepCutAuto
namespace Go.Proofs.Ytoejelieogjjpaa
open Go.ChangeShapes Go.WideShapes Go.RowKit
set_option linter.unusedVariables false
set_option linter.unusedSimpArgs false
set_option maxHeartbeats 2000000
set_option maxRecDepth 100000
theorem abcL_nil : abcL [] := fun r hr => by cases hr
theorem s_l02Cut (bq oq cap : Nat) (a : Option Addr) (l : List Ru) (i j : Int) (w : World) (h0 : l ≠ []) (hok : gOk l = true) (hsz : ∀ r ∈ l, r.1.size ≤ 1048576) (hcell : w.cell? ⟨bq, oq, none⟩ = some (.slice a l.length cap)) (hin : InRu w (.slice a l.length cap) l)
    (hi : 0 ≤ i) (hij : i ≤ j) (hj : j ≤ lastI (gLn l)) (hn : (l.length : Int) + (j - i) ≤ 400) :
    Calls Try.prog 44 #[.pointer (some ⟨bq, oq, none⟩), .int .i64 i, .int .i64 j] w fun e w' => ∃ v O, e = .returned (.agg #[v]) ∧ OwnRu w' w.heap.size v O ∧ gOk O = true ∧ wd O = ptX l i j ∧ (i < j → O ≠ []) ∧ (O.length : Int) ≤ l.length + (j - i) ∧ (abcL l → abcL O) ∧ Below w.heap.size w w' := by
  have hB := (Below.refl w.heap.size w).alloc (Nat.le_refl _) (.cells #[.slice none 0 0] 26)
  by_cases he : i = j
  · subst he
    have hp := ptX_nil l i
    rw [hp]
    clear hcell hin hsz hn hi hj hij hp
    have HB := Lib.hid hB
    clear hB
    go_enter Try.func44, Try.ntmps44
    go_wp2
    refine bodyPost_ret (v := .agg #[.slice none 0 0]) (by simp [results, Try.results44, go_sem]) rfl ⟨.slice none 0 0, [], rfl, ⟨rfl, .inl ⟨rfl, rfl⟩⟩, rfl, rfl, fun h => by omega, by simp, fun _ => abcL_nil, ?_⟩
    first | exact HB.out | exact HB.out.setCell (by simp) _
  · have hlt : i < j := by omega
    have hp : 0 < l.length := List.length_pos_iff.2 h0
    obtain ⟨C, hC⟩ : ∃ C, cvF l l.length (l.length - 1) i j = C := ⟨_, rfl⟩
    obtain ⟨q1, q2, q3, q4, q5⟩ := cover_law hok h0 hi hlt hj
    rw [hC] at q1 q2 q3 q4
    have hbq := World.block_lt_of_cell? _ _ hcell
    have hl0 : l.length ≠ 0 := by omega
    have HLN := Lib.hid (s_l02Lengths bq oq cap a l _ (by have := (gOk_some hok).1; omega) hsz (cell_later hB hcell) (inRu_below hin hB))
    have hglen := (gOk_some hok).2.2.1
    have hjb := (last_bd hok).2
    have hpt := pt_len hok i j
    obtain ⟨W, hW⟩ : ∃ W, ptX l i j = W := ⟨_, rfl⟩
    rw [hW] at hpt q1 ⊢
    have HQ := Lib.hid (And.intro q2 (And.intro q3 (And.intro q4 (And.intro hpt q1))))
    have hne : (i == j) = false := by rw [beq_eq_false_iff_ne]; exact he
    have HB0 := Lib.hid hB
    have HCELL := Lib.hid hcell
    have HIN := Lib.hid hin
    clear hB hcell hin q1 q2 q3 q4 hsz hpt hW
    go_enter Try.func44, Try.ntmps44
    go_wp2_with fail
    refine HLN.out.mono ?_
    rintro e w3 ⟨v3, rfl, hb3, hrow⟩
    have hrow := hrow hok
    rw [hglen] at hrow
    obtain ⟨gl, cl, rfl, -, -⟩ := owns_some3 hrow hl0
    have hr0 : w3.cell? ⟨w.heap.size, 0, none⟩ = some (.slice none 0 0) := by rw [hb3.cell (by simp)]; simp [go_sem]
    have hf0 : w3.frozen? ⟨w.heap.size, 0, none⟩ = false := by rw [hb3.frozen (by simp)]; simp [go_sem]
    have HB3 : Hid (Below w.heap.size w w3) := below_box hb3
    have hz3 : w.heap.size + 1 ≤ w3.heap.size := by have := hb3.size; simpa using this
    have hc3 := cell_later HB3.out HCELL.out
    have hi3 := inRu_below HIN.out HB3.out
    have HCV := Lib.hid (fun v w hw => s_l02Cover w3 bq oq cap gl cl a l hok hc3 hi3 (fun k hk => own_get hrow hglen hk) l.length (l.length - 1) i j v [] w (by omega) (by omega) hi (by omega) (by simp; omega) (by omega) (by omega) hw)
    rw [show ((l.length - 1 : Nat) : Int) = (l.length : Int) - 1 by omega, hC] at HCV
    have HR0 := Lib.hid (And.intro hr0 hf0)
    have HI3 := Lib.hid (And.intro hc3 hi3)
    have hal := (Below.refl w3.heap.size w3).alloc (Nat.le_refl _) (.cells #[] 2)
    have HO4 : Hid ((w3.alloc (.cells #[] 2)).ownsRow w3.heap.size 2 1 (.slice (some ⟨w3.heap.size, 0, none⟩) 0 0) 0 []) := World.ownsRow_made w3 #[] 0 (Nat.le_refl _) (by decide) (by simp)
    have HAL := Lib.hid hal
    have hc4 := cell_later hal hc3
    clear hb3 hrow hr0 hf0 hi3 HLN HB0 hal hC
    go_wp2_with fail
    refine (HCV.out _ _ HAL.out HO4.out).mono ?_
    rintro e w5 ⟨v5, rfl, ho5, hb5⟩
    rw [List.nil_append] at ho5
    obtain ⟨gc, cc, rfl, hgc, hgc2⟩ := owns_some3 ho5 (by have := HQ.out.2.2.1; omega)
    have HB5 := Lib.hid hb5
    have HO5 := Lib.hid ho5
    clear HCV HO4 HAL ho5 hb5 hc4 hc3
    by_cases h1 : C.length = 1
    · have h1I : ((C.length : Nat) : Int) = 1 := by omega
      obtain ⟨c0, rfl⟩ : ∃ c0, C = [c0] := by
        cases C with
        | nil => simp at h1
        | cons x r => cases r with
          | nil => exact ⟨x, rfl⟩
          | cons y r => simp at h1
      obtain ⟨c0, rfl⟩ := Int.eq_ofNat_of_zero_le (HQ.out.1 c0 (by simp)).1
      have hcl : c0 < l.length := by have := (HQ.out.1 c0 (by simp)).2; omega
      obtain ⟨k1, k2, k3, k4⟩ := cut_one hok (c := (c0 : Int)) (by omega) (by omega)
      rw [Int.toNat_natCast] at k1 k2 k3 k4
      have hfl : wo l c0 = W := by have := HQ.out.2.2.2.2; simpa using this
      rw [hfl] at k2
      have HK := Lib.hid (And.intro k1 (And.intro k2 (And.intro k3 k4)))
      have HT := Lib.hid (inRu_take (n := c0 + 1) (inRu_below HI3.out.2 HB5.out) h0 (by omega))
      have hcap : l.length ≤ cap := by
        rcases HI3.out.2 with ⟨hl0', _⟩ | ⟨b, off, cap', hv, hb, hnc, hcm, hc⟩
        · omega
        · injection hv with e1 e2 e3; omega
      obtain ⟨b', off, rfl, hbl, -, -, -⟩ := inRu_at HI3.out.2 hcl
      have hwc : IntKind.i64.wrap ((c0 : Int) + 1) = (c0 : Int) + 1 := IntWalk.i64_in _ (by have := (gOk_some hok).1; omega)
      have hcI : (c0 : Int) + 1 ≤ cap := by omega
      have hcJ : (0 : Int) ≤ (c0 : Int) + 1 := by omega
      have hcT : ((c0 : Int) + 1).toNat = c0 + 1 := by omega
      have cg := cell_later HB5.out HI3.out.1
      have cc0 := own_get HO5.out rfl (show 0 < 1 by omega)
      simp only [List.getD_cons_zero] at cc0
      have cr := cell_later HB5.out HR0.out.1
      have cf : w5.frozen? ⟨w.heap.size, 0, none⟩ = false := (HB5.out.frozen (p := ⟨w.heap.size, 0, none⟩) (by simp; omega)).trans HR0.out.2
      have HB := Lib.hid (HB3.out.trans (HB5.out.mono HB3.out.size))
      have hz5 : w.heap.size < w5.heap.size := by have := HB5.out.size; omega
      rw [k4] at HT
      clear k1 k2 k3 k4 h1 hfl HI3 HO5 HB5 HR0 HB3 HQ
      go_upto_region 6 with fail
      refine wp_region_L (S := fun w' => Below w5.heap.size w5 w' ∧ w'.cell? ⟨bq, oq, none⟩ = some (.slice (some ⟨b', off, none⟩) l.length cap) ∧ w'.cell? ⟨gc, 0, none⟩ = some (.int .i64 c0)) (T := [10]) (by kernel_rfl) ⟨Below.drew (Below.refl _ _), by assumption, by assumption⟩ (fun hHeld => ?_)
      refine wpAnyL_take (i := 1) (v := ?_) rfl (by kernel_rfl) (by kernel_rfl) (by kernel_rfl) (by kernel_rfl) (fun _ _ _ h => h) (Or.inl ⟨by rfl, ?_⟩) (by assumption) ?_
      rotate_left
      · intro w hSw
        try dsimp only at hSw
        go_simp
        all_goals with_reducible rfl
      try simp only [Act.put, List.setIfInBounds_toArray, List.set_cons_zero, List.set_cons_succ]
      refine wpAnyL_take (i := 2) (v := ?_) rfl (by kernel_rfl) (by kernel_rfl) (by kernel_rfl) (by kernel_rfl) (fun _ _ _ h => h) (Or.inl ⟨by rfl, ?_⟩) (by assumption) ?_
      rotate_left
      · intro w hSw
        try dsimp only at hSw
        go_simp
        all_goals with_reducible rfl
      try simp only [Act.put, List.setIfInBounds_toArray, List.set_cons_zero, List.set_cons_succ]
      refine wpAnyL_take (i := 3) (v := ?_) rfl (by kernel_rfl) (by kernel_rfl) (by kernel_rfl) (by kernel_rfl) (fun _ _ _ h => h) (Or.inl ⟨by rfl, ?_⟩) (by assumption) ?_
      rotate_left
      · intro w hSw
        try dsimp only at hSw
        go_simp
        all_goals with_reducible rfl
      try simp only [Act.put, List.setIfInBounds_toArray, List.set_cons_zero, List.set_cons_succ]
      refine wpAnyL_take (i := 4) (v := ?_) rfl (by kernel_rfl) (by kernel_rfl) (by kernel_rfl) (by kernel_rfl) (fun _ _ _ h => h) (Or.inl ⟨by rfl, ?_⟩) (by assumption) ?_
      rotate_left
      · intro w hSw
        try dsimp only at hSw
        go_simp
        all_goals with_reducible rfl
      try simp only [Act.put, List.setIfInBounds_toArray, List.set_cons_zero, List.set_cons_succ]
      refine wpAnyL_take (i := 5) (v := ?_) rfl (by kernel_rfl) (by kernel_rfl) (by kernel_rfl) (by kernel_rfl) (fun _ _ _ h => h) (Or.inl ⟨by rfl, ?_⟩) (by assumption) ?_
      rotate_left
      · intro w hSw
        try dsimp only at hSw
        go_simp
        all_goals with_reducible rfl
      try simp only [Act.put, List.setIfInBounds_toArray, List.set_cons_zero, List.set_cons_succ]
      refine wpAnyL_take (i := 6) (v := ?_) rfl (by kernel_rfl) (by kernel_rfl) (by kernel_rfl) (by kernel_rfl) (fun _ _ _ h => h) (Or.inl ⟨by rfl, ?_⟩) (by assumption) ?_
      rotate_left
      · intro w hSw
        try dsimp only at hSw
        go_simp
        all_goals with_reducible rfl
      try simp only [Act.put, List.setIfInBounds_toArray, List.set_cons_zero, List.set_cons_succ]
      refine wpAnyL_take (i := 7) (v := ?_) rfl (by kernel_rfl) (by kernel_rfl) (by kernel_rfl) (by kernel_rfl) (fun _ _ _ h => h) (Or.inl ⟨by rfl, ?_⟩) (by assumption) ?_
      rotate_left
      · intro w hSw
        try dsimp only at hSw
        go_simp
        all_goals with_reducible rfl
      try simp only [Act.put, List.setIfInBounds_toArray, List.set_cons_zero, List.set_cons_succ]
      refine wpAnyL_take (i := 8) (v := ?_) rfl (by kernel_rfl) (by kernel_rfl) (by kernel_rfl) (by kernel_rfl) (fun _ _ _ h => h) (Or.inl ⟨by rfl, ?_⟩) (by assumption) ?_
      rotate_left
      · intro w hSw
        try dsimp only at hSw
        go_simp
        all_goals with_reducible rfl
      try simp only [Act.put, List.setIfInBounds_toArray, List.set_cons_zero, List.set_cons_succ]
      refine wpAnyL_take (i := 9) (v := ?_) rfl (by kernel_rfl) (by kernel_rfl) (by kernel_rfl) (by kernel_rfl) (fun _ _ _ h => h) (Or.inl ⟨by rfl, ?_⟩) (by assumption) ?_
      rotate_left
      · intro w hSw
        try dsimp only at hSw
        go_simp
        all_goals with_reducible rfl
      try simp only [Act.put, List.setIfInBounds_toArray, List.set_cons_zero, List.set_cons_succ]
      obtain ⟨s0, s1, s2⟩ := hHeld
      refine wpAnyL_one (i := 0) (by kernel_rfl) (by rfl) rfl (fun K hK => ?_)
      go_simp
      go_wp2_with fail
      refine hK.out _ _ ⟨s0.alloc s0.size _, cell_later ((Below.refl _ _).alloc (Nat.le_refl _) _) s1, cell_later ((Below.refl _ _).alloc (Nat.le_refl _) _) s2⟩ ?_
      clear hK K
      try simp only [Act.put, List.setIfInBounds_toArray, List.set_cons_zero, List.set_cons_succ]
      refine wpAnyL_tail (i := 10) (by kernel_rfl) (by rfl) rfl (fun K hK => ?_)
      refine step_app_rus (by rfl) _ _ (by rfl) w5.heap.size _ w5.drew.heap.size (l.take (c0 + 1)) (by rfl) (own_madeR rfl (by simp)) (some ⟨b', off, none⟩) cap (by rw [HK.out.2.2.2]; rfl) (by rw [HK.out.2.2.2]; exact inRu_below HT.out (s0.alloc s0.size _)) (by rw [HK.out.2.2.2]; omega) (by rw [HK.out.2.2.2]; have := (gOk_some hok).1; omega) (by simp) ?_
      intro g3 c3 w6 ho6 hg6 hor6 hlt6
      refine hK.out _ _ ?_
      clear hK K
      try simp only [Act.put, List.setIfInBounds_toArray, List.set_cons_zero, List.set_cons_succ]
      rw [HK.out.2.2.2] at ho6 ⊢
      have cr6 : w6.cell? ⟨w.heap.size, 0, none⟩ = some (.slice none 0 0) := by
        rw [hg6.cell_far _ (by simp; omega) (by simp; omega)]
        exact cell_later (s0.alloc s0.size _) cr
      have cf6 : w6.frozen? ⟨w.heap.size, 0, none⟩ = false := by
        rw [hg6.frozen_far _ (by simp; omega) (by simp; omega)]
        exact ((s0.alloc s0.size _).frozen (p := ⟨w.heap.size, 0, none⟩) hz5).trans cf
      have hb6 : Below w5.heap.size w5 w6 := Below.grown (s0.alloc s0.size _) hg6 (by simp) (fun q hq => by injection hq with hq; simp at hq; omega)
      have HO6 := Lib.hid ho6
      have HB6 := Lib.hid (HB.out.trans (hb6.mono HB.out.size))
      clear ho6 hg6 hor6 s0 s1 s2 HB cr cf hb6 HT
      refine wpAny_one (i := 11) (by kernel_rfl) rfl (fun K hK => ?_)
      go_simp
      go_wp2_with fail
      refine hK.out _ _ ?_
      clear hK K
      try simp only [Act.put, List.setIfInBounds_toArray, List.set_cons_zero, List.set_cons_succ]
      refine wpAny_one (i := 12) (by kernel_rfl) rfl (fun K hK => ?_)
      go_simp
      go_wp2_with fail
      refine hK.out _ _ ?_
      clear hK K
      try simp only [Act.put, List.setIfInBounds_toArray, List.set_cons_zero, List.set_cons_succ]
      refine wpAny_done (by kernel_rfl) ?_ _
      go_wp2
      refine bodyPost_ret (v := .agg #[.slice (some ⟨g3, 0, none⟩) (c0 + 1) c3]) (by simp [results, Try.results44, go_sem, cell_st_same _ cr6]) rfl ⟨_, l.take (c0 + 1), rfl, ?_, HK.out.1, HK.out.2.1, fun _ => HK.out.2.2.1, by rw [HK.out.2.2.2]; omega, fun h r hr => h r (List.mem_of_mem_take hr), HB6.out.setCell (by simp) _⟩
      refine OwnRu.weak (OwnRu.kept (r := some w.heap.size) ?_ (grownBy_set _ _ _) (.inr ?_)) (show w.heap.size ≤ w5.heap.size by omega)
      · have := HO6.out
        rw [← HK.out.2.2.2] at this ⊢
        exact this
      · have := (HO6.out.lt g3 rfl).1
        simp [Value.ownBlock]; omega
    · have h1I : ((C.length : Int) == 1) = false := by rw [beq_eq_false_iff_ne]; omega
      have h2 : 2 ≤ C.length := by have := HQ.out.2.2.1; omega
      have hCl : (C.length : Int) ≤ j - i := HQ.out.2.1
      have hl4 := (gOk_some hok).1
      obtain ⟨k1, k2, k3⟩ := cut_more hok HQ.out.1 h2 (by omega) (by rw [HQ.out.2.2.2.2]; exact HQ.out.2.2.2.1)
      rw [HQ.out.2.2.2.2] at k2
      have HK := Lib.hid (And.intro k1 (And.intro k2 k3))
      have hC0 : ctL C l.length 0 = C.getD 0 0 := rfl
      have HOW := Lib.hid (s_l02Own bq oq cap a l w5 h0 (by omega) (cell_later HB5.out HI3.out.1) (inRu_below HI3.out.2 HB5.out))
      have cc0 := own_get HO5.out rfl (show 0 < C.length by omega)
      have cr := cell_later HB5.out HR0.out.1
      have cf : w5.frozen? ⟨w.heap.size, 0, none⟩ = false := (HB5.out.frozen (p := ⟨w.heap.size, 0, none⟩) (by simp; omega)).trans HR0.out.2
      have HB := Lib.hid (HB3.out.trans (HB5.out.mono HB3.out.size))
      have hz5 : w.heap.size < w5.heap.size := by have := HB5.out.size; omega
      clear k1 k2 k3 h1 HI3 HB5 HR0 HB3 HQ
      go_wp2_with fail
      refine HOW.out.mono ?_
      rintro e w6 ⟨v6, rfl, ho6, hb6⟩
      obtain ⟨g6, c6, rfl, hg6, hg6'⟩ := owns_some3 ho6 hl0
      have hs6 := hb6.size
      have cc6 := cell_later hb6 cc0
      have hal6 := (Below.refl w6.heap.size w6).alloc (Nat.le_refl _) (.cells #[.slice (some ⟨g6, 0, none⟩) l.length c6] 26)
      have HB7 := Lib.hid (hb6.trans (hal6.mono hs6))
      have HO7 := Lib.hid (ho6.alloc (.cells #[.slice (some ⟨g6, 0, none⟩) l.length c6] 26))
      have cc7 := cell_later hal6 cc6
      clear hb6 ho6 hal6 HOW
      go_wp2
      go_loopw [11, 12] (fun la k wr => ∃ m kk gg c : Nat, m + 1 = kk ∧ kk ≤ C.length ∧ k = .int .i64 (kk : Int) ∧ la = .int .i64 (ctL C l.length m) ∧ wr.cell? ⟨w6.heap.size, 0, none⟩ = some (.slice (some ⟨gg, 0, none⟩) (l.length + m) c) ∧ wr.frozen? ⟨w6.heap.size, 0, none⟩ = false ∧ gg ≠ w6.heap.size ∧ OwnRu wr w5.heap.size (.slice (some ⟨gg, 0, none⟩) (l.length + m) c) (ctR l C m) ∧ Below w5.heap.size w5 wr ∧ w6.heap.size < wr.heap.size) (fun _ k _ => C.length - (intOf k).toNat)
      case atStart =>
        refine ⟨0, 1, g6, c6, rfl, by omega, rfl, rfl, by simp [go_sem], by simp [go_sem], by omega, HO7.out, HB7.out, by simp⟩
      case round =>
        obtain ⟨m, kk, gg, c, hmk, hm, rfl, rfl, hct, hft, hne2, hown, hb, hsz⟩ := hrel
        clear cc0 cc6 cc7
        by_cases hlt2 : kk < C.length
        · have hin : (kk : Int) < C.length := by omega
          have cm := own_get (owns_after HO5.out hb) rfl hlt2
          have HJL := Lib.hid (ctR_len l C m)
          have HJS : Hid (ctR l C (m + 1) = ctR l C m ++ [((⟨#[]⟩ : ByteArray), ctL C l.length m, C.getD kk 0)]) := by show _ = _; rw [← hmk]; rfl
          have HMK := Lib.hid hmk
          have hmC : m + 1 < C.length := by omega
          have HJT : Hid (ctL C l.length (m + 1) = (l.length : Int) + m) := rfl
          have hgge : w5.heap.size ≤ gg := (hown.lt gg rfl).1
          have HB := Lib.hid hb
          have HO := Lib.hid hown
          clear hb hown hmk
          generalize ctL C l.length m = la at *
          generalize C.getD kk 0 = cx at *
          go_upto_region 12 with fail
          refine wp_region_L (S := fun w' => Below wr.heap.size wr w' ∧ w'.cell? ⟨w6.heap.size, 0, none⟩ = some (.slice (some ⟨gg, 0, none⟩) (l.length + m) c) ∧ w'.cell? ⟨gc, kk, none⟩ = some (.int .i64 cx)) (T := [9]) (by kernel_rfl) ⟨Below.drew (Below.refl _ _), by assumption, by assumption⟩ (fun hHeld => ?_)
          refine wpAnyL_take (i := 0) (v := ?_) rfl (by kernel_rfl) (by kernel_rfl) (by kernel_rfl) (by kernel_rfl) (fun _ _ _ h => h) (Or.inl ⟨by rfl, ?_⟩) (by assumption) ?_
          rotate_left
          · intro w hSw
            try dsimp only at hSw
            go_simp
            all_goals with_reducible rfl
          try simp only [Act.put, List.setIfInBounds_toArray, List.set_cons_zero, List.set_cons_succ]
          refine wpAnyL_take (i := 1) (v := ?_) rfl (by kernel_rfl) (by kernel_rfl) (by kernel_rfl) (by kernel_rfl) (fun _ _ _ h => h) (Or.inl ⟨by rfl, ?_⟩) (by assumption) ?_
          rotate_left
          · intro w hSw
            try dsimp only at hSw
            go_simp
            all_goals with_reducible rfl
          try simp only [Act.put, List.setIfInBounds_toArray, List.set_cons_zero, List.set_cons_succ]
          refine wpAnyL_take (i := 2) (v := ?_) rfl (by kernel_rfl) (by kernel_rfl) (by kernel_rfl) (by kernel_rfl) (fun _ _ _ h => h) (Or.inl ⟨by rfl, ?_⟩) (by assumption) ?_
          rotate_left
          · intro w hSw
            try dsimp only at hSw
            go_simp
            all_goals with_reducible rfl
          try simp only [Act.put, List.setIfInBounds_toArray, List.set_cons_zero, List.set_cons_succ]
          refine wpAnyL_take (i := 3) (v := ?_) rfl (by kernel_rfl) (by kernel_rfl) (by kernel_rfl) (by kernel_rfl) (fun _ _ _ h => h) (Or.inl ⟨by rfl, ?_⟩) (by assumption) ?_
          rotate_left
          · intro w hSw
            try dsimp only at hSw
            go_simp
            all_goals with_reducible rfl
          try simp only [Act.put, List.setIfInBounds_toArray, List.set_cons_zero, List.set_cons_succ]
          refine wpAnyL_take (i := 4) (v := ?_) rfl (by kernel_rfl) (by kernel_rfl) (by kernel_rfl) (by kernel_rfl) (fun _ _ _ h => h) (Or.inl ⟨by rfl, ?_⟩) (by assumption) ?_
          rotate_left
          · intro w hSw
            try dsimp only at hSw
            go_simp
            all_goals with_reducible rfl
          try simp only [Act.put, List.setIfInBounds_toArray, List.set_cons_zero, List.set_cons_succ]
          refine wpAnyL_take (i := 5) (v := ?_) rfl (by kernel_rfl) (by kernel_rfl) (by kernel_rfl) (by kernel_rfl) (fun _ _ _ h => h) (Or.inl ⟨by rfl, ?_⟩) (by assumption) ?_
          rotate_left
          · intro w hSw
            try dsimp only at hSw
            go_simp
            all_goals with_reducible rfl
          try simp only [Act.put, List.setIfInBounds_toArray, List.set_cons_zero, List.set_cons_succ]
          refine wpAnyL_take (i := 6) (v := ?_) rfl (by kernel_rfl) (by kernel_rfl) (by kernel_rfl) (by kernel_rfl) (fun _ _ _ h => h) (Or.inl ⟨by rfl, ?_⟩) (by assumption) ?_
          rotate_left
          · intro w hSw
            try dsimp only at hSw
            go_simp
            all_goals with_reducible rfl
          try simp only [Act.put, List.setIfInBounds_toArray, List.set_cons_zero, List.set_cons_succ]
          refine wpAnyL_take (i := 7) (v := ?_) rfl (by kernel_rfl) (by kernel_rfl) (by kernel_rfl) (by kernel_rfl) (fun _ _ _ h => h) (Or.inl ⟨by rfl, ?_⟩) (by assumption) ?_
          rotate_left
          · intro w hSw
            try dsimp only at hSw
            go_simp
            all_goals with_reducible rfl
          try simp only [Act.put, List.setIfInBounds_toArray, List.set_cons_zero, List.set_cons_succ]
          obtain ⟨s0, s1, s2⟩ := hHeld
          refine wpAnyL_one (i := 8) (by kernel_rfl) (by rfl) rfl (fun K hK => ?_)
          go_simp
          go_wp2_with fail
          refine hK.out _ _ ⟨s0.alloc s0.size _, cell_later ((Below.refl _ _).alloc (Nat.le_refl _) _) s1, cell_later ((Below.refl _ _).alloc (Nat.le_refl _) _) s2⟩ ?_
          clear hK K
          try simp only [Act.put, List.setIfInBounds_toArray, List.set_cons_zero, List.set_cons_succ]
          refine wpAnyL_tail (i := 9) (by kernel_rfl) (by rfl) rfl (fun K hK => ?_)
          refine step_app_ru (by rfl) _ _ (by rfl) w5.heap.size _ _ (ctR l C m) ((⟨#[]⟩ : ByteArray), la, cx) (by rfl) (World.ownsRow.alloc (owns_after HO.out s0) _) wr.drew.heap.size (by rfl) (by simp [go_sem]) (by simp [go_sem]) (by simp [go_sem]) (by rw [HJL.out]; omega) (by have := HB.out.size; simp; omega) ?_
          intro g3 c3 w7 ho7 hg7 hge7 hlt7 hor7
          refine hK.out _ _ ?_
          clear hK K
          try simp only [Act.put, List.setIfInBounds_toArray, List.set_cons_zero, List.set_cons_succ]
          rw [HJL.out, Nat.add_assoc] at ho7
          rw [HJL.out, Nat.add_assoc]
          have hne3 := app_ne s0 hor7 hne2 hsz
          obtain ⟨ct7, f7⟩ := app_box s0 hg7 hsz hne2 hct hft
          have HO8 := Lib.hid ho7
          have HB8 := Lib.hid (app_below HB.out (Nat.le_refl _) s0 hg7 hgge)
          have hs7 : wr.heap.size + 1 ≤ w7.heap.size := by have := hg7.size; simpa using this
          clear ho7 hg7 hor7 s0 s1 s2 HB HO hct hft cm
          refine wpAny_one (i := 10) (by kernel_rfl) rfl (fun K hK => ?_)
          go_simp
          go_wp2_with fail
          refine hK.out _ _ ?_
          clear hK K
          try simp only [Act.put, List.setIfInBounds_toArray, List.set_cons_zero, List.set_cons_succ]
          refine wpAny_one (i := 11) (by kernel_rfl) rfl (fun K hK => ?_)
          go_simp
          go_wp2_with fail
          refine hK.out _ _ ?_
          clear hK K
          try simp only [Act.put, List.setIfInBounds_toArray, List.set_cons_zero, List.set_cons_succ]
          refine wpAny_done (by kernel_rfl) ?_ _
          have hw1 : IntKind.i64.wrap ((l.length : Int) + (m + 1) - 1) = (l.length : Int) + m := by rw [show (l.length : Int) + (m + 1) - 1 = (l.length : Int) + m by omega]; exact IntWalk.i64_in _ (by omega)
          have ct8 := cell_st_same (.slice (some ⟨g3, 0, none⟩) (l.length + (m + 1)) c3) ct7
          have HC8 := Lib.hid ct8
          have f8 : (w7.setCell ⟨w6.heap.size, 0, none⟩ (.slice (some ⟨g3, 0, none⟩) (l.length + (m + 1)) c3)).frozen? ⟨w6.heap.size, 0, none⟩ = false := by simpa using f7
          have HO9 := Lib.hid (OwnRu.kept HO8.out (grownBy_set w7 ⟨w6.heap.size, 0, none⟩ (.slice (some ⟨g3, 0, none⟩) (l.length + (m + 1)) c3)) (.inr (by simp [Value.ownBlock]; omega)))
          have HB9 := Lib.hid (HB8.out.setCell (p := ⟨w6.heap.size, 0, none⟩) hs6 (.slice (some ⟨g3, 0, none⟩) (l.length + (m + 1)) c3))
          have hs9 : w6.heap.size < (w7.setCell ⟨w6.heap.size, 0, none⟩ (.slice (some ⟨g3, 0, none⟩) (l.length + (m + 1)) c3)).heap.size := by simp; omega
          generalize w7.setCell ⟨w6.heap.size, 0, none⟩ (.slice (some ⟨g3, 0, none⟩) (l.length + (m + 1)) c3) = w9 at *
          clear HO8 HB8 ct7 f7
          go_wp2
          go_roundw
          case rel => exact ⟨m + 1, kk + 1, g3, c3, by have := HMK.out; omega, by omega, by go_num, by rw [HJT.out], HC8.out, f8, hne3, by rw [HJS.out]; exact HO9.out, HB9.out, hs9⟩
          case measure => first | (simp [intOf]; done) | (simp [intOf]; omega)
        · obtain rfl : kk = C.length := by omega
          have hin : ¬ ((C.length : Nat) : Int) < C.length := by omega
          have hm2 : m = C.length - 1 := by omega
          have cr7 := cell_later hb cr
          have cf7 := (hb.frozen (p := ⟨w.heap.size, 0, none⟩) hz5).trans cf
          have HO := Lib.hid hown
          have HBF := Lib.hid (HB.out.trans (hb.mono HB.out.size))
          have HM2 := Lib.hid hm2
          have hml := ctR_len l C m
          have HML := Lib.hid hml
          have hgge := (hown.lt gg rfl).1
          clear hown hb cr cf HB hm2 hml hmk
          go_wp2
          refine bodyPost_ret (v := .agg #[.slice (some ⟨gg, 0, none⟩) (l.length + m) c]) (by simp [results, Try.results44, go_sem, cell_st_same _ cr7]) rfl ⟨_, rfl, ctR l C m, ?_, by rw [HM2.out]; exact HK.out.1, by rw [HM2.out]; exact HK.out.2.1, ?_, by rw [HML.out, HM2.out]; omega, fun h => abcL_ctR h C m, HBF.out.setCell (by simp) _⟩
          · exact OwnRu.weak (OwnRu.kept (r := some w.heap.size) HO.out (grownBy_set _ _ _) (.inr (by simp [Value.ownBlock]; omega))) (show w.heap.size ≤ w5.heap.size by omega)
          · have h9 := HK.out.2.2
            rw [← HM2.out] at h9
            exact h9
end Go.Proofs.Ytoejelieogjjpaa

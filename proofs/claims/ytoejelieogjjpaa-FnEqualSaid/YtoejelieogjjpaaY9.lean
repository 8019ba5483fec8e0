/- Drawn grammars: copies, raised rules, appends of rules; l02Told. -/
import Derived.Test.YtoejelieogjjpaaUA
import Derived.Test.YtoejelieogjjpaaP1
import Derived.Test.YtoejelieogjjpaaUR
import Derived.Deep.AppendLies
import Derived.RegionCalls
import Derived.Test.YtoejelieogjjpaaUT
namespace Go.Proofs.Ytoejelieogjjpaa
open Go.ChangeShapes Go.WideShapes Go.RowKit
set_option linter.unusedVariables false
set_option linter.unusedSimpArgs false
set_option maxHeartbeats 2000000
set_option maxRecDepth 100000
/-- a copy of a grammar -/
theorem s_l02Own (bq oq cap : Nat) (a : Option Addr) (l : List Ru) (w : World) (h0 : l ≠ []) (hn : l.length ≤ 1048576) (hcell : w.cell? ⟨bq, oq, none⟩ = some (.slice a l.length cap)) (hin : InRu w (.slice a l.length cap) l) :
    Calls Try.prog 47 #[.pointer (some ⟨bq, oq, none⟩)] w fun e w' => ∃ v', e = .returned (.agg #[v']) ∧ OwnRu w' w.heap.size v' l ∧ Below w.heap.size w w' := by
  have hp : 0 < l.length := List.length_pos_iff.2 h0
  obtain ⟨i0, hi, hz0, hz1, hz2⟩ := info_parts info_ruR
  rcases hin with ⟨hl0, _⟩ | ⟨b, off, cap', hv, hb, hnc, hcm, hc⟩
  · omega
  injection hv with e1 e2 e3
  subst e1 e3
  have hbq := World.block_lt_of_cell? _ _ hcell
  have hB2 : Below w.heap.size w ((w.alloc (.cells #[.slice none 0 0] 26)).alloc (.cells #[] 59)) := ((Below.refl _ _).alloc (Nat.le_refl _) _).alloc (by simp) _
  have hnews : ∀ j u, (ruV l)[j]? = some u → ((w.alloc (.cells #[.slice none 0 0] 26)).alloc (.cells #[] 59)).cell? ((⟨b, off, none⟩ : Addr).add j) = some u := by
    intro j u hu
    have hj : j < l.length * 3 := by
      rcases Nat.lt_or_ge j (l.length * 3) with hq | hq
      · exact hq
      · rw [List.getElem?_eq_none (by rw [ruV_len]; omega)] at hu; cases hu
    have e : (⟨b, off, none⟩ : Addr).add j = ⟨b, off + j, none⟩ := by unfold Addr.add; split <;> simp_all
    rw [e, hB2.cell (p := ⟨b, off + j, none⟩) hb, hc j hj]
    exact hu
  have hown : ((w.alloc (.cells #[.slice none 0 0] 26)).alloc (.cells #[] 59)).ownsRow (w.heap.size + 1) 59 3 (.slice (some ⟨w.heap.size + 1, 0, none⟩) 0 0) 0 [] := by
    have := World.ownsRow_made (base := w.heap.size + 1) (e := 59) (size := 3) (w.alloc (.cells #[.slice none 0 0] 26)) #[] 0 (by simp) (by decide) (by simp)
    simpa using this
  have HNW := Lib.hid hnews
  have HB2 := Lib.hid hB2
  clear hc hnews hB2 hb hnc hcm
  go_enter Try.func47, Try.ntmps47
  go_wp2_with (at_builtin; refine wpList_append_own _ rfl _ _ 24 rfl (w.heap.size + 1) 59 i0 (.agg #[.string ⟨#[]⟩, .int .i64 0, .int .i64 0]) 3 32 Try.underlying24 hi hz0 hz1 hz2 rfl (by decide) _ _ _ rfl hown ⟨b, off, none⟩ l.length cap (ruV l) rfl (by rw [ruV_len]) HNW.out (ruV_one l) (by unfold maxLen; omega) (by omega) (by simp) ?_; intro v' w1 ho1 hg1 _; obtain ⟨g2, cap2, rfl, hge2, hlt2⟩ := owns_some3 ho1 (by omega); obtain ⟨c1, f1⟩ := keepA hg1)
  have ho2 := owns_weak (ownsRow_setCell_below ho1 (a := ⟨w.heap.size, 0, none⟩) (by simp) (.slice (some ⟨g2, 0, none⟩) (0 + l.length) cap2)) (show w.heap.size ≤ _ by simp)
  have hres : (w1.setCell ⟨w.heap.size, 0, none⟩ (.slice (some ⟨g2, 0, none⟩) (0 + l.length) cap2)).cell? ⟨w.heap.size, 0, none⟩ = some (.slice (some ⟨g2, 0, none⟩) (0 + l.length) cap2) := cell_st_same _ c1
  rw [Nat.zero_add] at ho2 hres
  have hB3 : Below w.heap.size w w1 := Below.grown HB2.out hg1 (by simp; omega) (fun k hk => by have hk2 : some (w.heap.size + 1) = some k := hk; injection hk2 with hk2; omega)
  have HO := Lib.hid ho2
  have HB3 := Lib.hid hB3
  clear ho1 ho2 hg1 hB3 hown
  go_wp2
  exact bodyPost_ret (v := .agg #[.slice (some ⟨g2, 0, none⟩) l.length cap2]) (by simp [results, Try.results47, go_sem, hres]) rfl ⟨_, rfl, by unfold OwnRu; simpa using HO.out, HB3.out.setCell (by simp) _⟩
theorem s_l02Told (a : Option Addr) (cap : Nat) (l : List Ru) (w : World) (hn : l.length ≤ 1048576) (hsz : ∀ r ∈ l, r.1.size ≤ 1048576) (hin : InRu w (.slice a l.length cap) l) :
    Calls Try.prog 71 #[.agg #[.slice a l.length cap]] w fun e w' => Below w.heap.size w w' ∧ ((gOk l = true ∧ e = .returned (.tuple #[.agg #[.slice a l.length cap], .int .i64 0])) ∨ (gOk l = false ∧ e = .returned (.tuple #[.agg #[.slice none 0 0], .int .i64 3]))) := by
  have b0 := box_cell w (.slice a l.length cap) 26
  have i0 := inRu_box (o := .cells #[.slice a l.length cap] 26) hin
  have hB := (Below.refl (w.alloc (.cells #[.slice a l.length cap] 26)).heap.size (w.alloc (.cells #[.slice a l.length cap] 26))).alloc (Nat.le_refl _) (.cells #[.slice none 0 0] 26)
  have HS := Lib.hid (s_l02Ok w.heap.size 0 cap a l _ hn hsz (cell_later hB b0) (inRu_below i0 hB))
  have HB := Lib.hid hB
  clear hin i0 b0 hB hsz
  cases hok : gOk l
  all_goals
    rw [hok] at HS
    go_enter Try.func71, Try.ntmps71
    go_wp2_with fail
    refine HS.out.mono ?_
    rintro e w2 ⟨rfl, hb2⟩
    have c0 : w2.cell? ⟨w.heap.size, 0, none⟩ = some (.slice a l.length cap) := by rw [hb2.cell (by simp; omega)]; simp [go_sem]
    have c1 : w2.cell? ⟨w.heap.size + 1, 0, none⟩ = some (.slice none 0 0) := by rw [hb2.cell (by simp)]; simp [go_sem]
    have f1 : w2.frozen? ⟨w.heap.size + 1, 0, none⟩ = false := by rw [hb2.frozen (by simp)]; simp [go_sem]
    have HB3 : Hid (Below w.heap.size w w2) := below_box (below_box hb2)
    clear hb2 HS
    go_wp2
  · exact bodyPost_ret (v := .tuple #[.agg #[.slice none 0 0], .int .i64 3]) (by simp [results, Try.results71, go_sem, cell_st_same _ c1]) rfl ⟨HB3.out.setCell (by simp) _, .inr ⟨trivial, rfl⟩⟩
  · exact bodyPost_ret (v := .tuple #[.agg #[.slice a l.length cap], .int .i64 0]) (by simp [results, Try.results71, go_sem, cell_st_same _ c1]) rfl ⟨HB3.out.setCell (by simp) _, .inl ⟨trivial, rfl⟩⟩
end Go.Proofs.Ytoejelieogjjpaa

/- Drawn grammars: raised rules, joined and powered grammars. -/
namespace Go.Proofs.Ytoejelieogjjpaa
open Go.ChangeShapes Go.WideShapes Go.RowKit
set_option linter.unusedVariables false
set_option linter.unusedSimpArgs false
set_option maxHeartbeats 2000000
set_option maxRecDepth 100000
def raR (r : Ru) (by_ : Int) : Ru := if r.1.size = 0 then (r.1, wrap64 (r.2.1 + by_), wrap64 (r.2.2 + by_)) else r
theorem s_l02Raised (x : ByteArray) (p q d : Int) (w : World) :
    Calls Try.prog 63 #[.agg #[.string x, .int .i64 p, .int .i64 q], .int .i64 d] w fun e w' => e = .returned (.agg #[.string (raR (x, p, q) d).1, .int .i64 (raR (x, p, q) d).2.1, .int .i64 (raR (x, p, q) d).2.2]) ∧ Below w.heap.size w w' := by
  by_cases hz : x.size = 0
  · have ex := size_zero hz
    have HR : Hid (raR (x, p, q) d = (x, wrap64 (p + d), wrap64 (q + d))) := by show _ = _; rw [raR, if_pos hz]
    rw [HR.out]
    subst ex
    clear hz HR
    go_enter Try.func63, Try.ntmps63
    go_wp2
    exact bodyPost_ret (v := .agg #[.string ⟨#[]⟩, .int .i64 (wrap64 (p + d)), .int .i64 (wrap64 (q + d))]) (by simp [results, Try.results63, go_sem]) rfl ⟨rfl, ((Below.refl _ _).alloc (Nat.le_refl _) _).alloc (by simp) _⟩
  · have hne := neq_empty hz
    have hne2 := not_empty hz
    have HR : Hid (raR (x, p, q) d = (x, p, q)) := by show _ = _; rw [raR, if_neg hz]
    rw [HR.out]
    clear hz HR
    go_enter Try.func63, Try.ntmps63
    go_wp2
    exact bodyPost_ret (v := .agg #[.string x, .int .i64 p, .int .i64 q]) (by simp [results, Try.results63, go_sem]) rfl ⟨rfl, ((Below.refl _ _).alloc (Nat.le_refl _) _).alloc (by simp) _⟩
def joR (l m : List Ru) (k : Nat) : List Ru := l ++ (m.take k).map (fun r => raR r l.length)
def joA (l m : List Ru) : List Ru := joR l m m.length ++ [(⟨#[]⟩, (l.length : Int) - 1, (l.length : Int) + m.length - 1)]
theorem joR_len {l m : List Ru} {k : Nat} (h : k ≤ m.length) : (joR l m k).length = l.length + k := by simp [joR]; omega
theorem joR_step {l m : List Ru} {k : Nat} (h : k < m.length) : joR l m (k + 1) = joR l m k ++ [raR (ruA m k) l.length] := by
  rw [joR, joR, List.take_succ_eq_append_getElem h, List.map_append, List.append_assoc, ruA, List.getD, List.getElem?_eq_getElem h]
  rfl
theorem s_l02Join (ba oa ca bb ob cb : Nat) (a b : Option Addr) (l m : List Ru) (w : World) (h0 : l ≠ []) (h1 : m ≠ []) (hl : l.length ≤ 400) (hm : m.length ≤ 400)
    (hca : w.cell? ⟨ba, oa, none⟩ = some (.slice a l.length ca)) (hia : InRu w (.slice a l.length ca) l) (hcb : w.cell? ⟨bb, ob, none⟩ = some (.slice b m.length cb)) (hib : InRu w (.slice b m.length cb) m) :
    Calls Try.prog 46 #[.pointer (some ⟨ba, oa, none⟩), .pointer (some ⟨bb, ob, none⟩)] w fun e w' => ∃ v', e = .returned (.agg #[v']) ∧ OwnRu w' w.heap.size v' (joA l m) ∧ Below w.heap.size w w' := by
  have hp : 0 < l.length := List.length_pos_iff.2 h0
  have hq : 0 < m.length := List.length_pos_iff.2 h1
  have hpe : ((l.length : Int) == 0) = false := by rw [beq_eq_false_iff_ne]; omega
  have hqe : ((m.length : Int) == 0) = false := by rw [beq_eq_false_iff_ne]; omega
  have hba := World.block_lt_of_cell? _ _ hca
  have hbb := World.block_lt_of_cell? _ _ hcb
  have HA := Lib.hid (fun (w' : World) c i => s_l02Own ba oa ca a l w' h0 (by omega) c i)
  have hB := (Below.refl w.heap.size w).alloc (Nat.le_refl _) (.cells #[.slice none 0 0] 26)
  have HIA := Lib.hid (inRu_below hia hB)
  have HIB := Lib.hid hib
  clear hia hib h0 h1
  go_enter Try.func46, Try.ntmps46
  go_wp2_with fail
  refine (HA.out _ (cell_later hB hca) HIA.out).mono ?_
  rintro e w1 ⟨v1, rfl, ho1, hb1⟩
  obtain ⟨g1, cc1, rfl, hg1, hg1'⟩ := owns_some3 ho1 (by omega)
  have c0 : w1.cell? ⟨w.heap.size, 0, none⟩ = some (.slice none 0 0) := by rw [hb1.cell (by simp)]; simp [go_sem]
  have f0 : w1.frozen? ⟨w.heap.size, 0, none⟩ = false := by rw [hb1.frozen (by simp)]; simp [go_sem]
  have hb2 : Below w.heap.size w w1 := below_box hb1
  have hca1 := cell_later hb2 hca
  have hcb1 := cell_later hb2 hcb
  have hs1 : w.heap.size + 1 ≤ w1.heap.size := by have := hb1.size; simpa using this
  have ho1' : OwnRu w1 (w.heap.size + 1) (.slice (some ⟨g1, 0, none⟩) l.length cc1) l := by simpa using ho1
  simp at hg1
  have hba1 : ba < w1.heap.size := by omega
  have hbb1 : bb < w1.heap.size := by omega
  have HO1 := Lib.hid ho1'
  have HB2 := Lib.hid hb2
  clear ho1 ho1' hb1 hb2 HA hB HIA
  go_wp2
  go_loopw [7] (fun i wr => ∃ k g c : Nat, k ≤ m.length ∧ i = .int .i64 k ∧ wr.cell? ⟨w1.heap.size, 0, none⟩ = some (.slice (some ⟨g, 0, none⟩) (l.length + k) c) ∧ wr.frozen? ⟨w1.heap.size, 0, none⟩ = false ∧ g ≠ w1.heap.size ∧ OwnRu wr (w.heap.size + 1) (.slice (some ⟨g, 0, none⟩) (l.length + k) c) (joR l m k) ∧ Below w.heap.size w wr ∧ wr.cell? ⟨w.heap.size, 0, none⟩ = some (.slice none 0 0) ∧ wr.frozen? ⟨w.heap.size, 0, none⟩ = false ∧ w1.heap.size < wr.heap.size) (fun i _ => m.length - (intOf i).toNat)
  case atStart =>
    refine ⟨0, g1, cc1, by omega, rfl, by simp [go_sem], by simp [go_sem], by omega, ?_, HB2.out.alloc (by omega) _, ?_, ?_, by simp⟩
    · have := HO1.out.alloc (.cells #[.slice (some ⟨g1, 0, none⟩) l.length cc1] 26)
      simpa [OwnRu, joR] using this
    · exact cell_later ((Below.refl _ _).alloc (Nat.le_refl _) _) c0
    · rw [((Below.refl w1.heap.size w1).alloc (Nat.le_refl _) _).frozen (show w.heap.size < w1.heap.size by omega)]; exact f0
  case round =>
    obtain ⟨k, g, c, hk, rfl, hct, hft, hne, hown, hb, hcr, hfr, hsz⟩ := hrel
    have hcbw := cell_later hb hcb
    have hcaw := cell_later hb hca
    by_cases hlt : k < m.length
    · have hin : ((k : Nat) : Int) < m.length := by omega
      obtain ⟨b', off, rfl, hbl, hc0, hc1, hc2⟩ := inRu_at (inRu_below HIB.out hb) hlt
      have hbl2 : b' < w.heap.size := by
        obtain ⟨b'', off', e, h', -⟩ := inRu_at HIB.out hlt
        injection e with e; injection e with e; omega
      have hgge : w.heap.size + 1 ≤ g := (hown.lt g rfl).1
      have HSTEP := Lib.hid (joR_step (l := l) hlt)
      have HJL := Lib.hid (joR_len (l := l) (m := m) (k := k) hk)
      obtain ⟨r, hr⟩ : ∃ r, ruA m k = r := ⟨_, rfl⟩
      rw [hr] at HSTEP hc0 hc1 hc2
      obtain ⟨x1, x2, x3⟩ := r
      clear hr
      simp only at hc0 hc1 hc2
      have HB := Lib.hid hb
      have HO := Lib.hid hown
      clear hb hown
      go_wp2
      refine wp_region_L (S := fun w' => Below wr.heap.size wr w' ∧ w'.cell? ⟨w1.heap.size, 0, none⟩ = some (.slice (some ⟨g, 0, none⟩) (l.length + k) c) ∧ w'.cell? ⟨bb, ob, none⟩ = some (.slice (some ⟨b', off, none⟩) m.length cb) ∧ w'.cell? ⟨b', off + k * 3, none⟩ = some (.string x1) ∧ w'.cell? ⟨b', off + k * 3 + 1, none⟩ = some (.int .i64 x2) ∧ w'.cell? ⟨b', off + k * 3 + 2, none⟩ = some (.int .i64 x3)) (T := [12]) (by kernel_rfl) ⟨Below.drew (Below.refl _ _), by assumption, by assumption, by assumption, by assumption, by assumption⟩ (fun hHeld => ?_)
      refine wpAnyL_take (i := 0) (v := ?_) rfl (by kernel_rfl) (by kernel_rfl) (by kernel_rfl) (by kernel_rfl) (fun _ _ _ h => h) (Or.inl ⟨by rfl, ?_⟩) (by assumption) ?_
      rotate_left
      · intro w hSw
        try dsimp only at hSw
        go_simp
        all_goals with_reducible rfl
      try simp only [Act.put, List.setIfInBounds_toArray, List.set_cons_zero, List.set_cons_succ]
      refine wpAnyL_take (i := 1) (v := ?_) rfl (by kernel_rfl) (by kernel_rfl) (by kernel_rfl) (by kernel_rfl) (fun _ _ _ h => h) (Or.inl ⟨by rfl, ?_⟩) (by assumption) ?_
      rotate_left
      · intro w hSw
        try dsimp only at hSw
        go_simp
        all_goals with_reducible rfl
      try simp only [Act.put, List.setIfInBounds_toArray, List.set_cons_zero, List.set_cons_succ]
      refine wpAnyL_take (i := 2) (v := ?_) rfl (by kernel_rfl) (by kernel_rfl) (by kernel_rfl) (by kernel_rfl) (fun _ _ _ h => h) (Or.inl ⟨by rfl, ?_⟩) (by assumption) ?_
      rotate_left
      · intro w hSw
        try dsimp only at hSw
        go_simp
        all_goals with_reducible rfl
      try simp only [Act.put, List.setIfInBounds_toArray, List.set_cons_zero, List.set_cons_succ]
      refine wpAnyL_take (i := 3) (v := ?_) rfl (by kernel_rfl) (by kernel_rfl) (by kernel_rfl) (by kernel_rfl) (fun _ _ _ h => h) (Or.inl ⟨by rfl, ?_⟩) (by assumption) ?_
      rotate_left
      · intro w hSw
        try dsimp only at hSw
        go_simp
        all_goals with_reducible rfl
      try simp only [Act.put, List.setIfInBounds_toArray, List.set_cons_zero, List.set_cons_succ]
      refine wpAnyL_take (i := 4) (v := ?_) rfl (by kernel_rfl) (by kernel_rfl) (by kernel_rfl) (by kernel_rfl) (fun _ _ _ h => h) (Or.inl ⟨by rfl, ?_⟩) (by assumption) ?_
      rotate_left
      · intro w hSw
        try dsimp only at hSw
        go_simp
        all_goals with_reducible rfl
      try simp only [Act.put, List.setIfInBounds_toArray, List.set_cons_zero, List.set_cons_succ]
      refine wpAnyL_take (i := 5) (v := ?_) rfl (by kernel_rfl) (by kernel_rfl) (by kernel_rfl) (by kernel_rfl) (fun _ _ _ h => h) (Or.inl ⟨by rfl, ?_⟩) (by assumption) ?_
      rotate_left
      · intro w hSw
        try dsimp only at hSw
        go_simp
        all_goals with_reducible rfl
      try simp only [Act.put, List.setIfInBounds_toArray, List.set_cons_zero, List.set_cons_succ]
      refine wpAnyL_take (i := 6) (v := ?_) rfl (by kernel_rfl) (by kernel_rfl) (by kernel_rfl) (by kernel_rfl) (fun _ _ _ h => h) (Or.inl ⟨by rfl, ?_⟩) (by assumption) ?_
      rotate_left
      · intro w hSw
        try dsimp only at hSw
        go_simp
        all_goals with_reducible rfl
      try simp only [Act.put, List.setIfInBounds_toArray, List.set_cons_zero, List.set_cons_succ]
      refine wpAnyL_take (i := 7) (v := ?_) rfl (by kernel_rfl) (by kernel_rfl) (by kernel_rfl) (by kernel_rfl) (fun _ _ _ h => h) (Or.inl ⟨by rfl, ?_⟩) (by assumption) ?_
      rotate_left
      · intro w hSw
        try dsimp only at hSw
        go_simp
        all_goals with_reducible rfl
      try simp only [Act.put, List.setIfInBounds_toArray, List.set_cons_zero, List.set_cons_succ]
      refine wpAnyL_take (i := 8) (v := ?_) rfl (by kernel_rfl) (by kernel_rfl) (by kernel_rfl) (by kernel_rfl) (fun _ _ _ h => h) (Or.inl ⟨by rfl, ?_⟩) (by assumption) ?_
      rotate_left
      · intro w hSw
        try dsimp only at hSw
        go_simp
        all_goals with_reducible rfl
      try simp only [Act.put, List.setIfInBounds_toArray, List.set_cons_zero, List.set_cons_succ]
      refine wpAnyL_take (i := 9) (v := ?_) rfl (by kernel_rfl) (by kernel_rfl) (by kernel_rfl) (by kernel_rfl) (fun _ _ _ h => h) (Or.inl ⟨by rfl, ?_⟩) (by assumption) ?_
      rotate_left
      · intro w hSw
        try dsimp only at hSw
        go_simp
        all_goals with_reducible rfl
      try simp only [Act.put, List.setIfInBounds_toArray, List.set_cons_zero, List.set_cons_succ]
      obtain ⟨s0, s1, s2, s3, s4, s5⟩ := hHeld
      refine wpAnyL_one (i := 10) (by kernel_rfl) (by rfl) rfl (fun K hK => ?_)
      go_simp
      go_at_call 63
      refine (s_l02Raised x1 x2 x3 _ _).mono ?_
      rintro e w2 ⟨rfl, hb7⟩
      have t0 := s0.trans (hb7.mono s0.size)
      have t1 := cell_later hb7 s1
      have t2 := cell_later hb7 s2
      have t3 := cell_later hb7 s3
      have t4 := cell_later hb7 s4
      have t5 := cell_later hb7 s5
      clear s0 s1 s2 s3 s4 s5 hb7
      go_wp2_with fail
      refine hK.out _ _ ⟨t0, t1, t2, t3, t4, t5⟩ ?_
      clear hK K
      try simp only [Act.put, List.setIfInBounds_toArray, List.set_cons_zero, List.set_cons_succ]
      refine wpAnyL_one (i := 11) (by kernel_rfl) (by rfl) rfl (fun K hK => ?_)
      go_simp
      go_wp2_with fail
      refine hK.out _ _ ⟨t0.alloc t0.size _, cell_later ((Below.refl _ _).alloc (Nat.le_refl _) _) t1, cell_later ((Below.refl _ _).alloc (Nat.le_refl _) _) t2, cell_later ((Below.refl _ _).alloc (Nat.le_refl _) _) t3, cell_later ((Below.refl _ _).alloc (Nat.le_refl _) _) t4, cell_later ((Below.refl _ _).alloc (Nat.le_refl _) _) t5⟩ ?_
      clear hK K
      try simp only [Act.put, List.setIfInBounds_toArray, List.set_cons_zero, List.set_cons_succ]
      refine wpAnyL_tail (i := 12) (by kernel_rfl) (by rfl) rfl (fun K hK => ?_)
      refine step_app_ru (by rfl) _ _ (by rfl) (w.heap.size + 1) _ _ (joR l m k) (raR (x1, x2, x3) l.length) (by rfl) (World.ownsRow.alloc (owns_after HO.out t0) _) w2.heap.size (by rfl) (by simp [go_sem]) (by simp [go_sem]) (by simp [go_sem]) (by rw [HJL.out]; omega) (by have := t0.size; simp; omega) ?_
      intro g3 c3 w4 ho4 hg4 hge4 hlt4 hor4
      have hne3 : g3 ≠ w1.heap.size := by
        have := t0.size
        rcases hor4 with h | h
        · simp [Value.ownBlock] at h; omega
        · simp at h; omega
      clear hor4
      rw [HJL.out, Nat.add_assoc] at ho4
      rw [HJL.out, Nat.add_assoc]
      refine hK.out _ _ ?_
      clear hK K
      try simp only [Act.put, List.setIfInBounds_toArray, List.set_cons_zero, List.set_cons_succ]
      have f2 : w2.frozen? ⟨w1.heap.size, 0, none⟩ = false := by rw [t0.frozen (by simpa using hsz)]; exact hft
      have tb : w1.heap.size < w2.heap.size := by have := t0.size; omega
      have ct4 : w4.cell? ⟨w1.heap.size, 0, none⟩ = some (.slice (some ⟨g, 0, none⟩) (l.length + k) c) := by
        rw [hg4.cell_far _ (by simp; omega) (by simp [Value.ownBlock]; omega)]; exact cell_later ((Below.refl _ _).alloc (Nat.le_refl _) _) t1
      have f4 : w4.frozen? ⟨w1.heap.size, 0, none⟩ = false := by
        rw [hg4.frozen_far _ (by simp; omega) (by simp [Value.ownBlock]; omega)]; exact (((Below.refl w2.heap.size w2).alloc (Nat.le_refl _) _).frozen (p := ⟨w1.heap.size, 0, none⟩) tb).trans f2
      have hs4 : w2.heap.size + 1 ≤ w4.heap.size := by have := hg4.size; simpa using this
      have hb4 : Below w.heap.size w w4 := Below.grown ((HB.out.trans (t0.mono HB.out.size)).alloc (by have := HB.out.size; have := t0.size; omega) _) hg4 (by have := HB.out.size; have := t0.size; simp; omega) (fun q hq => by simp [Value.ownBlock] at hq; omega)
      have hbx : w4.cell? ⟨w.heap.size, 0, none⟩ = wr.cell? ⟨w.heap.size, 0, none⟩ := by
        rw [hg4.cell_far _ (by simp; omega) (by simp [Value.ownBlock]; omega), ((Below.refl w2.heap.size w2).alloc (Nat.le_refl _) _).cell (p := ⟨w.heap.size, 0, none⟩) (by simp; omega), t0.cell (p := ⟨w.heap.size, 0, none⟩) (by simp; omega)]
      have hfx : w4.frozen? ⟨w.heap.size, 0, none⟩ = false := by
        rw [hg4.frozen_far _ (by simp; omega) (by simp [Value.ownBlock]; omega), ((Below.refl w2.heap.size w2).alloc (Nat.le_refl _) _).frozen (p := ⟨w.heap.size, 0, none⟩) (by simp; omega), t0.frozen (p := ⟨w.heap.size, 0, none⟩) (by simp; omega)]; exact hfr
      have HBX := Lib.hid hbx
      have HO4 := Lib.hid ho4
      have HB4 := Lib.hid hb4
      clear ho4 hb4 hg4 hbx f2 t0 t1 t2 t3 t4 t5 HO HB
      refine wpAny_one (i := 13) (by kernel_rfl) rfl (fun K hK => ?_)
      go_simp
      go_wp2_with fail
      refine hK.out _ _ ?_
      clear hK K
      try simp only [Act.put, List.setIfInBounds_toArray, List.set_cons_zero, List.set_cons_succ]
      refine wpAny_one (i := 14) (by kernel_rfl) rfl (fun K hK => ?_)
      go_simp
      go_wp2_with fail
      refine hK.out _ _ ?_
      clear hK K
      try simp only [Act.put, List.setIfInBounds_toArray, List.set_cons_zero, List.set_cons_succ]
      refine wpAny_done (by kernel_rfl) ?_ _
      go_wp2
      go_roundw
      case rel =>
        refine ⟨k + 1, g3, c3, by omega, by go_num, cell_st_same _ ct4, by simpa using f4, hne3, ?_, HB4.out.setCell (by simp; omega) _, ?_, ?_, by simp; omega⟩
        · rw [HSTEP.out]; exact HO4.out.kept (grownBy_set _ _ _) (.inr (by simp [Value.ownBlock]; omega))
        · rw [World.cell?_setCell_far _ _ _ _ (by simp; omega), HBX.out]; exact hcr
        · simpa using hfx
      case measure => simp [intOf]; omega
    · obtain rfl : k = m.length := by omega
      have hin : ¬ ((m.length : Nat) : Int) < m.length := by omega
      have hw1 : IntKind.i64.wrap ((l.length : Int) - 1) = (l.length : Int) - 1 := IntWalk.i64_in _ (by omega)
      have hw2 : IntKind.i64.wrap ((l.length : Int) + m.length) = (l.length : Int) + m.length := IntWalk.i64_in _ (by omega)
      have hw3 : IntKind.i64.wrap ((l.length : Int) + m.length - 1) = (l.length : Int) + m.length - 1 := IntWalk.i64_in _ (by omega)
      have hgge : w.heap.size + 1 ≤ g := (hown.lt g rfl).1
      have HJL := Lib.hid (joR_len (l := l) (m := m) (k := m.length) (Nat.le_refl _))
      have HB := Lib.hid hb
      have HO := Lib.hid hown
      clear hb hown hcb1 hca1 HO1
      go_wp2
      refine wp_region_L (S := fun w' => Below wr.heap.size wr w' ∧ w'.cell? ⟨w1.heap.size, 0, none⟩ = some (.slice (some ⟨g, 0, none⟩) (l.length + m.length) c) ∧ w'.cell? ⟨bb, ob, none⟩ = some (.slice b m.length cb)) (T := [14]) (by kernel_rfl) ⟨Below.drew (Below.refl _ _), by assumption, by assumption⟩ (fun hHeld => ?_)
      refine wpAnyL_take (i := 0) (v := ?_) rfl (by kernel_rfl) (by kernel_rfl) (by kernel_rfl) (by kernel_rfl) (fun _ _ _ h => h) (Or.inl ⟨by rfl, ?_⟩) (by assumption) ?_
      rotate_left
      · intro w hSw
        try dsimp only at hSw
        go_simp
        all_goals with_reducible rfl
      try simp only [Act.put, List.setIfInBounds_toArray, List.set_cons_zero, List.set_cons_succ]
      refine wpAnyL_take (i := 1) (v := ?_) rfl (by kernel_rfl) (by kernel_rfl) (by kernel_rfl) (by kernel_rfl) (fun _ _ _ h => h) (Or.inl ⟨by rfl, ?_⟩) (by assumption) ?_
      rotate_left
      · intro w hSw
        try dsimp only at hSw
        go_simp
        all_goals with_reducible rfl
      try simp only [Act.put, List.setIfInBounds_toArray, List.set_cons_zero, List.set_cons_succ]
      refine wpAnyL_take (i := 2) (v := ?_) rfl (by kernel_rfl) (by kernel_rfl) (by kernel_rfl) (by kernel_rfl) (fun _ _ _ h => h) (Or.inl ⟨by rfl, ?_⟩) (by assumption) ?_
      rotate_left
      · intro w hSw
        try dsimp only at hSw
        go_simp
        all_goals with_reducible rfl
      try simp only [Act.put, List.setIfInBounds_toArray, List.set_cons_zero, List.set_cons_succ]
      refine wpAnyL_take (i := 3) (v := ?_) rfl (by kernel_rfl) (by kernel_rfl) (by kernel_rfl) (by kernel_rfl) (fun _ _ _ h => h) (Or.inl ⟨by rfl, ?_⟩) (by assumption) ?_
      rotate_left
      · intro w hSw
        try dsimp only at hSw
        go_simp
        all_goals with_reducible rfl
      try simp only [Act.put, List.setIfInBounds_toArray, List.set_cons_zero, List.set_cons_succ]
      refine wpAnyL_take (i := 4) (v := ?_) rfl (by kernel_rfl) (by kernel_rfl) (by kernel_rfl) (by kernel_rfl) (fun _ _ _ h => h) (Or.inl ⟨by rfl, ?_⟩) (by assumption) ?_
      rotate_left
      · intro w hSw
        try dsimp only at hSw
        go_simp
        all_goals with_reducible rfl
      try simp only [Act.put, List.setIfInBounds_toArray, List.set_cons_zero, List.set_cons_succ]
      refine wpAnyL_take (i := 5) (v := ?_) rfl (by kernel_rfl) (by kernel_rfl) (by kernel_rfl) (by kernel_rfl) (fun _ _ _ h => h) (Or.inl ⟨by rfl, ?_⟩) (by assumption) ?_
      rotate_left
      · intro w hSw
        try dsimp only at hSw
        go_simp
        all_goals with_reducible rfl
      try simp only [Act.put, List.setIfInBounds_toArray, List.set_cons_zero, List.set_cons_succ]
      refine wpAnyL_take (i := 6) (v := ?_) rfl (by kernel_rfl) (by kernel_rfl) (by kernel_rfl) (by kernel_rfl) (fun _ _ _ h => h) (Or.inl ⟨by rfl, ?_⟩) (by assumption) ?_
      rotate_left
      · intro w hSw
        try dsimp only at hSw
        go_simp
        all_goals with_reducible rfl
      try simp only [Act.put, List.setIfInBounds_toArray, List.set_cons_zero, List.set_cons_succ]
      refine wpAnyL_take (i := 7) (v := ?_) rfl (by kernel_rfl) (by kernel_rfl) (by kernel_rfl) (by kernel_rfl) (fun _ _ _ h => h) (Or.inl ⟨by rfl, ?_⟩) (by assumption) ?_
      rotate_left
      · intro w hSw
        try dsimp only at hSw
        go_simp
        all_goals with_reducible rfl
      try simp only [Act.put, List.setIfInBounds_toArray, List.set_cons_zero, List.set_cons_succ]
      refine wpAnyL_take (i := 8) (v := ?_) rfl (by kernel_rfl) (by kernel_rfl) (by kernel_rfl) (by kernel_rfl) (fun _ _ _ h => h) (Or.inl ⟨by rfl, ?_⟩) (by assumption) ?_
      rotate_left
      · intro w hSw
        try dsimp only at hSw
        go_simp
        all_goals with_reducible rfl
      try simp only [Act.put, List.setIfInBounds_toArray, List.set_cons_zero, List.set_cons_succ]
      refine wpAnyL_take (i := 9) (v := ?_) rfl (by kernel_rfl) (by kernel_rfl) (by kernel_rfl) (by kernel_rfl) (fun _ _ _ h => h) (Or.inl ⟨by rfl, ?_⟩) (by assumption) ?_
      rotate_left
      · intro w hSw
        try dsimp only at hSw
        go_simp
        all_goals with_reducible rfl
      try simp only [Act.put, List.setIfInBounds_toArray, List.set_cons_zero, List.set_cons_succ]
      refine wpAnyL_take (i := 10) (v := ?_) rfl (by kernel_rfl) (by kernel_rfl) (by kernel_rfl) (by kernel_rfl) (fun _ _ _ h => h) (Or.inl ⟨by rfl, ?_⟩) (by assumption) ?_
      rotate_left
      · intro w hSw
        try dsimp only at hSw
        go_simp
        all_goals with_reducible rfl
      try simp only [Act.put, List.setIfInBounds_toArray, List.set_cons_zero, List.set_cons_succ]
      refine wpAnyL_take (i := 11) (v := ?_) rfl (by kernel_rfl) (by kernel_rfl) (by kernel_rfl) (by kernel_rfl) (fun _ _ _ h => h) (Or.inl ⟨by rfl, ?_⟩) (by assumption) ?_
      rotate_left
      · intro w hSw
        try dsimp only at hSw
        go_simp
        all_goals with_reducible rfl
      try simp only [Act.put, List.setIfInBounds_toArray, List.set_cons_zero, List.set_cons_succ]
      refine wpAnyL_take (i := 12) (v := ?_) rfl (by kernel_rfl) (by kernel_rfl) (by kernel_rfl) (by kernel_rfl) (fun _ _ _ h => h) (Or.inl ⟨by rfl, ?_⟩) (by assumption) ?_
      rotate_left
      · intro w hSw
        try dsimp only at hSw
        go_simp
        all_goals with_reducible rfl
      try simp only [Act.put, List.setIfInBounds_toArray, List.set_cons_zero, List.set_cons_succ]
      obtain ⟨s0, s1, s2⟩ := hHeld
      refine wpAnyL_one (i := 13) (by kernel_rfl) (by rfl) rfl (fun K hK => ?_)
      go_simp
      go_wp2_with fail
      refine hK.out _ _ ⟨s0.alloc s0.size _, cell_later ((Below.refl _ _).alloc (Nat.le_refl _) _) s1, cell_later ((Below.refl _ _).alloc (Nat.le_refl _) _) s2⟩ ?_
      clear hK K
      try simp only [Act.put, List.setIfInBounds_toArray, List.set_cons_zero, List.set_cons_succ]
      refine wpAnyL_tail (i := 14) (by kernel_rfl) (by rfl) rfl (fun K hK => ?_)
      refine step_app_ru (by rfl) _ _ (by rfl) (w.heap.size + 1) _ _ (joR l m m.length) (⟨#[]⟩, (l.length : Int) - 1, (l.length : Int) + m.length - 1) (by rfl) (World.ownsRow.alloc (owns_after HO.out s0) _) wr.drew.heap.size (by rfl) (by simp [go_sem]) (by simp [go_sem]) (by simp [go_sem]) (by rw [HJL.out]; omega) (by have := s0.size; simp; omega) ?_
      intro g3 c3 w4 ho4 hg4 hge4 hlt4 hor4
      refine hK.out _ _ ?_
      clear hK K
      try simp only [Act.put, List.setIfInBounds_toArray, List.set_cons_zero, List.set_cons_succ]
      rw [HJL.out, Nat.add_assoc] at ho4
      rw [HJL.out, Nat.add_assoc]
      have hne3 := app_ne s0 hor4 hne hsz
      obtain ⟨ct4, f4⟩ := app_box s0 hg4 hsz hne hct hft
      obtain ⟨cr4, fr4⟩ := app_box s0 hg4 (show w.heap.size < wr.heap.size by omega) (show g ≠ w.heap.size by omega) hcr hfr
      have HO4 := Lib.hid ho4
      have HB4 := Lib.hid (app_below HB.out (Nat.le_refl _) s0 hg4 (show w.heap.size ≤ g by omega))
      have hs4 : wr.heap.size + 1 ≤ w4.heap.size := by have := hg4.size; simpa using this
      clear ho4 hg4 hor4 s0 s1 s2 HB HO hct hft hcr hfr
      refine wpAny_one (i := 15) (by kernel_rfl) rfl (fun K hK => ?_)
      go_simp
      go_wp2_with fail
      refine hK.out _ _ ?_
      clear hK K
      try simp only [Act.put, List.setIfInBounds_toArray, List.set_cons_zero, List.set_cons_succ]
      refine wpAny_one (i := 16) (by kernel_rfl) rfl (fun K hK => ?_)
      go_simp
      go_wp2_with fail
      refine hK.out _ _ ?_
      clear hK K
      try simp only [Act.put, List.setIfInBounds_toArray, List.set_cons_zero, List.set_cons_succ]
      refine wpAny_done (by kernel_rfl) ?_ _
      go_wp2
      refine bodyPost_ret (v := .agg #[.slice (some ⟨g3, 0, none⟩) (l.length + (m.length + 1)) c3]) ?_ rfl ⟨_, rfl, owns_weak ((HO4.out.kept (grownBy_set _ _ _) (.inr (by simp [Value.ownBlock]; omega))).kept (grownBy_set _ _ _) (.inr (by simp [Value.ownBlock]; omega))) (show w.heap.size ≤ _ by simp), (HB4.out.setCell (by simp; omega) _).setCell (by simp) _⟩
      have cr5 : (w4.setCell ⟨w1.heap.size, 0, none⟩ (.slice (some ⟨g3, 0, none⟩) (l.length + (m.length + 1)) c3)).cell? ⟨w.heap.size, 0, none⟩ = some (.slice none 0 0) := by rw [World.cell?_setCell_far _ _ _ _ (by simp; omega)]; exact cr4
      simp [results, Try.results46, go_sem, cell_st_same _ cr5]
end Go.Proofs.Ytoejelieogjjpaa

/- Drawn grammars: joined and powered grammars. -/
namespace Go.Proofs.Ytoejelieogjjpaa
open Go.ChangeShapes Go.WideShapes Go.RowKit
set_option linter.unusedVariables false
set_option linter.unusedSimpArgs false
set_option maxHeartbeats 2000000
set_option maxRecDepth 100000
end Go.Proofs.Ytoejelieogjjpaa

/- Drawn grammars: powered grammars. -/
namespace Go.Proofs.Ytoejelieogjjpaa
open Go.ChangeShapes Go.WideShapes Go.RowKit
set_option linter.unusedVariables false
set_option linter.unusedSimpArgs false
set_option maxHeartbeats 2000000
set_option maxRecDepth 100000
end Go.Proofs.Ytoejelieogjjpaa

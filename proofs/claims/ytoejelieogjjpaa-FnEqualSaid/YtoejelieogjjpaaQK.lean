/- Joined grammars by their words; empty ones. -/
import Derived.Test.YtoejelieogjjpaaQG
import Derived.Test.YtoejelieogjjpaaQI
import Derived.Test.YtoejelieogjjpaaY9
namespace Go.Proofs.Ytoejelieogjjpaa
open Go.ChangeShapes Go.WideShapes Go.RowKit
set_option linter.unusedVariables false
set_option linter.unusedSimpArgs false
set_option maxHeartbeats 2000000
set_option maxRecDepth 100000
theorem raR_pair {r : Ru} {n : Nat} (hz : r.1.size = 0) (h1 : 0 ≤ r.2.1 ∧ r.2.1 ≤ 1000000) (h2 : 0 ≤ r.2.2 ∧ r.2.2 ≤ 1000000) (hn : n ≤ 1000000) : raR r n = (r.1, r.2.1 + n, r.2.2 + n) := by
  have e : ∀ x : Int, 0 ≤ x → x ≤ 1000000 → wrap64 (x + n) = x + n := fun x a b => by unfold wrap64; omega
  rw [raR, if_pos hz, e _ h1.1 h1.2, e _ h2.1 h2.2]
theorem raR_let {r : Ru} {n : Int} (hz : r.1.size ≠ 0) : raR r n = r := by rw [raR, if_neg hz]
theorem joR_law {l m : List Ru} (hl : gW l) (hm : gW m) (hn : l.length ≤ 400) (hn2 : m.length ≤ 400) : ∀ k, k ≤ m.length → gW (joR l m k) ∧ (∀ t, t < k → wo (joR l m k) (l.length + t) = wo m t) ∧ (∀ t, t < l.length → wo (joR l m k) t = wo l t)
  | 0, _ => by
    have e : joR l m 0 = l := by simp [joR]
    rw [e]
    exact ⟨hl, fun t h => by omega, fun t _ => rfl⟩
  | k + 1, hk => by
    obtain ⟨a1, a2, a3⟩ := joR_law hl hm hn hn2 k (by omega)
    have hlen := joR_len (l := l) (m := m) (k := k) (by omega)
    have hr := hm k (by omega)
    have hst := joR_step (l := l) (m := m) (k := k) (by omega)
    have hnew : okR (raR (ruA m k) l.length) (joR l m k).length ∧ wo (joR l m k ++ [raR (ruA m k) l.length]) (l.length + k) = wo m k := by
      by_cases hz : (ruA m k).1.size = 0
      · obtain ⟨q1, q2, q3, q4⟩ := hr.1 hz
        have e := raR_pair (n := l.length) hz ⟨q1, by omega⟩ ⟨q3, by omega⟩ (by omega)
        have ex := size_zero hz
        rw [e, ex]
        refine ⟨⟨fun _ => ⟨by show 0 ≤ (ruA m k).2.1 + (l.length : Int); omega, by show (ruA m k).2.1 + (l.length : Int) < _; omega, by show 0 ≤ (ruA m k).2.2 + (l.length : Int); omega, by show (ruA m k).2.2 + (l.length : Int) < _; omega⟩, fun h => absurd rfl h⟩, ?_⟩
        have hw := wo_new a1 (p := (ruA m k).2.1 + (l.length : Int)) (q := (ruA m k).2.2 + (l.length : Int)) (by omega) (by rw [hlen]; omega) (by omega) (by rw [hlen]; omega)
        rw [hlen] at hw
        rw [hw, show ((ruA m k).2.1 + (l.length : Int)).toNat = l.length + (ruA m k).2.1.toNat by omega, show ((ruA m k).2.2 + (l.length : Int)).toNat = l.length + (ruA m k).2.2.toNat by omega, a2 _ (by omega), a2 _ (by omega), wo_pair hm (by omega) hz]
      · rw [raR_let hz]
        refine ⟨⟨fun h => absurd h hz, hr.2⟩, ?_⟩
        have hw := wo_newlet (l := joR l m k) hz
        rw [hlen] at hw
        rw [hw, wo_let hz]
    rw [hst]
    refine ⟨gW_app a1 hnew.1, fun t ht => ?_, fun t ht => ?_⟩
    · by_cases htk : t < k
      · rw [wo_app a1 _ (by omega)]; exact a2 t htk
      · obtain rfl : t = k := by omega
        exact hnew.2
    · rw [wo_app a1 _ (by omega)]; exact a3 t ht
theorem joA_law {l m : List Ru} (h0 : l ≠ []) (h1 : m ≠ []) (hl : gOk l = true) (hm : gOk m = true) (hn : l.length + m.length + 1 ≤ 400) (hb : (wd l).length + (wd m).length ≤ 1000000000000000) :
    gOk (joA l m) = true ∧ wd (joA l m) = wd l ++ wd m ∧ joA l m ≠ [] ∧ (joA l m).length = l.length + m.length + 1 ∧ (abcL l → abcL m → abcL (joA l m)) := by
  have hp : 0 < l.length := List.length_pos_iff.2 h0
  have hq : 0 < m.length := List.length_pos_iff.2 h1
  obtain ⟨a1, a2, a3⟩ := joR_law (gW_of hl) (gW_of hm) (by omega) (by omega) m.length (Nat.le_refl _)
  have hlen := joR_len (l := l) (m := m) (k := m.length) (Nat.le_refl _)
  have hpr : okR ((⟨#[]⟩ : ByteArray), (l.length : Int) - 1, (l.length : Int) + m.length - 1) (joR l m m.length).length := ⟨fun _ => ⟨by show 0 ≤ (l.length : Int) - 1; omega, by show (l.length : Int) - 1 < _; omega, by show 0 ≤ (l.length : Int) + m.length - 1; omega, by show (l.length : Int) + m.length - 1 < _; omega⟩, fun h => absurd rfl h⟩
  have hw : gW (joA l m) := gW_app a1 hpr
  have hnew : wo (joA l m) (l.length + m.length) = wd l ++ wd m := by
    have e := wo_new a1 (p := (l.length : Int) - 1) (q := (l.length : Int) + m.length - 1) (by omega) (by rw [hlen]; omega) (by omega) (by rw [hlen]; omega)
    rw [hlen] at e
    rw [joA, e, show ((l.length : Int) - 1).toNat = l.length - 1 by omega, show ((l.length : Int) + m.length - 1).toNat = l.length + (m.length - 1) by omega, a3 _ (by omega), a2 _ (by omega), wd_wo (gW_of hl) h0, wd_wo (gW_of hm) h1]
  have hlen2 : (joA l m).length = l.length + m.length + 1 := by rw [joA, List.length_append, hlen]; rfl
  have hne : joA l m ≠ [] := fun e => by rw [e] at hlen2; simp at hlen2
  refine ⟨gOk_of hw (by omega) (fun k hk => ?_), ?_, hne, hlen2, fun ha hb r hr => ?_⟩
  · rw [hlen2] at hk
    by_cases hk1 : k < l.length
    · rw [joA, wo_app a1 _ (by omega), a3 k hk1]; exact wo_bd hl hk1
    · by_cases hk2 : k < l.length + m.length
      · have := a2 (k - l.length) (by omega)
        rw [show l.length + (k - l.length) = k by omega] at this
        rw [joA, wo_app a1 _ (by omega), this]; exact wo_bd hm (by omega)
      · obtain rfl : k = l.length + m.length := by omega
        rw [hnew, List.length_append]; exact hb
  · rw [wd_wo hw hne, hlen2]; exact hnew
  · rw [joA] at hr
    rcases List.mem_append.1 hr with hr | hr
    · rw [joR] at hr
      rcases List.mem_append.1 hr with hr | hr
      · exact ha r hr
      · obtain ⟨s, hs, rfl⟩ := List.mem_map.1 hr
        have hsm := hb s (List.mem_of_mem_take hs)
        by_cases hz : s.1.size = 0
        · rw [raR, if_pos hz]; exact hsm
        · rw [raR_let hz]; exact hsm
    · rw [List.mem_singleton] at hr; subst hr; intro x hx; simp at hx
theorem size_OwnRu {w : World} {b : Nat} {v : Value} {l : List Ru} (h : OwnRu w b v l) : ∃ ad cap, v = .slice ad l.length cap := by
  rcases owns_cases3 h with ⟨e1, e2, -⟩ | ⟨g, cap, e1, -⟩
  · exact ⟨none, 0, by rw [e1, e2]⟩
  · exact ⟨_, _, e1⟩
/-- the join of two grammars, of which one may be empty -/
theorem s_l02JoinG (ba oa ca bb ob cb : Nat) (a b : Option Addr) (l m : List Ru) (w : World) (h01 : l ≠ [] ∨ m ≠ []) (hl : gOk l = true) (hm : gOk m = true) (hn : l.length + m.length + 1 ≤ 400) (hb : (wd l).length + (wd m).length ≤ 1000000000000000)
    (hca : w.cell? ⟨ba, oa, none⟩ = some (.slice a l.length ca)) (hia : l ≠ [] → InRu w (.slice a l.length ca) l) (hcb : w.cell? ⟨bb, ob, none⟩ = some (.slice b m.length cb)) (hib : m ≠ [] → InRu w (.slice b m.length cb) m) :
    Calls Try.prog 46 #[.pointer (some ⟨ba, oa, none⟩), .pointer (some ⟨bb, ob, none⟩)] w fun e w' => ∃ v' O, e = .returned (.agg #[v']) ∧ OwnRu w' w.heap.size v' O ∧ gOk O = true ∧ wd O = wd l ++ wd m ∧ O ≠ [] ∧ O.length ≤ l.length + m.length + 1 ∧ (abcL l → abcL m → abcL O) ∧ Below w.heap.size w w' := by
  have hB := (Below.refl w.heap.size w).alloc (Nat.le_refl _) (.cells #[.slice none 0 0] 26)
  have hba := World.block_lt_of_cell? _ _ hca
  have hbb := World.block_lt_of_cell? _ _ hcb
  by_cases h0 : l = []
  · subst h0
    have h1 : m ≠ [] := by rcases h01 with h | h; exact absurd rfl h; exact h
    have HOW := Lib.hid (s_l02Own bb ob cb b m _ h1 (by omega) (cell_later hB hcb) (inRu_below (hib h1) hB))
    have hca' : w.cell? ⟨ba, oa, none⟩ = some (.slice a 0 ca) := hca
    clear hia hib hca
    rw [wd_nil, List.nil_append]
    go_enter Try.func46, Try.ntmps46
    go_wp2_with fail
    refine HOW.out.mono ?_
    rintro e w2 ⟨v2, rfl, ho2, hb2⟩
    obtain ⟨g2, c2, rfl, hg2, hg2'⟩ := owns_some3 ho2 (fun e => h1 (List.eq_nil_of_length_eq_zero e))
    have c0 : w2.cell? ⟨w.heap.size, 0, none⟩ = some (.slice none 0 0) := by rw [hb2.cell (by simp)]; simp [go_sem]
    have f0 : w2.frozen? ⟨w.heap.size, 0, none⟩ = false := by rw [hb2.frozen (by simp)]; simp [go_sem]
    have HBF := Lib.hid (below_box hb2)
    have HO := Lib.hid ho2
    simp at hg2
    clear ho2 hb2 HOW hB
    go_wp2
    refine bodyPost_ret (v := .agg #[.slice (some ⟨g2, 0, none⟩) m.length c2]) (by simp [results, Try.results46, go_sem, cell_st_same _ c0]) rfl ⟨_, m, rfl, ?_, hm, rfl, h1, by simp, fun _ h => h, HBF.out.setCell (by simp) _⟩
    exact OwnRu.weak (OwnRu.kept (r := some w.heap.size) HO.out (grownBy_set _ _ _) (.inr (by simp [Value.ownBlock]; omega))) (by simp)
  · by_cases h1 : m = []
    · subst h1
      have hl0 : l.length ≠ 0 := fun e => h0 (List.eq_nil_of_length_eq_zero e)
      have hle : ((l.length : Int) == 0) = false := by rw [beq_eq_false_iff_ne]; omega
      have HOW := Lib.hid (s_l02Own ba oa ca a l _ h0 (by omega) (cell_later hB hca) (inRu_below (hia h0) hB))
      have hcb' : w.cell? ⟨bb, ob, none⟩ = some (.slice b 0 cb) := hcb
      clear hia hib hcb
      rw [wd_nil, List.append_nil]
      go_enter Try.func46, Try.ntmps46
      go_wp2_with fail
      refine HOW.out.mono ?_
      rintro e w2 ⟨v2, rfl, ho2, hb2⟩
      obtain ⟨g2, c2, rfl, hg2, hg2'⟩ := owns_some3 ho2 hl0
      have c0 : w2.cell? ⟨w.heap.size, 0, none⟩ = some (.slice none 0 0) := by rw [hb2.cell (by simp)]; simp [go_sem]
      have f0 : w2.frozen? ⟨w.heap.size, 0, none⟩ = false := by rw [hb2.frozen (by simp)]; simp [go_sem]
      have HBF := Lib.hid (below_box hb2)
      have HO := Lib.hid ho2
      have hcb2 := cell_later (below_box hb2) hcb'
      have hs2 : w.heap.size + 1 ≤ w2.heap.size := by have := hb2.size; simpa using this
      simp at hg2
      clear ho2 hb2 HOW hB
      have hal := (Below.refl w2.heap.size w2).alloc (Nat.le_refl _) (.cells #[.slice (some ⟨g2, 0, none⟩) l.length c2] 26)
      have HX : Hid (∃ X, X = w2.alloc (.cells #[.slice (some ⟨g2, 0, none⟩) l.length c2] 26)) := ⟨_, rfl⟩
      go_upto_region 4 with fail
      refine gen_world2 (fun X => X.cell? ⟨w.heap.size, 0, none⟩ = some (.slice none 0 0) ∧ X.frozen? ⟨w.heap.size, 0, none⟩ = false ∧ X.cell? ⟨bb, ob, none⟩ = some (.slice b 0 cb) ∧ X.cell? ⟨w2.heap.size, 0, none⟩ = some (.slice (some ⟨g2, 0, none⟩) l.length c2) ∧ OwnRu X (w.heap.size + 1) (.slice (some ⟨g2, 0, none⟩) l.length c2) l ∧ Below w.heap.size w X) ⟨cell_later hal c0, (hal.frozen (p := ⟨w.heap.size, 0, none⟩) (by simp; omega)).trans f0, cell_later hal hcb2, by simp [go_sem], by simpa using HO.out.alloc (.cells #[.slice (some ⟨g2, 0, none⟩) l.length c2] 26), HBF.out.alloc (by omega) _⟩ ?_
      clear hal c0 f0 hcb2 HO HBF HX
      rintro X ⟨c0, f0, hcb2, c1, ho, hbf⟩
      have HO := Lib.hid ho
      have HBF := Lib.hid hbf
      clear ho hbf
      go_wp2
      refine bodyPost_ret (v := .agg #[.slice (some ⟨g2, 0, none⟩) l.length c2]) (by simp [results, Try.results46, go_sem, cell_st_same _ c0]) rfl ⟨_, l, rfl, ?_, hl, rfl, h0, by simp, fun h _ => h, HBF.out.setCell (by simp) _⟩
      exact OwnRu.weak (OwnRu.kept (r := some w.heap.size) HO.out (grownBy_set _ _ _) (.inr (by simp [Value.ownBlock]; omega))) (by omega)
    · obtain ⟨q1, q2, q3, q4, q5⟩ := joA_law h0 h1 hl hm hn hb
      refine (s_l02Join ba oa ca bb ob cb a b l m w h0 h1 (by omega) (by omega) hca (hia h0) hcb (hib h1)).mono ?_
      rintro e w2 ⟨v, rfl, ho, hb9⟩
      exact ⟨v, _, rfl, ho, q1, q2, q3, by omega, q5, hb9⟩
end Go.Proofs.Ytoejelieogjjpaa

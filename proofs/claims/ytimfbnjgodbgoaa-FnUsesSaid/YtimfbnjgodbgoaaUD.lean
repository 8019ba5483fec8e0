/- Drawn grammars: joined and powered grammars. -/
import Derived.Test.YtimfbnjgodbgoaaUC
namespace Go.Proofs.Ytimfbnjgodbgoaa
open Go.ChangeShapes Go.WideShapes Go.RowKit
set_option linter.unusedVariables false
set_option linter.unusedSimpArgs false
set_option maxHeartbeats 2000000
set_option maxRecDepth 100000
theorem ru_small {l : List Ru} (h : gOk l = true) : ∀ r ∈ l, r.1.size ≤ 1 := by
  intro r hr
  obtain ⟨k, hk, rfl⟩ := List.mem_iff_getElem.1 hr
  have hru := gOk_rule h hk
  have e : ruA l k = l[k] := by rw [ruA, List.getD, List.getElem?_eq_getElem hk]; rfl
  rw [e] at hru
  by_cases hz : l[k].1.size = 0
  · omega
  · have := (hru.2 hz).1; omega
theorem raR_fst (r : Ru) (d : Int) : (raR r d).1 = r.1 := by unfold raR; split <;> rfl
theorem joA_len (l m : List Ru) : (joA l m).length = l.length + (m.length + 1) := by
  rw [joA, List.length_append, joR_len (Nat.le_refl _)]; simp; omega
theorem joA_small {l m : List Ru} (h : ∀ r ∈ l, r.1.size ≤ 1) (h2 : ∀ r ∈ m, r.1.size ≤ 1) : ∀ r ∈ joA l m, r.1.size ≤ 1 := by
  intro r hr
  rw [joA, joR, List.mem_append, List.mem_append, List.mem_map] at hr
  rcases hr with (hr | ⟨q, hq, rfl⟩) | hr
  · exact h r hr
  · rw [raR_fst]; exact h2 q (List.mem_of_mem_take hq)
  · simp at hr; subst hr; simp [ByteArray.size]
/-- what a maker of grammars gives: a right one that is not empty, or a code -/
def GrOut (b : Nat) (w' : World) (v : Value) (c : Int) : Prop := (c = 0 ∧ ∃ L, gOk L = true ∧ L ≠ [] ∧ OwnRu w' b v L) ∨ (c = 3 ∧ v = .slice none 0 0)
theorem s_JoinGrammars (a b : Option Addr) (ca cb : Nat) (l m : List Ru) (w : World) (h0 : l ≠ []) (h1 : m ≠ []) (hl : gOk l = true) (hm : gOk m = true)
    (hil : InRu w (.slice a l.length ca) l) (him : InRu w (.slice b m.length cb) m) :
    Calls Try.prog 54 #[.agg #[.slice a l.length ca], .agg #[.slice b m.length cb]] w fun e w' => ∃ v c, e = .returned (.tuple #[.agg #[v], .int .i64 c]) ∧ GrOut w.heap.size w' v c ∧ Below w.heap.size w w' := by
  have hl4 := (gOk_some hl).1
  have hm4 := (gOk_some hm).1
  have sl := ru_small hl
  have sm := ru_small hm
  have hbx := (((Below.refl w.heap.size w).alloc (Nat.le_refl _) (.cells #[.slice a l.length ca] 26)).alloc (by simp) (.cells #[.slice b m.length cb] 26)).alloc (by first | (simp; done) | (simp; omega)) (.cells #[.slice none 0 0] 26)
  have HIL := Lib.hid (inRu_below hil hbx)
  have HIM := Lib.hid (inRu_below him hbx)
  have HBX : Hid (∀ w', Below (((w.alloc (.cells #[.slice a l.length ca] 26)).alloc (.cells #[.slice b m.length cb] 26)).alloc (.cells #[.slice none 0 0] 26)).heap.size (((w.alloc (.cells #[.slice a l.length ca] 26)).alloc (.cells #[.slice b m.length cb] 26)).alloc (.cells #[.slice none 0 0] 26)) w' → Below w.heap.size w w') := fun w' h => below_box (below_box (below_box h))
  have HOK1 := Lib.hid (fun w1 c i => s_l02Ok w.heap.size 0 ca a l w1 (by omega) (fun r hr => by have := sl r hr; omega) c i)
  have HOK2 := Lib.hid (fun w1 c i => s_l02Ok (w.heap.size + 1) 0 cb b m w1 (by omega) (fun r hr => by have := sm r hr; omega) c i)
  have HJ := Lib.hid (fun w1 c1 i1 c2 i2 => s_l02Join w.heap.size 0 ca (w.heap.size + 1) 0 cb a b l m w1 h0 h1 hl4 hm4 c1 i1 c2 i2)
  have HT : Hid (∀ g c w1, InRu w1 (.slice (some ⟨g, 0, none⟩) (joA l m).length c) (joA l m) → _) := Lib.hid (fun g c w1 i => s_l02Told (some ⟨g, 0, none⟩) c (joA l m) w1 (by rw [joA_len]; omega) (fun r hr => by have := joA_small sl sm r hr; omega) i)
  rw [hl] at HOK1
  rw [hm] at HOK2
  clear hil him hbx sl sm hl hm h0 h1
  go_enter Try.func54, Try.ntmps54
  go_wp2_with fail
  refine (HOK1.out _ (by simp [go_sem]) HIL.out).mono ?_
  rintro e w3 ⟨rfl, hb3⟩
  have c1 : w3.cell? ⟨w.heap.size, 0, none⟩ = some (.slice a l.length ca) := by rw [hb3.cell (by first | (simp; done) | (simp; omega))]; simp [go_sem]
  have c2 : w3.cell? ⟨w.heap.size + 1, 0, none⟩ = some (.slice b m.length cb) := by rw [hb3.cell (by first | (simp; done) | (simp; omega))]; simp [go_sem]
  have c3 : w3.cell? ⟨w.heap.size + 1 + 1, 0, none⟩ = some (.slice none 0 0) := by rw [hb3.cell (by simp)]; simp [go_sem]
  have f3 : w3.frozen? ⟨w.heap.size + 1 + 1, 0, none⟩ = false := by rw [hb3.frozen (by simp)]; simp [go_sem]
  have i1 := inRu_below HIL.out hb3
  have i2 := inRu_below HIM.out hb3
  have z3 : w.heap.size + 1 + 1 < w3.heap.size := by have := hb3.size; simp at this; omega
  have B3 := Lib.hid (HBX.out _ hb3)
  clear hb3
  go_wp2_with fail
  refine (HOK2.out _ c2 i2).mono ?_
  rintro e w4 ⟨rfl, hb4⟩
  have d1 := cell_later hb4 c1
  have d2 := cell_later hb4 c2
  have d3 := cell_later hb4 c3
  have g3 : w4.frozen? ⟨w.heap.size + 1 + 1, 0, none⟩ = false := by rw [hb4.frozen (by simpa using z3)]; exact f3
  have j1 := inRu_below i1 hb4
  have j2 := inRu_below i2 hb4
  have z4 := hb4.size
  have B4 := Lib.hid (B3.out.trans (hb4.mono B3.out.size))
  clear hb4 c1 c2 c3 f3 i1 i2
  go_wp2_with fail
  refine (HJ.out _ d1 j1 d2 j2).mono ?_
  rintro e w5 ⟨v5, rfl, ho5, hb5⟩
  have hne : joA l m ≠ [] := by intro e; have := joA_len l m; rw [e] at this; simp at this
  obtain ⟨g5, cc5, rfl, -, -⟩ := owns_some3 ho5 (by rw [joA_len]; omega)
  have k3 := cell_later hb5 d3
  have h3 : w5.frozen? ⟨w.heap.size + 1 + 1, 0, none⟩ = false := by rw [hb5.frozen (by first | (simp; done) | (simp; omega))]; exact g3
  have z5 := hb5.size
  have B5 := Lib.hid (B4.out.trans (hb5.mono B4.out.size))
  have O5 := Lib.hid ho5
  clear hb5 d1 d2 d3 g3 j1 j2 ho5
  go_wp2_with fail
  refine (HT.out g5 cc5 _ (inRu_of_own O5.out hne)).mono ?_
  rintro e w6 ⟨hb6, hcase⟩
  have r3 := cell_later hb6 k3
  have q3 : w6.frozen? ⟨w.heap.size + 1 + 1, 0, none⟩ = false := by rw [hb6.frozen (by first | (simp; done) | (simp; omega))]; exact h3
  have z6 := hb6.size
  have B6 := Lib.hid (B5.out.trans (hb6.mono B5.out.size))
  have O6 := Lib.hid (owns_after O5.out hb6)
  clear hb6 k3 h3 O5
  rcases hcase with ⟨hok, rfl⟩ | ⟨-, rfl⟩
  · have HK := Lib.hid hok
    clear hok
    go_wp2
    refine bodyPost_ret (v := .tuple #[.agg #[.slice (some ⟨g5, 0, none⟩) (joA l m).length cc5], .int .i64 0]) (by simp [results, Try.results54, go_sem, cell_st_same _ r3]) rfl ⟨_, _, rfl, .inl ⟨rfl, joA l m, HK.out, hne, ?_⟩, B6.out.setCell (by first | (simp; done) | (simp; omega)) _⟩
    exact owns_weak (ownsRow_setCell_below O6.out (by first | (simp; done) | (simp; omega)) _) (by omega)
  · go_wp2
    exact bodyPost_ret (v := .tuple #[.agg #[.slice none 0 0], .int .i64 3]) (by simp [results, Try.results54, go_sem, cell_st_same _ r3]) rfl ⟨_, _, rfl, .inr ⟨rfl, rfl⟩, B6.out.setCell (by first | (simp; done) | (simp; omega)) _⟩
end Go.Proofs.Ytimfbnjgodbgoaa

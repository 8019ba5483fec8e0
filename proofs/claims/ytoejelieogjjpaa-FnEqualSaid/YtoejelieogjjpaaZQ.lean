/- A drawn grammar and its word. -/
import Derived.Test.YtoejelieogjjpaaZH
import Derived.Test.YtoejelieogjjpaaUF
import Derived.Test.YtoejelieogjjpaaY8
import Derived.Test.YtoejelieogjjpaaP3
namespace Go.Proofs.Ytoejelieogjjpaa
open Go.ChangeShapes Go.WideShapes Go.RowKit
set_option linter.unusedVariables false
set_option linter.unusedSimpArgs false
set_option maxHeartbeats 2000000
set_option maxRecDepth 100000
theorem letC_exF {l : List Ru} (hok : gOk l = true) (h : abcL l) : ∀ (f k : Nat), k < f → k < l.length → letC (exF l f k)
  | 0, k, h, _ => by omega
  | f + 1, k, hf, hk => by
    by_cases hz : (ruA l k).1.size = 0
    · obtain ⟨q1, q2, q3, q4⟩ := (gOk_rule hok hk).1 hz
      have a := letC_exF hok h f (ruA l k).2.1.toNat (by omega) (by omega)
      have b := letC_exF hok h f (ruA l k).2.2.toNat (by omega) (by omega)
      rw [exF_pair hz]
      intro x hx
      rcases List.mem_append.1 hx with h | h
      · exact a x h
      · exact b x h
    · rw [exF_let hz]
      exact h _ (ruA_mem hk)
theorem letC_wd {l : List Ru} (hok : gOk l = true) (hne : l ≠ []) (h : abcL l) : letC (wd l) := by
  have : l.length ≠ 0 := fun e => hne (List.eq_nil_of_length_eq_zero e)
  exact letC_exF hok h _ _ (by omega) (by omega)
theorem uw_wdZ {l : List Ru} (hok : gOk l = true) (h : lastI (gLn l) ≤ 2000) : uwC l = 0 ∧ (uwW l).data.toList = wd l ∧ ((uwW l).size : Int) = lastI (gLn l) := by
  obtain ⟨h1, h2⟩ := uw_ok hok
  have hc : upC l 0 (lastI (gLn l)) = 0 := by rw [upC, if_pos (pk_all hok), if_neg (by omega)]
  have hw := wd_len hok
  have e : (uwW l).data.toList = wd l := by
    rw [h2, upW, if_pos hc]
    show (ptX l 0 _) = _
    unfold ptX
    rw [show (lastI (gLn l)).toNat = (wd l).length by omega, List.take_length]
    rfl
  refine ⟨by rw [h1, hc], e, ?_⟩
  rw [← hw, ← e]
  show ((uwW l).data.size : Int) = _
  rw [Array.length_toList]
theorem s_A2Grammar (v : Value) (l : List UInt8) (m : Nat) (w : World) (hm1 : 1 ≤ m) (hm : m ≤ 1000) (hl : l.length ≤ 1048576) (hin : InRow w v l.length 1 (u8s l)) :
    Calls Try.prog 6 #[v, .int .i64 m] w fun e w' => ∃ v L, e = .returned (.agg #[v]) ∧ gOk L = true ∧ L ≠ [] ∧ lastI (gLn L) ≤ m ∧ (abcL L ∧ L.length ≤ 14) ∧ OwnRu w' w.heap.size v L ∧ Below w.heap.size w w' := by
  obtain ⟨a, n, cap, rfl⟩ : ∃ a n cap, v = .slice a n cap := by
    rcases hin with ⟨_, _, a, cap, rfl⟩ | ⟨b, off, cap, rfl, _⟩
    · exact ⟨_, _, _, rfl⟩
    · exact ⟨_, _, _, rfl⟩
  have HB := Lib.hid ((Below.refl w.heap.size w).alloc (Nat.le_refl _) (.cells #[.slice none 0 0] 26))
  have HIN := Lib.hid (inRow_below hin HB.out)
  clear hin
  go_enter Try.func6, Try.ntmps6
  go_wp2_with fail
  refine (s_l00From _ l _ hl HIN.out).mono ?_
  rintro e w1 ⟨rfl, hg1, hs1⟩
  have hz1 : w.heap.size + 1 ≤ w1.heap.size := by have := hg1.size; simpa using this
  have d3 : w1.cell? ⟨w.heap.size, 0, none⟩ = some (.slice none 0 0) := by rw [hg1.cell_far _ (by simp) (by simp)]; simp [go_sem]
  have e3 : w1.frozen? ⟨w.heap.size, 0, none⟩ = false := by rw [hg1.frozen_far _ (by simp) (by simp)]; simp [go_sem]
  have B1 : Below w.heap.size w w1 := below_of_grown (grown_new (grown_of_bel (r := none) HB.out) hg1 (fun q e => by cases e)) (Nat.le_refl _) (fun q e => by cases e)
  have HB1 := Lib.hid B1
  have hs2 : Src w1 (w.heap.size + 1) l 0 := by simpa using hs1
  have HS1 := Lib.hid hs2
  clear hg1 hs1 hs2 B1
  go_wp2_with fail
  refine (s_l02DrawnL (w.heap.size + 1) 0 l m _ (by omega) (by omega) (by omega) HS1.out).mono ?_
  rintro e w2 ⟨v2, L, rfl, hok, hne, hl8, ho, hg2, -, habc⟩
  have HL8 := Lib.hid hl8
  have HAB := Lib.hid habc
  obtain ⟨g, cc, rfl, hg2a, -⟩ := owns_some3 ho (fun e => hne (List.eq_nil_of_length_eq_zero e))
  have hz2 := hg2.size
  have d4 : w2.cell? ⟨w.heap.size, 0, none⟩ = some (.slice none 0 0) := by rw [hg2.cell_far _ (by simp; omega) (by simp)]; exact d3
  have e4 : w2.frozen? ⟨w.heap.size, 0, none⟩ = false := by rw [hg2.frozen_far _ (by simp; omega) (by simp)]; exact e3
  have HB2 := Lib.hid (below_of_grown (grown_new (grown_of_bel (r := none) HB1.out) hg2 (fun q e => by injection e with e; omega)) (Nat.le_refl _) (fun q e => by cases e))
  have HO2 := Lib.hid (OwnRu.kept (OwnRu.weak ho (show w.heap.size ≤ _ by omega)) (grownBy_set w2 ⟨w.heap.size, 0, none⟩ (.slice (some ⟨g, 0, none⟩) L.length cc)) (.inr (by simp [Value.ownBlock]; omega)))
  have HK2 := Lib.hid hok
  clear hl8 habc hg2 ho hok d3 e3 HB1 HS1
  go_wp2
  exact bodyPost_ret (v := .agg #[.slice (some ⟨g, 0, none⟩) L.length cc]) (by simp [results, Try.results6, go_sem, cell_st_same _ d4]) rfl ⟨_, L, rfl, HK2.out, hne, HL8.out, HAB.out, HO2.out, HB2.out.setCell (by simp) _⟩
theorem s_Unpacked (v : Value) (l : List Ru) (w : World) (hn : l.length ≤ 1048576) (hsz : ∀ r ∈ l, r.1.size ≤ 1048576) (hin : InRu w v l) :
    Calls Try.prog 7 #[.agg #[v]] w fun e w' => e = .returned (.string (uwW l)) ∧ Below w.heap.size w w' := by
  obtain ⟨a, cap, rfl⟩ := inRu_sl hin
  have HB := Lib.hid ((Below.refl w.heap.size w).alloc (Nat.le_refl _) (.cells #[.slice a l.length cap] 26))
  have i0 := inRu_box (o := .cells #[.slice a l.length cap] 26) hin
  have HU := Lib.hid (s_UnpackWord (.slice a l.length cap) l _ hn hsz i0)
  clear hin hsz i0
  generalize uwW l = x at *
  generalize uwC l = y at *
  go_enter Try.func7, Try.ntmps7
  go_wp2_with fail
  refine HU.out.mono ?_
  rintro e w1 ⟨rfl, hb1⟩
  have HB1 := Lib.hid (HB.out.trans (hb1.mono HB.out.size))
  clear hb1 HU
  go_wp2
  go_ret
  exact ⟨rfl, HB1.out⟩
end Go.Proofs.Ytoejelieogjjpaa

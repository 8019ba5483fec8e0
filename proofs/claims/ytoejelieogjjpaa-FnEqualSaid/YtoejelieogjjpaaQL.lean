/- l02Trim of any grammar. -/
import Derived.Test.YtoejelieogjjpaaQJ
import Derived.Test.YtoejelieogjjpaaQK
namespace Go.Proofs.Ytoejelieogjjpaa
open Go.ChangeShapes Go.WideShapes Go.RowKit
set_option linter.unusedVariables false
set_option linter.unusedSimpArgs false
set_option maxHeartbeats 2000000
set_option maxRecDepth 100000
theorem s_l02Trim0 (bq oq cap : Nat) (a : Option Addr) (w : World) (hcell : w.cell? ⟨bq, oq, none⟩ = some (.slice a 0 cap)) :
    Calls Try.prog 45 #[.pointer (some ⟨bq, oq, none⟩)] w fun e w' => e = .returned (.agg #[.slice none 0 0]) ∧ Below w.heap.size w w' := by
  have hB := (Below.refl w.heap.size w).alloc (Nat.le_refl _) (.cells #[.slice none 0 0] 26)
  have hbq := World.block_lt_of_cell? _ _ hcell
  have HR : Hid ((w.alloc (.cells #[.slice none 0 0] 26)).cell? ⟨w.heap.size, 0, none⟩ = some (.slice none 0 0) ∧ (w.alloc (.cells #[.slice none 0 0] 26)).frozen? ⟨w.heap.size, 0, none⟩ = false) := ⟨by simp [go_sem], by simp [go_sem]⟩
  have HZ1 : Hid ((w.alloc (.cells #[.slice none 0 0] 26)).heap.size = w.heap.size + 1) := by show _ = _; simp
  have HB := Lib.hid hB
  have HC := Lib.hid (cell_later hB hcell)
  clear hB hcell
  go_enter Try.func45, Try.ntmps45
  go_upto_region 1 with fail
  obtain ⟨w1, hw1⟩ : ∃ w1, w1 = w.alloc (.cells #[.slice none 0 0] 26) := ⟨_, rfl⟩
  rw [← hw1] at HR HB HZ1 HC ⊢
  clear hw1
  have hc1 := HC.out
  have HB2 : Hid (Below w1.heap.size w1 ((w1.alloc (.cells #[] 2)).alloc (.cells #[] 59))) := ((Below.refl _ _).alloc (Nat.le_refl _) _).alloc (by simp) _
  go_wp2
  go_loopw [4, 5, 6, 7, 8, 9] (fun _ _ ii _ _ _ wr => ii = .int .i64 0 ∧ Below w1.heap.size w1 wr) (fun _ _ _ _ _ _ _ => 0)
  case atStart => exact ⟨rfl, HB2.out⟩
  case round =>
    obtain ⟨rfl, hb3⟩ := hrel
    have HB3 := Lib.hid hb3
    clear hb3 HB2
    go_upto_region 18 with fail
    go_wp2_with (at_make; refine makeB _ rfl _ _ rfl wr.heap.size (Nat.le_refl _) 0 rfl rfl (by omega) ?_; intro w4 ho4 hb4; have HB4 := Lib.hid (HB3.out.trans (hb4.mono HB3.out.size)); clear ho4 hb4)
    go_loopw [11] (fun ii wx => ii = .int .i64 (-1) ∧ Below w1.heap.size w1 wx) (fun _ _ => 0)
    case atStart => exact ⟨rfl, HB4.out⟩
    case round =>
      obtain ⟨rfl, hb5⟩ := hrel
      have HB5 := Lib.hid hb5
      clear hb5 HB4
      go_upto_region 27 with fail
      go_wp2_with (at_make; refine make64 _ rfl _ _ rfl wr.heap.size (Nat.le_refl _) 0 rfl rfl (by omega) ?_; intro w6 ho6 hb6; have HB6 := Lib.hid (HB5.out.trans (hb6.mono HB5.out.size)); have hz6 := HB6.out.size; clear ho6 hb6)
      have HB7 := Lib.hid (HB6.out.alloc hz6 (.cells #[.slice none 0 0] 26))
      go_loopw [14, 15] (fun ii _ wx => ii = .int .i64 0 ∧ Below w1.heap.size w1 wx ∧ wx.cell? ⟨w6.heap.size, 0, none⟩ = some (.slice none 0 0)) (fun _ _ _ => 0)
      case atStart => exact ⟨rfl, HB7.out, by simp [go_sem]⟩
      case round =>
        obtain ⟨rfl, hb8, hc8⟩ := hrel
        have hz9 := HZ1.out
        have cr9 := cell_later hb8 HR.out.1
        have HBF := Lib.hid (HB.out.trans (hb8.mono HB.out.size))
        have cf9 : wr.frozen? ⟨w.heap.size, 0, none⟩ = false := (hb8.frozen (p := ⟨w.heap.size, 0, none⟩) (by simp; omega)).trans HR.out.2
        clear hb8
        go_wp2
        refine bodyPost_ret (v := .agg #[.slice none 0 0]) (by simp [results, Try.results45, go_sem, cell_st_same _ cr9]) rfl ⟨rfl, HBF.out.setCell (by simp) _⟩
theorem s_l02TrimG (bq oq cap : Nat) (a : Option Addr) (l : List Ru) (w : World) (hok : gOk l = true) (hcell : w.cell? ⟨bq, oq, none⟩ = some (.slice a l.length cap)) (hin : l ≠ [] → InRu w (.slice a l.length cap) l) :
    Calls Try.prog 45 #[.pointer (some ⟨bq, oq, none⟩)] w fun e w' => ∃ v O, e = .returned (.agg #[v]) ∧ OwnRu w' w.heap.size v O ∧ gOk O = true ∧ wd O = wd l ∧ (l ≠ [] → O ≠ []) ∧ O.length ≤ l.length ∧ (abcL l → abcL O) ∧ Below w.heap.size w w' := by
  by_cases h0 : l = []
  · subst h0
    refine (s_l02Trim0 bq oq cap a w hcell).mono ?_
    rintro e w' ⟨rfl, hb⟩
    exact ⟨.slice none 0 0, [], rfl, ⟨rfl, .inl ⟨rfl, rfl⟩⟩, rfl, rfl, fun h => h, Nat.le_refl _, fun h => h, hb⟩
  · refine (s_l02Trim bq oq cap a l w h0 hok hcell (hin h0)).mono ?_
    rintro e w' ⟨v, O, rfl, h1, h2, h3, h4, h5, h6, h7⟩
    exact ⟨v, O, rfl, h1, h2, h3, fun _ => h4, h5, h6, h7⟩
end Go.Proofs.Ytoejelieogjjpaa

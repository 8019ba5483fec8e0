/- Drawn grammars: powered grammars. -/
import Derived.Test.YtimfbnjgodbgoaaUD
namespace Go.Proofs.Ytimfbnjgodbgoaa
open Go.ChangeShapes Go.WideShapes Go.RowKit
set_option linter.unusedVariables false
set_option linter.unusedSimpArgs false
set_option maxHeartbeats 2000000
set_option maxRecDepth 100000
theorem pow_pos50 {t d : Nat} (ht : t ≤ 1000000000000000) (h : 0 < (t : Int) / 2 ^ d) : d < 50 := by
  rcases Nat.lt_or_ge d 50 with hd | hd
  · exact hd
  · exfalso
    have h1 : (2 : Nat) ^ 50 ≤ 2 ^ d := Nat.pow_le_pow_right (by decide) hd
    have h2 : t < 2 ^ d := by have : (1000000000000000 : Nat) < 2 ^ 50 := by decide
                              omega
    have h3 : t / 2 ^ d = 0 := Nat.div_eq_of_lt h2
    have h4 : ((t : Int) / 2 ^ d) = ((t / 2 ^ d : Nat) : Int) := by simp
    rw [h4, h3] at h
    simp at h
/-- all letters are short -/
def SmR (L : List Ru) : Prop := ∀ r ∈ L, r.1.size ≤ 1
theorem SmR.app {L : List Ru} (h : SmR L) (p q : Int) : SmR (L ++ [(⟨#[]⟩, p, q)]) := by
  intro r hr
  rcases List.mem_append.1 hr with hr | hr
  · exact h r hr
  · simp at hr; subst hr; simp [ByteArray.size]
/-- the loop that makes a power -/
def PwR (w : World) (bx : Nat) (x : Int) (wr : World) : Prop := ∃ (L : List Ru) (g c : Nat), 1 ≤ L.length ∧ (L.length : Int) ≤ 600 - 2 * x ∧ SmR L ∧ wr.cell? ⟨bx, 0, none⟩ = some (.slice (some ⟨g, 0, none⟩) L.length c) ∧ wr.frozen? ⟨bx, 0, none⟩ = false ∧ g ≠ bx ∧ OwnRu wr (w.heap.size + 2) (.slice (some ⟨g, 0, none⟩) L.length c) L ∧ Below w.heap.size w wr ∧ bx < wr.heap.size ∧ wr.cell? ⟨w.heap.size + 1, 0, none⟩ = some (.slice none 0 0) ∧ wr.frozen? ⟨w.heap.size + 1, 0, none⟩ = false
theorem pwR_end {w w5 : World} {bx g5 c5 n : Nat} {L : List Ru} {x : Int} {u : Value} (hbx : w.heap.size + 1 < bx) (hn : L.length = n) (h1 : 1 ≤ n) (h2 : (n : Int) ≤ 600 - 2 * x) (hs : SmR L) (hc : w5.cell? ⟨bx, 0, none⟩ = some u) (hf : w5.frozen? ⟨bx, 0, none⟩ = false) (hne : g5 ≠ bx)
    (ho : OwnRu w5 (w.heap.size + 2) (.slice (some ⟨g5, 0, none⟩) n c5) L) (hb : Below w.heap.size w w5) (hz : bx < w5.heap.size) (hr : w5.cell? ⟨w.heap.size + 1, 0, none⟩ = some (.slice none 0 0)) (hrf : w5.frozen? ⟨w.heap.size + 1, 0, none⟩ = false) :
    PwR w bx x (w5.setCell ⟨bx, 0, none⟩ (.slice (some ⟨g5, 0, none⟩) n c5)) := by
  subst hn
  refine ⟨L, g5, c5, h1, h2, hs, cell_st_same _ hc, by simpa using hf, hne, ho.kept (grownBy_set _ _ _) (.inr (by simp [Value.ownBlock]; omega)), hb.setCell (by simp; omega) _, by simpa using hz, ?_, by simpa using hrf⟩
  rw [World.cell?_setCell_far _ _ _ _ (by simp; omega)]; exact hr
theorem s_PowerGrammar (a : Option Addr) (ca : Nat) (l : List Ru) (t : Nat) (w : World) (h0 : l ≠ []) (hl : gOk l = true) (ht : 1 ≤ t) (ht2 : t ≤ 1000000000000000) (hil : InRu w (.slice a l.length ca) l) :
    Calls Try.prog 53 #[.agg #[.slice a l.length ca], .int .i64 t] w fun e w' => ∃ v c, e = .returned (.tuple #[.agg #[v], .int .i64 c]) ∧ GrOut w.heap.size w' v c ∧ Below w.heap.size w w' := by
  have hp : 0 < l.length := List.length_pos_iff.2 h0
  have hl4 := (gOk_some hl).1
  have sl := ru_small hl
  have hpe : ((l.length : Int) == 0) = false := by rw [beq_eq_false_iff_ne]; omega
  have hte : ((t : Int) == 0) = false := by rw [beq_eq_false_iff_ne]; omega
  have hbx := ((Below.refl w.heap.size w).alloc (Nat.le_refl _) (.cells #[.slice a l.length ca] 26)).alloc (by simp) (.cells #[.slice none 0 0] 26)
  have HIL := Lib.hid (inRu_below hil hbx)
  have HBX : Hid (∀ w', Below ((w.alloc (.cells #[.slice a l.length ca] 26)).alloc (.cells #[.slice none 0 0] 26)).heap.size ((w.alloc (.cells #[.slice a l.length ca] 26)).alloc (.cells #[.slice none 0 0] 26)) w' → Below w.heap.size w w') := fun w' h => below_box (below_box h)
  have HOK := Lib.hid (fun w1 c i => s_l02Ok w.heap.size 0 ca a l w1 (by omega) (fun r hr => by have := sl r hr; omega) c i)
  have HO := Lib.hid (fun w1 c i => s_l02Own w.heap.size 0 ca a l w1 h0 (by omega) c i)
  have HT := Lib.hid (fun g c (L : List Ru) w1 hn hs i => s_l02Told (some ⟨g, 0, none⟩) c L w1 hn hs i)
  have HIn := Lib.hid (show (decide ((0 : Int) ≤ t) && decide ((t : Int) ≤ 1000000000000000)) = true by simp; omega)
  have HSL := Lib.hid sl
  rw [hl] at HOK
  clear hil hbx sl hl h0
  go_enter Try.func53, Try.ntmps53
  go_wp2_with fail
  refine (HOK.out _ (by simp [go_sem]) HIL.out).mono ?_
  rintro e w3 ⟨rfl, hb3⟩
  have c1 : w3.cell? ⟨w.heap.size, 0, none⟩ = some (.slice a l.length ca) := by rw [hb3.cell (by first | (simp; done) | (simp; omega))]; simp [go_sem]
  have c3 : w3.cell? ⟨w.heap.size + 1, 0, none⟩ = some (.slice none 0 0) := by rw [hb3.cell (by first | (simp; done) | (simp; omega))]; simp [go_sem]
  have f3 : w3.frozen? ⟨w.heap.size + 1, 0, none⟩ = false := by rw [hb3.frozen (by first | (simp; done) | (simp; omega))]; simp [go_sem]
  have i1 := inRu_below HIL.out hb3
  have z3 : w.heap.size + 1 < w3.heap.size := by have := hb3.size; simp at this; omega
  have B3 := Lib.hid (HBX.out _ hb3)
  clear hb3
  go_wp2_with fail
  refine (s_l00In_r _ _ _ true HIn.out _).mono ?_
  rintro e w' ⟨rfl, rfl⟩
  go_wp2_with fail
  refine (HO.out _ c1 i1).mono ?_
  rintro e w4 ⟨v4, rfl, ho4, hb4⟩
  obtain ⟨g4, cc4, rfl, hg4, hg4'⟩ := owns_some3 ho4 (by omega)
  have d3 := cell_later hb4 c3
  have e3 : w4.frozen? ⟨w.heap.size + 1, 0, none⟩ = false := by rw [hb4.frozen (by simpa using z3)]; exact f3
  have d1 := cell_later hb4 c1
  have z4 : w.heap.size + 1 < w4.heap.size := by have := hb4.size; omega
  have z5 : w.heap.size < w4.heap.size := by omega
  have B4 := Lib.hid (B3.out.trans (hb4.mono B3.out.size))
  have O4 := Lib.hid (owns_weak ho4 (show w.heap.size + 2 ≤ _ by omega))
  clear hb4 ho4 c1 c3 f3 i1 HO HOK HIL hg4
  go_wp2
  go_loop [8] (fun i => ∃ d : Nat, d ≤ 50 ∧ i = .int .i64 d) (fun i => 50 - (intOf i).toNat)
  case atStart => exact ⟨0, by omega, rfl⟩
  case round =>
    obtain ⟨d, hd, rfl⟩ := hrel
    by_cases hpos : 0 < (t : Int) / 2 ^ d
    · have hd2 := pow_pos50 ht2 hpos
      go_wp2
      go_round
      case rel => exact ⟨d + 1, by omega, by go_num⟩
      case measure => simp [intOf]; omega
    · go_wp2
      go_loopw [9] (fun j wr => ∃ x : Int, j = .int .i64 x ∧ -2 ≤ x ∧ x ≤ 48 ∧ PwR w w4.heap.size x wr) (fun j _ => (intOf j + 2).toNat)
      case atStart =>
        refine ⟨(d : Int) - 2, by go_num, by omega, by omega, l, g4, cc4, hp, by omega, HSL.out, by simp [go_sem], by simp [go_sem], by omega, O4.out.alloc _, B4.out.alloc (by omega) _, by simp, ?_, ?_⟩
        · exact cell_later ((Below.refl _ _).alloc (Nat.le_refl _) _) d3
        · rw [((Below.refl w4.heap.size w4).alloc (Nat.le_refl _) _).frozen (by simpa using z4)]; exact e3
      case round =>
        obtain ⟨x, rfl, hx0, hx1, L, g, c, hL1, hL2, hsm, hct, hft, hne, hown, hb, hsz, hcr, hfr⟩ := hrel
        have hg2 := (hown.lt g rfl).1
        have HO := Lib.hid hown
        have HB := Lib.hid hb
        have HSM := Lib.hid hsm
        have hz1 : w.heap.size + 1 < wr.heap.size := by omega
        have hne1 : g ≠ w.heap.size + 1 := by omega
        clear hown hb hsm
        by_cases hx : 0 ≤ x
        · obtain ⟨k, rfl⟩ := Int.eq_ofNat_of_zero_le hx
          go_wp2_with (first | (at_builtin; refine list_app_ru rfl _ _ rfl (w.heap.size + 2) _ _ L (⟨#[]⟩, (L.length : Int) - 1, (L.length : Int) - 1) rfl (World.ownsRow.alloc HO.out _) wr.heap.size rfl (by simp [go_sem]) (by simp [go_sem]) (by simp [go_sem]) (by omega) (by simp; omega) ?_; intro g5 c5 w5 ho5 hg5 hge5 hlt5 hor5; have hne5 := app_ne (Below.refl _ _) hor5 hne hsz; obtain ⟨ct5, f5⟩ := app_box (Below.refl _ _) hg5 hsz hne hct hft; obtain ⟨cr5, fr5⟩ := app_box (Below.refl _ _) hg5 hz1 hne1 hcr hfr; have HO5 := Lib.hid ho5; have HB5 := Lib.hid (app_below HB.out (Nat.le_refl _) (Below.refl _ _) hg5 (show w.heap.size ≤ g by omega)); have hs5 : wr.heap.size + 1 ≤ w5.heap.size := (by have := hg5.size; simpa using this); clear ho5 hg5 hor5) | (at_builtin; refine list_app_ru rfl _ _ rfl (w.heap.size + 2) _ _ (L ++ [((⟨#[]⟩ : ByteArray), (L.length : Int) - 1, (L.length : Int) - 1)]) ((⟨#[]⟩ : ByteArray), (L.length : Int), (l.length : Int) - 1) rfl (OwnRu.alloc (OwnRu.kept HO5.out (grownBy_set _ _ _) (.inr (by simp [Value.ownBlock]; omega))) _) w5.heap.size rfl (by simp [go_sem]) (by simp [go_sem]) (by simp [go_sem]) (by simp; omega) (by simp; omega) ?_; intro g7 c7 w7 ho7 hg7 hge7 hlt7 hor7; have hne7 := app_ne (Below.refl _ _) hor7 hne5 (by simp; omega); obtain ⟨ct7, f7⟩ := app_box (Below.refl _ _) hg7 (by simp; omega) hne5 (cell_st_same _ ct5) (by simpa using f5); obtain ⟨cr7, fr7⟩ := app_box (bx := w.heap.size + 1) (Below.refl _ _) hg7 (by simp; omega) (show g5 ≠ w.heap.size + 1 by omega) ((World.cell?_setCell_far _ _ _ _ (by simp; omega)).trans cr5) (by simpa using fr5); have HO7 := Lib.hid ho7; have HB7 := Lib.hid (app_below (HB5.out.setCell (by simp; omega) _) (Nat.le_refl _) (Below.refl _ _) hg7 (show w.heap.size ≤ g5 by omega)); have hs7 : w5.heap.size + 1 ≤ w7.heap.size := (by have := hg7.size; simpa using this); clear ho7 hg7 hor7))
          · go_roundw
            case rel =>
              have ho7 := HO7.out
              have hlen : (L ++ [((⟨#[]⟩ : ByteArray), (L.length : Int) - 1, (L.length : Int) - 1)]).length = L.length + 1 := by simp
              rw [hlen] at ho7
              exact ⟨(k : Int) - 1, by go_num, by omega, by omega, pwR_end z4 (by simp) (by omega) (by omega) ((HSM.out.app _ _).app _ _) ct7 f7 hne7 ho7 HB7.out (by omega) cr7 fr7⟩
            case measure => simp [intOf]; omega
          · go_roundw
            case rel => exact ⟨(k : Int) - 1, by go_num, by omega, by omega, pwR_end z4 (by simp) (by omega) (by omega) (HSM.out.app _ _) ct5 f5 hne5 HO5.out HB5.out (by omega) cr5 fr5⟩
            case measure => simp [intOf]; omega
        · have hin := inRu_of_own HO.out (by intro e; subst e; simp at hL1)
          have HTT := Lib.hid (HT.out g c L wr (by omega) (fun r hr => by have := HSM.out r hr; omega) hin)
          clear hin
          go_wp2_with fail
          refine HTT.out.mono ?_
          rintro e w6 ⟨hb6, hcase⟩
          have r3 := cell_later hb6 hcr
          have q3 : w6.frozen? ⟨w.heap.size + 1, 0, none⟩ = false := by rw [hb6.frozen (by simpa using hz1)]; exact hfr
          have z6 := hb6.size
          have B6 := Lib.hid (HB.out.trans (hb6.mono HB.out.size))
          have O6 := Lib.hid (owns_after HO.out hb6)
          clear hb6 HTT hcr hfr hct hft
          rcases hcase with ⟨hok, rfl⟩ | ⟨-, rfl⟩
          · have HK := Lib.hid hok
            clear hok
            go_wp2
            refine bodyPost_ret (v := .tuple #[.agg #[.slice (some ⟨g, 0, none⟩) L.length c], .int .i64 0]) (by simp [results, Try.results53, go_sem, cell_st_same _ r3]) rfl ⟨_, _, rfl, .inl ⟨rfl, L, HK.out, (by intro e; subst e; simp at hL1), ?_⟩, B6.out.setCell (by first | (simp; done) | (simp; omega)) _⟩
            exact owns_weak (ownsRow_setCell_below O6.out (by first | (simp; done) | (simp; omega)) _) (by omega)
          · go_wp2
            exact bodyPost_ret (v := .tuple #[.agg #[.slice none 0 0], .int .i64 3]) (by simp [results, Try.results53, go_sem, cell_st_same _ r3]) rfl ⟨_, _, rfl, .inr ⟨rfl, rfl⟩, B6.out.setCell (by first | (simp; done) | (simp; omega)) _⟩
end Go.Proofs.Ytimfbnjgodbgoaa

/- Drawn grammars: l02Huge, A2Huge. -/
import Derived.Test.YtimfbnjgodbgoaaUF
namespace Go.Proofs.Ytimfbnjgodbgoaa
open Go.ChangeShapes Go.WideShapes Go.RowKit
set_option linter.unusedVariables false
set_option linter.unusedSimpArgs false
set_option maxHeartbeats 2000000
set_option maxRecDepth 100000
theorem mul_fit {x y : Nat} (hx : x < 1000000) (hy : y < 100000) : ∃ t : Nat, t ≤ 100000000000 ∧ IntKind.i64.wrap ((x : Int) * y) = (t : Int) := by
  have h := Nat.mul_le_mul (Nat.le_of_lt hx) (Nat.le_of_lt hy)
  refine ⟨x * y, by omega, ?_⟩
  have e : ((x * y : Nat) : Int) = (x : Int) * y := by simp
  rw [← e]
  exact IntWalk.i64_in _ (by omega)
/-- what a maker of grammars has left in the box b4 -/
def HuR (w : World) (gs : Nat) (lc : List UInt8) (B : Nat) (b4 : Nat) (c : Int) (wx : World) : Prop := ∃ v, wx.cell? ⟨b4, 0, none⟩ = some v ∧ wx.frozen? ⟨b4, 0, none⟩ = false ∧ w.heap.size < b4 ∧ b4 < wx.heap.size ∧ (c = 0 ∨ c = 3) ∧ (c = 0 → ∃ (g cc : Nat) (L : List Ru), v = .slice (some ⟨g, 0, none⟩) L.length cc ∧ gOk L = true ∧ L ≠ [] ∧ OwnRu wx (w.heap.size + 1) (.slice (some ⟨g, 0, none⟩) L.length cc) L ∧ g ≠ b4) ∧ w.grownBy wx (some gs) ∧ Src wx gs lc B
theorem Src.al {w : World} {gs B : Nat} {lc : List UInt8} (h : Src w gs lc B) (o : Obj) : Src (w.alloc o) gs lc B := Src.kept (row := none) h (World.grownBy_alloc _ _ _) (fun r e => by cases e)
theorem Src.dr {w : World} {gs B : Nat} {lc : List UInt8} (h : Src w gs lc B) : Src w.drew gs lc B := Src.kept (row := none) h ⟨rfl, rfl, rfl, Nat.le_refl _, fun _ _ _ => rfl⟩ (fun r e => by cases e)
theorem gr_refl (w : World) (r : Option Nat) : w.grownBy w r := ⟨rfl, rfl, rfl, Nat.le_refl _, fun _ _ _ => rfl⟩
theorem gr_al {w w' : World} {r : Option Nat} (h : w.grownBy w' r) (o : Obj) : w.grownBy (w'.alloc o) r := h.trans (World.grownBy_alloc _ _ _)
theorem gr_dr {w w' : World} {r : Option Nat} (h : w.grownBy w' r) : w.grownBy w'.drew r := ⟨h.os, h.tape, h.output, h.size, h.block⟩
theorem gr_put {w w' : World} {r : Option Nat} {b j : Nat} {v : Value} (h : w.grownBy w' r) (hb : w.heap.size ≤ b) : w.grownBy (w'.setCell ⟨b, j, none⟩ v) r := grown_new h (grownBy_set _ _ _) (fun q e => by injection e with e; simp at e; omega)
theorem GrOut.sl {b : Nat} {w : World} {v : Value} {c : Int} (h : GrOut b w v c) : ∃ ad n cap, v = .slice ad n cap := by
  rcases h with ⟨-, L, -, hne, ho⟩ | ⟨-, rfl⟩
  · obtain ⟨g, cc, rfl, -, -⟩ := owns_some3 ho (fun e => hne (List.eq_nil_of_length_eq_zero e))
    exact ⟨_, _, _, rfl⟩
  · exact ⟨_, _, _, rfl⟩
theorem GrOut.fact {b n cap : Nat} {w : World} {ad : Option Addr} {c : Int} (h : GrOut b w (.slice ad n cap) c) : (c = 0 ∨ c = 3) ∧ (c = 0 → ∃ (g cc : Nat) (L : List Ru), (Value.slice ad n cap) = .slice (some ⟨g, 0, none⟩) L.length cc ∧ gOk L = true ∧ L ≠ [] ∧ OwnRu w b (.slice (some ⟨g, 0, none⟩) L.length cc) L ∧ b ≤ g ∧ g < w.heap.size) := by
  rcases h with ⟨rfl, L, hok, hne, ho⟩ | ⟨rfl, -⟩
  · refine ⟨.inl rfl, fun _ => ?_⟩
    obtain ⟨g, cc, hv, h1, h2⟩ := owns_some3 ho (fun e => hne (List.eq_nil_of_length_eq_zero e))
    rw [hv] at ho
    exact ⟨g, cc, L, hv, hok, hne, ho, h1, h2⟩
  · exact ⟨.inr rfl, fun h => absurd h (by decide)⟩
theorem s_PowerI (a : Option Addr) (ca : Nat) (l : List Ru) (t : Int) (w : World) (h0 : l ≠ []) (hl : gOk l = true) (ht : 1 ≤ t) (ht2 : t ≤ 1000000000000000) (hil : InRu w (.slice a l.length ca) l) :
    Calls Try.prog 53 #[.agg #[.slice a l.length ca], .int .i64 t] w fun e w' => ∃ v c, e = .returned (.tuple #[.agg #[v], .int .i64 c]) ∧ GrOut w.heap.size w' v c ∧ Below w.heap.size w w' := by
  obtain ⟨n, rfl⟩ := Int.eq_ofNat_of_zero_le (show 0 ≤ t by omega)
  exact s_PowerGrammar a ca l n w h0 hl (by omega) (by omega) hil
theorem s_l02Huge (gs B : Nat) (lc : List UInt8) (w : World) (hB : B ≤ 1000) (hs : Src w gs lc B) :
    Calls Try.prog 23 #[.pointer (some ⟨gs, 0, none⟩)] w fun e w' => ∃ v L, e = .returned (.agg #[v]) ∧ gOk L = true ∧ L ≠ [] ∧ OwnRu w' w.heap.size v L ∧ w.grownBy w' (some gs) := by
  have hgs := hs.lt
  have HS0 := Lib.hid (Src.kept (row := none) hs (World.grownBy_alloc w (.cells #[.slice none 0 0] 26) none) (fun r e => by cases e))
  have HG0 : Hid (w.grownBy (w.alloc (.cells #[.slice none 0 0] 26)) (some gs)) := World.grownBy_alloc w _ _
  clear hs
  go_enter Try.func23, Try.ntmps23
  go_wp2_with fail
  refine (s_l02Drawn gs B lc 1000 _ (by omega) (by omega) (by omega) HS0.out).mono ?_
  rintro e w1 ⟨v1, L1, rfl, hok1, hne1, -, hown1, hg1, hs1⟩
  have hl1 : L1.length ≠ 0 := fun e => hne1 (List.eq_nil_of_length_eq_zero e)
  obtain ⟨g1, c1, rfl, hg1a, hg1b⟩ := owns_some3 hown1 hl1
  have hz1 : w.heap.size + 1 ≤ w1.heap.size := by have := hg1.size; simpa using this
  have d3 : w1.cell? ⟨w.heap.size, 0, none⟩ = some (.slice none 0 0) := by rw [hg1.cell_far _ (by simp) (by simp; omega)]; simp [go_sem]
  have e3 : w1.frozen? ⟨w.heap.size, 0, none⟩ = false := by rw [hg1.frozen_far _ (by simp) (by simp; omega)]; simp [go_sem]
  have HO1 := Lib.hid (OwnRu.weak hown1 (show w.heap.size + 1 ≤ _ by simp))
  have HS1 := Lib.hid hs1
  have HG1 := Lib.hid (HG0.out.trans hg1)
  have HK1 := Lib.hid hok1
  have hgs1 : gs < w1.heap.size := by omega
  simp at hg1a
  clear hown1 hs1 hg1 hok1 HG0 HS0
  have HDA : Hid ((w1.alloc (.cells #[.slice (some ⟨g1, 0, none⟩) L1.length c1] 26)).cell? ⟨w1.heap.size, 0, none⟩ = some (.slice (some ⟨g1, 0, none⟩) L1.length c1) ∧ (w1.alloc (.cells #[.slice (some ⟨g1, 0, none⟩) L1.length c1] 26)).cell? ⟨w.heap.size, 0, none⟩ = some (.slice none 0 0) ∧ (w1.alloc (.cells #[.slice (some ⟨g1, 0, none⟩) L1.length c1] 26)).frozen? ⟨w.heap.size, 0, none⟩ = false ∧ (w1.alloc (.cells #[.slice (some ⟨g1, 0, none⟩) L1.length c1] 26)).heap.size = w1.heap.size + 1) := by
    refine ⟨by simp [go_sem], cell_later ((Below.refl _ _).alloc (Nat.le_refl _) _) d3, ?_, by simp⟩
    rw [((Below.refl w1.heap.size w1).alloc (Nat.le_refl _) _).frozen (show w.heap.size < w1.heap.size by omega)]; exact e3
  have HOA := Lib.hid (OwnRu.alloc HO1.out (.cells #[.slice (some ⟨g1, 0, none⟩) L1.length c1] 26))
  have HSA := Lib.hid (HS1.out.al (.cells #[.slice (some ⟨g1, 0, none⟩) L1.length c1] 26))
  have HGA := Lib.hid (gr_al HG1.out (.cells #[.slice (some ⟨g1, 0, none⟩) L1.length c1] 26))
  clear HO1 HS1 HG1 d3 e3
  go_upto_region 2 with fail
  generalize w1.alloc (.cells #[.slice (some ⟨g1, 0, none⟩) L1.length c1] 26) = wA at *
  obtain ⟨b0, r0, f0, zA⟩ := HDA.out
  obtain ⟨b3, hb3⟩ : ∃ b3, w1.heap.size = b3 := ⟨_, rfl⟩
  rw [hb3] at b0 zA hg1b hz1 hgs1 ⊢
  have hb3A : b3 < wA.heap.size := by omega
  have HSP : Hid (∀ w', wA.grownBy w' (some gs) → wA.grownBy w' (some gs) ∧ w'.cell? ⟨b3, 0, none⟩ = some (.slice (some ⟨g1, 0, none⟩) L1.length c1)) := fun w' h => ⟨h, by rw [h.cell_far _ hb3A (by simp; omega)]; exact b0⟩
  have HR0 := Lib.hid r0
  have HF0 := Lib.hid f0
  have zA2 : b3 + 1 ≤ wA.heap.size := by omega
  clear hb3 HDA r0 f0 zA
  go_cut [4, 5] (fun s4 s5 wx => ∃ (b4 : Nat) (c : Int), s4 = .pointer (some ⟨b4, 0, none⟩) ∧ s5 = .int .i64 c ∧ wA.heap.size ≤ b4 ∧ HuR w gs lc (B + 204) b4 c wx ∧ wA.grownBy wx (some gs))
  case first =>
    go_region_held3 (fun w' => wA.grownBy w' (some gs) ∧ w'.cell? ⟨b3, 0, none⟩ = some (.slice (some ⟨g1, 0, none⟩) L1.length c1))
      (exact HSP.out _ (by (repeat (first | with_reducible exact hgC | with_reducible exact hgB | with_reducible exact hgA | with_reducible exact gr_refl _ _ | with_reducible apply gr_dr | with_reducible apply gr_al | (with_reducible refine gr_put ?_ (by first | omega | (simp <;> omega))))); done))
      (first | (go_at_call 34; (with_reducible refine (s_pick gs (B + 200) lc 1000000 _ (by omega) (by omega) (by (repeat (first | with_reducible exact hs3 | with_reducible exact hs2 | with_reducible exact HSA.out | with_reducible apply Src.al | with_reducible apply Src.dr)); done)).mono ?_); rintro e w2 ⟨x, rfl, hx, hg2, hs2⟩; have hx6 : x < 1000000 := (by omega); have hgA : wA.grownBy w2 (some gs) := World.grownBy.trans (by (repeat (first | with_reducible exact hgC | with_reducible exact hgB | with_reducible exact hgA | with_reducible exact gr_refl _ _ | with_reducible apply gr_dr | with_reducible apply gr_al | (with_reducible refine gr_put ?_ (by first | omega | (simp <;> omega))))); done) hg2; (try (refine cutP (P := w2.cell? ⟨wA.heap.size, 0, none⟩ = some (.slice none 0 0)) ?_ ?_; (focus (rw [hg2.cell_far] <;> first | (simp [go_sem] <;> fail) | omega | (simp <;> omega))); intro ka0)); (try (refine cutP (P := w2.frozen? ⟨wA.heap.size, 0, none⟩ = false) ?_ ?_; (focus (rw [hg2.frozen_far] <;> first | (simp [go_sem] <;> fail) | omega | (simp <;> omega))); intro fa0)); have hz2 := hg2.size; (try simp at hz2); clear hg2 hx) | (go_at_call 34; (with_reducible refine (s_pick gs (B + 202) lc 100000 _ (by omega) (by omega) (by (repeat (first | with_reducible exact hs3 | with_reducible exact hs2 | with_reducible exact HSA.out | with_reducible apply Src.al | with_reducible apply Src.dr)); done)).mono ?_); rintro e w3 ⟨y, rfl, hy, hg3, hs3⟩; obtain ⟨t, ht, hw⟩ := mul_fit hx6 (show y < 100000 by omega); have hw2 : IntKind.i64.wrap (1 + (t : Int)) = 1 + (t : Int) := IntWalk.i64_in _ (by omega); have hgB : wA.grownBy w3 (some gs) := World.grownBy.trans (by (repeat (first | with_reducible exact hgC | with_reducible exact hgB | with_reducible exact hgA | with_reducible exact gr_refl _ _ | with_reducible apply gr_dr | with_reducible apply gr_al | (with_reducible refine gr_put ?_ (by first | omega | (simp <;> omega))))); done) hg3; (try (refine cutP (P := w3.cell? ⟨wA.heap.size, 0, none⟩ = some (.slice none 0 0)) ?_ ?_; (focus (rw [hg3.cell_far] <;> first | (simp [go_sem] <;> fail) | omega | assumption | (simp <;> omega))); intro kb0)); (try (refine cutP (P := w3.frozen? ⟨wA.heap.size, 0, none⟩ = false) ?_ ?_; (focus (rw [hg3.frozen_far] <;> first | (simp [go_sem] <;> fail) | omega | assumption | (simp <;> omega))); intro fb0)); (try (refine cutP (P := w3.cell? ⟨w2.heap.size, 0, none⟩ = some (.slice none 0 0)) ?_ ?_; (focus (rw [hg3.cell_far] <;> first | (simp [go_sem] <;> fail) | omega | assumption | (simp <;> omega))); intro kb1)); (try (refine cutP (P := w3.frozen? ⟨w2.heap.size, 0, none⟩ = false) ?_ ?_; (focus (rw [hg3.frozen_far] <;> first | (simp [go_sem] <;> fail) | omega | assumption | (simp <;> omega))); intro fb1)); have hz3 := hg3.size; (try simp at hz3); clear hg3 hy hs2) | (go_at_call 53; (with_reducible refine (s_PowerI (some ⟨g1, 0, none⟩) c1 L1 (1 + (t : Int)) _ hne1 HK1.out (by omega) (by omega) (inRu_of_own (OwnRu.kept HOA.out (by (repeat (first | with_reducible exact hgC | with_reducible exact hgB | with_reducible exact hgA | with_reducible exact gr_refl _ _ | with_reducible apply gr_dr | with_reducible apply gr_al | (with_reducible refine gr_put ?_ (by first | omega | (simp <;> omega))))); done) (.inr (by simp [Value.ownBlock]; omega))) hne1)).mono ?_); rintro e w4 ⟨v, c, rfl, hgr, hb4⟩; obtain ⟨ad, n, cap, rfl⟩ := hgr.sl; have hgC : wA.grownBy w4 (some gs) := World.grownBy.trans (by (repeat (first | with_reducible exact hgC | with_reducible exact hgB | with_reducible exact hgA | with_reducible exact gr_refl _ _ | with_reducible apply gr_dr | with_reducible apply gr_al | (with_reducible refine gr_put ?_ (by first | omega | (simp <;> omega))))); done) (grown_of_bel hb4); have hs4 := Src.kept (row := none) (by (repeat (first | with_reducible exact hs3 | with_reducible exact hs2 | with_reducible exact HSA.out | with_reducible apply Src.al | with_reducible apply Src.dr)); done) (grown_of_bel hb4) (fun r e => by cases e); have HGR := Lib.hid hgr; have hz4 := hb4.size; (try simp at hz4); (try (refine cutP (P := w4.cell? ⟨wA.heap.size, 0, none⟩ = some (.slice none 0 0)) ?_ ?_; (focus (rw [hb4.cell] <;> first | (simp [go_sem] <;> fail) | omega | assumption | (simp <;> omega))); intro kc0)); (try (refine cutP (P := w4.frozen? ⟨wA.heap.size, 0, none⟩ = false) ?_ ?_; (focus (rw [hb4.frozen] <;> first | (simp [go_sem] <;> fail) | omega | assumption | (simp <;> omega))); intro fc0)); (try (refine cutP (P := w4.cell? ⟨w2.heap.size, 0, none⟩ = some (.slice none 0 0)) ?_ ?_; (focus (rw [hb4.cell] <;> first | (simp [go_sem] <;> fail) | omega | assumption | (simp <;> omega))); intro kc1)); (try (refine cutP (P := w4.frozen? ⟨w2.heap.size, 0, none⟩ = false) ?_ ?_; (focus (rw [hb4.frozen] <;> first | (simp [go_sem] <;> fail) | omega | assumption | (simp <;> omega))); intro fc1)); (try (refine cutP (P := w4.cell? ⟨w3.heap.size, 0, none⟩ = some (.slice none 0 0)) ?_ ?_; (focus (rw [hb4.cell] <;> first | (simp [go_sem] <;> fail) | omega | assumption | (simp <;> omega))); intro kc2)); (try (refine cutP (P := w4.frozen? ⟨w3.heap.size, 0, none⟩ = false) ?_ ?_; (focus (rw [hb4.frozen] <;> first | (simp [go_sem] <;> fail) | omega | assumption | (simp <;> omega))); intro fc2)); clear hgr))
    all_goals
      go_wp2_with fail
      go_meet
      obtain ⟨hc03, hc0⟩ := HGR.out.fact
      refine ⟨_, c, rfl, rfl, (by first | omega | (simp <;> omega)), ⟨.slice ad n cap, ?_, ?_, (by first | omega | (simp <;> omega)), (by first | omega | (simp <;> omega)), hc03, ?_, ?_, ?_⟩, (by (repeat (first | with_reducible exact hgC | with_reducible exact gr_refl _ _ | with_reducible apply gr_dr | with_reducible apply gr_al | (with_reducible refine gr_put ?_ (by first | omega | (simp <;> omega))))); done)⟩
      · first | (simp [go_sem] <;> fail) | (refine cell_st_same _ (?_ : _ = some (.slice none 0 0)); assumption)
      · first | (simp [go_sem] <;> fail) | simpa using fc0 | simpa using fc1 | simpa using fc2
      · intro hc
        obtain ⟨g, cc, L, hv, hok, hne, ho, hge, hlt⟩ := hc0 hc
        (try simp at hge)
        refine ⟨g, cc, L, hv, hok, hne, ?_, (by first | omega | (simp <;> omega))⟩
        first | exact OwnRu.weak (OwnRu.alloc ho _) (by first | omega | (simp <;> omega)) | exact OwnRu.weak (OwnRu.kept ho (grownBy_set _ _ _) (.inr (by simp [Value.ownBlock]; omega))) (by first | omega | (simp <;> omega))
      · exact HGA.out.trans (by (repeat (first | with_reducible exact hgC | with_reducible exact gr_refl _ _ | with_reducible apply gr_dr | with_reducible apply gr_al | (with_reducible refine gr_put ?_ (by first | omega | (simp <;> omega))))); done)
      · first | exact (hs4.al _).more (by omega) | exact (Src.kept hs4 (grownBy_set _ _ _) (fun q e => by injection e with e; simp at e; omega)).more (by omega)
  case rest =>
    obtain ⟨b4, c, rfl, rfl, hb4, ⟨v, hv4, hf4, hw4, hz4, hc03, hc0, hgr, hsr⟩, hgx⟩ := hcut
    have cB3 := (HSP.out _ hgx).2
    have r9 : World.cell? _ ⟨w.heap.size, 0, none⟩ = some (.slice none 0 0) := (hgx.cell_far ⟨w.heap.size, 0, none⟩ (show w.heap.size < wA.heap.size by omega) (by simp; omega)).trans HR0.out
    have f9 : World.frozen? _ ⟨w.heap.size, 0, none⟩ = false := (hgx.frozen_far ⟨w.heap.size, 0, none⟩ (show w.heap.size < wA.heap.size by omega) (by simp; omega)).trans HF0.out
    have HO1 := Lib.hid (OwnRu.kept HOA.out hgx (.inr (by simp [Value.ownBlock]; omega)))
    have HGW := Lib.hid hgr
    have HSW := Lib.hid hsr
    have HC0 := Lib.hid hc0
    clear hgr hsr hc0 HR0 HF0 HOA HSP HSA HGA b0
    rcases hc03 with rfl | rfl
    · obtain ⟨g, cc, L, rfl, hokL, hneL, hoL, hgb4⟩ := HC0.out rfl
      have hl2 : L.length ≠ 0 := fun e => hneL (List.eq_nil_of_length_eq_zero e)
      have HKL := Lib.hid hokL
      have HOL := Lib.hid hoL
      have hgL := (hoL.lt g rfl).1
      clear hokL hoL HC0
      go_wp2_with fail
      refine (s_one gs (B + 204) lc 2 _ (by omega) (by omega) HSW.out).mono ?_
      rintro e wy ⟨b1, rfl, hgy, hsy⟩
      have hzy := hgy.size
      have cb4 : wy.cell? ⟨b4, 0, none⟩ = some (.slice (some ⟨g, 0, none⟩) L.length cc) := by rw [hgy.cell_far _ hz4 (by simp; omega)]; exact hv4
      have fb4 : wy.frozen? ⟨b4, 0, none⟩ = false := by rw [hgy.frozen_far _ hz4 (by simp; omega)]; exact hf4
      have cb3 : wy.cell? ⟨b3, 0, none⟩ = some (.slice (some ⟨g1, 0, none⟩) L1.length c1) := by rw [hgy.cell_far _ (by simp; omega) (by simp; omega)]; exact cB3
      have r8 : wy.cell? ⟨w.heap.size, 0, none⟩ = some (.slice none 0 0) := by rw [hgy.cell_far _ (by simp; omega) (by simp; omega)]; exact r9
      have f8 : wy.frozen? ⟨w.heap.size, 0, none⟩ = false := by rw [hgy.frozen_far _ (by simp; omega) (by simp; omega)]; exact f9
      have HGY := Lib.hid (HGW.out.trans hgy)
      have HOY := Lib.hid (OwnRu.kept HOL.out hgy (.inr (by simp [Value.ownBlock]; omega)))
      have HO1Y := Lib.hid (OwnRu.kept HO1.out hgy (.inr (by simp [Value.ownBlock]; omega)))
      have HSY := Lib.hid hsy
      have hzb4 : b4 < wy.heap.size := by omega
      clear hgy hsy cB3 r9 f9 HGW HOL HO1 HSW hv4 hf4
      cases b1
      · have r9 := r8
        clear r8
        go_wp2
        refine bodyPost_ret (v := .agg #[.slice (some ⟨g, 0, none⟩) L.length cc]) (by simp [results, Try.results23, go_sem, cell_st_same _ r9]) rfl ⟨_, L, rfl, HKL.out, hneL, ?_, ?_⟩
        · exact OwnRu.weak (OwnRu.kept HOY.out (grownBy_set _ _ _) (.inr (by simp [Value.ownBlock]; omega))) (by omega)
        · exact gr_put HGY.out (by simp)
      · go_upto_region 6 with fail
        refine wp_region_L (S := fun w' => w'.cell? ⟨b4, 0, none⟩ = some (.slice (some ⟨g, 0, none⟩) L.length cc)) (T := [3]) (by kernel_rfl) (by simpa using cb4) (fun hHeld => ?_)
        refine wpAnyL_take (i := 0) (v := ?_) rfl (by kernel_rfl) (by kernel_rfl) (by kernel_rfl) (by kernel_rfl) (fun _ _ _ h => h) (Or.inl ⟨by rfl, ?_⟩) (by assumption) ?_
        rotate_left
        · intro w hSw
          try dsimp only at hSw
          go_simp
          all_goals with_reducible rfl
        try simp only [Act.put, List.setIfInBounds_toArray, List.set_cons_zero, List.set_cons_succ]
        refine wpAnyL_take (i := 1) (v := ?_) rfl (by kernel_rfl) (by kernel_rfl) (by kernel_rfl) (by kernel_rfl) (fun _ _ _ h => h) (Or.inl ⟨by rfl, ?_⟩) (by assumption) ?_
        rotate_left
        · intro w hSw
          try dsimp only at hSw
          go_simp
          all_goals with_reducible rfl
        try simp only [Act.put, List.setIfInBounds_toArray, List.set_cons_zero, List.set_cons_succ]
        clear hHeld
        refine wpAnyL_one (i := 2) (by kernel_rfl) (by rfl) rfl (fun K hK => ?_)
        go_simp
        go_at_call 30
        refine (s_l02Drawn gs (B + 206) lc 100 _ (by omega) (by omega) (by omega) HSY.out.dr).mono ?_
        rintro e w5 ⟨v5, L5, rfl, hok5, hne5, -, ho5, hg5, -⟩
        obtain ⟨g5, c5, rfl, -, -⟩ := owns_some3 ho5 (fun e => hne5 (List.eq_nil_of_length_eq_zero e))
        have hg5 : wy.grownBy w5 (some gs) := (gr_dr (gr_refl _ _)).trans hg5
        have hz5 := hg5.size
        have cb5 : w5.cell? ⟨b4, 0, none⟩ = some (.slice (some ⟨g, 0, none⟩) L.length cc) := by rw [hg5.cell_far _ (by simp; omega) (by simp; omega)]; exact cb4
        have fb5 : w5.frozen? ⟨b4, 0, none⟩ = false := by rw [hg5.frozen_far _ (by simp; omega) (by simp; omega)]; exact fb4
        have cb35 : w5.cell? ⟨b3, 0, none⟩ = some (.slice (some ⟨g1, 0, none⟩) L1.length c1) := by rw [hg5.cell_far _ (by simp; omega) (by simp; omega)]; exact cb3
        have r5 : w5.cell? ⟨w.heap.size, 0, none⟩ = some (.slice none 0 0) := by rw [hg5.cell_far _ (by simp; omega) (by simp; omega)]; exact r8
        have f5 : w5.frozen? ⟨w.heap.size, 0, none⟩ = false := by rw [hg5.frozen_far _ (by simp; omega) (by simp; omega)]; exact f8
        have HI5 := Lib.hid (inRu_of_own (OwnRu.kept HOY.out hg5 (.inr (by simp [Value.ownBlock]; omega))) hneL)
        have HO15 := Lib.hid (OwnRu.kept HO1Y.out hg5 (.inr (by simp [Value.ownBlock]; omega)))
        have HG5 := Lib.hid (HGY.out.trans hg5)
        have HK5 := Lib.hid hok5
        have HIJ := Lib.hid (inRu_of_own ho5 hne5)
        clear hg5 ho5 hok5 cb4 fb4 cb3 r8 f8 HOY HO1Y HGY HSY
        go_wp2_with fail
        refine hK.out _ _ cb5 ?_
        clear hK K
        try simp only [Act.put, List.setIfInBounds_toArray, List.set_cons_zero, List.set_cons_succ]
        refine wpAnyL_tail (i := 3) (by kernel_rfl) (by rfl) rfl (fun K hK => ?_)
        go_simp
        go_at_call 54
        refine (s_JoinGrammars (some ⟨g, 0, none⟩) (some ⟨g5, 0, none⟩) cc c5 L L5 _ hneL hne5 HKL.out HK5.out HI5.out HIJ.out).mono ?_
        rintro e w6 ⟨v6, c6, rfl, hgr6, hb6⟩
        obtain ⟨ad, n, cap, rfl⟩ := hgr6.sl
        have hz6 := hb6.size
        have cb6 := cell_later hb6 cb5
        have fb6 : w6.frozen? ⟨b4, 0, none⟩ = false := by rw [hb6.frozen (by simp; omega)]; exact fb5
        have cb36 := cell_later hb6 cb35
        have r6 := cell_later hb6 r5
        have f6 : w6.frozen? ⟨w.heap.size, 0, none⟩ = false := by rw [hb6.frozen (by simp; omega)]; exact f5
        have HO16 := Lib.hid (owns_after HO15.out hb6)
        have HG6 := Lib.hid (grown_bel HG5.out hb6)
        have HGR := Lib.hid hgr6
        clear hb6 hgr6 cb5 fb5 cb35 r5 f5 HI5 HO15 HG5 HK5 HIJ
        go_wp2_with fail
        refine hK.out _ _ ?_
        clear hK K
        try simp only [Act.put, List.setIfInBounds_toArray, List.set_cons_zero, List.set_cons_succ]
        refine wpAny_take (i := 4) (v := ?_) rfl (by kernel_rfl) (by kernel_rfl) (by kernel_rfl) (fun _ _ _ h => h) (Or.inl ⟨by rfl, ?_⟩) ?_
        rotate_left
        · intro w
          go_simp
          all_goals with_reducible rfl
        try simp only [Act.put, List.setIfInBounds_toArray, List.set_cons_zero, List.set_cons_succ]
        refine wpAny_take (i := 5) (v := ?_) rfl (by kernel_rfl) (by kernel_rfl) (by kernel_rfl) (fun _ _ _ h => h) (Or.inl ⟨by rfl, ?_⟩) ?_
        rotate_left
        · intro w
          go_simp
          all_goals with_reducible rfl
        try simp only [Act.put, List.setIfInBounds_toArray, List.set_cons_zero, List.set_cons_succ]
        refine wpAny_take (i := 6) (v := ?_) rfl (by kernel_rfl) (by kernel_rfl) (by kernel_rfl) (fun _ _ _ h => h) (Or.inl ⟨by rfl, ?_⟩) ?_
        rotate_left
        · intro w
          go_simp
          all_goals with_reducible rfl
        try simp only [Act.put, List.setIfInBounds_toArray, List.set_cons_zero, List.set_cons_succ]
        refine wpAny_one (i := 7) (by kernel_rfl) rfl (fun K hK => ?_)
        go_simp
        go_wp2_with fail
        refine hK.out _ _ ?_
        clear hK K
        try simp only [Act.put, List.setIfInBounds_toArray, List.set_cons_zero, List.set_cons_succ]
        refine wpAny_one (i := 8) (by kernel_rfl) rfl (fun K hK => ?_)
        go_simp
        go_wp2_with fail
        refine hK.out _ _ ?_
        clear hK K
        try simp only [Act.put, List.setIfInBounds_toArray, List.set_cons_zero, List.set_cons_succ]
        refine wpAny_done (by kernel_rfl) ?_ _
        obtain ⟨hc03, hc0⟩ := HGR.out.fact
        have hzs : w.heap.size < w6.heap.size := by omega
        have hnr : ∀ u : Value, (w6.setCell ⟨b4, 0, none⟩ u).cell? ⟨w.heap.size, 0, none⟩ = some (.slice none 0 0) := fun u => by rw [World.cell?_setCell_far _ _ _ _ (by simp; omega)]; exact r6
        rcases hc03 with rfl | rfl
        · obtain ⟨g6, c6, L6, hv, hok6, hne6, ho6, hge6, hlt6⟩ := hc0 rfl
          obtain ⟨rfl, rfl, rfl⟩ := Value.slice.inj hv
          have hl6 : L6.length ≠ 0 := fun e => hne6 (List.eq_nil_of_length_eq_zero e)
          have r9 := hnr (.slice (some ⟨g6, 0, none⟩) L6.length cap)
          have f9 : (w6.setCell ⟨b4, 0, none⟩ (.slice (some ⟨g6, 0, none⟩) L6.length cap)).frozen? ⟨w.heap.size, 0, none⟩ = false := by simpa using f6
          have HOZ := Lib.hid (OwnRu.kept (OwnRu.weak ho6 (show w.heap.size + 1 ≤ _ by omega)) (grownBy_set w6 ⟨b4, 0, none⟩ (.slice (some ⟨g6, 0, none⟩) L6.length cap)) (.inr (by simp [Value.ownBlock]; omega)))
          have HGZ := Lib.hid (gr_put (b := b4) (j := 0) (v := .slice (some ⟨g6, 0, none⟩) L6.length cap) HG6.out (by omega))
          have HKZ := Lib.hid hok6
          clear hc0 hv ho6 hok6 hnr HGR HG6 HO16 hl2
          go_wp2
          refine bodyPost_ret (v := .agg #[.slice (some ⟨g6, 0, none⟩) L6.length cap]) (by simp [results, Try.results23, go_sem, cell_st_same _ r9]) rfl ⟨_, L6, rfl, HKZ.out, hne6, ?_, ?_⟩
          · exact OwnRu.weak (OwnRu.kept HOZ.out (grownBy_set _ _ _) (.inr (by simp [Value.ownBlock]; omega))) (by omega)
          · exact gr_put HGZ.out (by simp)
        · have r9 := hnr (.slice ad n cap)
          have f9 : (w6.setCell ⟨b4, 0, none⟩ (.slice ad n cap)).frozen? ⟨w.heap.size, 0, none⟩ = false := by simpa using f6
          have HOZ := Lib.hid (OwnRu.kept HO16.out (grownBy_set w6 ⟨b4, 0, none⟩ (.slice ad n cap)) (.inr (by simp [Value.ownBlock]; omega)))
          have HGZ := Lib.hid (gr_put (b := b4) (j := 0) (v := .slice ad n cap) HG6.out (by omega))
          have cz3 : (w6.setCell ⟨b4, 0, none⟩ (.slice ad n cap)).cell? ⟨b3, 0, none⟩ = some (.slice (some ⟨g1, 0, none⟩) L1.length c1) := by rw [World.cell?_setCell_far _ _ _ _ (by simp; omega)]; exact cb36
          clear hc0 hnr HGR HG6 HO16
          go_wp2
          refine bodyPost_ret (v := .agg #[.slice (some ⟨g1, 0, none⟩) L1.length c1]) (by simp [results, Try.results23, go_sem, cell_st_same _ r9]) rfl ⟨_, L1, rfl, HK1.out, hne1, ?_, ?_⟩
          · exact OwnRu.weak (OwnRu.kept HOZ.out (grownBy_set _ _ _) (.inr (by simp [Value.ownBlock]; omega))) (by omega)
          · exact gr_put HGZ.out (by simp)
    · have hl2 := hl1
      go_wp2
      refine bodyPost_ret (v := .agg #[.slice (some ⟨g1, 0, none⟩) L1.length c1]) (by simp [results, Try.results23, go_sem, cell_st_same _ r9]) rfl ⟨_, L1, rfl, HK1.out, hne1, ?_, ?_⟩
      · exact OwnRu.weak (OwnRu.kept HO1.out (grownBy_set _ _ _) (.inr (by simp [Value.ownBlock]; omega))) (by omega)
      · exact gr_put HGW.out (by simp)
theorem s_A2Huge (v : Value) (l : List UInt8) (w : World) (hl : l.length ≤ 1048576) (hin : InRow w v l.length 1 (u8s l)) :
    Calls Try.prog 6 #[v] w fun e w' => ∃ v L, e = .returned (.agg #[v]) ∧ gOk L = true ∧ L ≠ [] ∧ OwnRu w' w.heap.size v L ∧ Below w.heap.size w w' := by
  obtain ⟨a, n, cap, rfl⟩ : ∃ a n cap, v = .slice a n cap := by
    rcases hin with ⟨_, _, a, cap, rfl⟩ | ⟨b, off, cap, rfl, _⟩
    · exact ⟨_, _, _, rfl⟩
    · exact ⟨_, _, _, rfl⟩
  have HB := Lib.hid ((Below.refl w.heap.size w).alloc (Nat.le_refl _) (.cells #[.slice none 0 0] 26))
  have HIN := Lib.hid (inRow_below hin HB.out)
  clear hin
  go_enter Try.func6, Try.ntmps6
  go_wp2_with fail
  refine (s_l00From _ l _ hl HIN.out).mono ?_
  rintro e w1 ⟨rfl, hg1, hs1⟩
  have hz1 : w.heap.size + 1 ≤ w1.heap.size := by have := hg1.size; simpa using this
  have d3 : w1.cell? ⟨w.heap.size, 0, none⟩ = some (.slice none 0 0) := by rw [hg1.cell_far _ (by simp) (by simp)]; simp [go_sem]
  have e3 : w1.frozen? ⟨w.heap.size, 0, none⟩ = false := by rw [hg1.frozen_far _ (by simp) (by simp)]; simp [go_sem]
  have B1 : Below w.heap.size w w1 := below_of_grown (grown_new (grown_of_bel (r := none) HB.out) hg1 (fun q e => by cases e)) (Nat.le_refl _) (fun q e => by cases e)
  have HB1 := Lib.hid B1
  have hs2 : Src w1 (w.heap.size + 1) l 0 := by simpa using hs1
  have HS1 := Lib.hid hs2
  clear hg1 hs1 hs2 B1
  go_wp2_with fail
  refine (s_l02Huge (w.heap.size + 1) 0 l _ (by omega) HS1.out).mono ?_
  rintro e w2 ⟨v2, L, rfl, hok, hne, ho, hg2⟩
  obtain ⟨g, cc, rfl, hg2a, -⟩ := owns_some3 ho (fun e => hne (List.eq_nil_of_length_eq_zero e))
  have hz2 := hg2.size
  have d4 : w2.cell? ⟨w.heap.size, 0, none⟩ = some (.slice none 0 0) := by rw [hg2.cell_far _ (by simp; omega) (by simp)]; exact d3
  have e4 : w2.frozen? ⟨w.heap.size, 0, none⟩ = false := by rw [hg2.frozen_far _ (by simp; omega) (by simp)]; exact e3
  have HB2 := Lib.hid (below_of_grown (grown_new (grown_of_bel (r := none) HB1.out) hg2 (fun q e => by injection e with e; omega)) (Nat.le_refl _) (fun q e => by cases e))
  have HO2 := Lib.hid (OwnRu.kept (OwnRu.weak ho (show w.heap.size ≤ _ by omega)) (grownBy_set w2 ⟨w.heap.size, 0, none⟩ (.slice (some ⟨g, 0, none⟩) L.length cc)) (.inr (by simp [Value.ownBlock]; omega)))
  have HK2 := Lib.hid hok
  clear hg2 ho hok d3 e3 HB1 HS1
  go_wp2
  exact bodyPost_ret (v := .agg #[.slice (some ⟨g, 0, none⟩) L.length cc]) (by simp [results, Try.results6, go_sem, cell_st_same _ d4]) rfl ⟨_, L, rfl, HK2.out, hne, HO2.out, HB2.out.setCell (by simp) _⟩
end Go.Proofs.Ytimfbnjgodbgoaa

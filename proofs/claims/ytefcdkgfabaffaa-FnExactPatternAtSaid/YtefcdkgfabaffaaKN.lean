/- StateMaps, of the program and of the reference. -/
import Derived.Test.YtefcdkgfabaffaaKM
import Derived.Test.YtefcdkgfabaffaaY2
namespace Go.Proofs.Ytefcdkgfabaffaa
open Go.ChangeShapes Go.WideShapes Go.RowKit
set_option linter.unusedVariables false
set_option linter.unusedSimpArgs false
set_option maxHeartbeats 2000000
set_option maxRecDepth 100000
theorem l_toAuto3 (u1 u2 : Value) (a : Au) (w : World) (hs : auSm a) (h1 : InI w u1 a.fi) (h2 : InT w u2 a.nx) :
    Calls Try.prog 19 #[.agg #[.int .i64 a.st, .int .i64 a.sa, u1, u2]] w fun e w' => ∃ g1 g2 vs, e = .returned (.agg #[.int .i64 a.st, .int .i64 a.sa, .slice (some ⟨g1, 0, none⟩) a.fi.length a.fi.length, .slice (some ⟨g2, 0, none⟩) a.nx.length a.nx.length]) ∧ AuR w.heap.size w' (.slice (some ⟨g1, 0, none⟩) a.fi.length a.fi.length) (.slice (some ⟨g2, 0, none⟩) a.nx.length a.nx.length) vs a ∧ Below w.heap.size w w' := by
  refine (l_toAuto u1 u2 a w hs h1 h2).mono ?_
  rintro e w' ⟨g1, g2, rfl, h3, h4, ⟨hne, c, hc, vs, h5⟩, hb⟩
  have hq : RowsT c w' (.slice (some ⟨g2, 0, none⟩) a.nx.length a.nx.length) vs a.nx := h5
  have hlo := (h3.lt g1 rfl).1
  refine ⟨g1, g2, vs, rfl, ⟨h3, ⟨hq.1, owns_weak hq.2.1 (by omega), fun k hk => owns_weak (hq.2.2.1 k hk) (by omega), hq.2.2.2⟩, ?_⟩, hb⟩
  · intro b hb1
    injection hb1 with hb1
    subst hb1
    refine ⟨fun e => hne (by injection e with e; exact e.symm), fun i hi e => ?_⟩
    have h9 : c ≤ g1 := ((hq.2.2.1 i hi).lt _ e).1
    omega
theorem Gp.cell {P : Nat → Prop} {w w' : World} (g : Gp P w w') {b o : Nat} {v : Value} (hc : w.cell? ⟨b, o, none⟩ = some v) (hb : ¬ P b) : w'.cell? ⟨b, o, none⟩ = some v :=
  (World.cell?_of_block (a := ⟨b, o, none⟩) (g.block b (World.block_lt_of_cell? _ _ hc) hb)).trans hc
theorem l_toGrammar2 (v : Value) (l : List Ru) (w : World) (hn : l.length ≤ 1048576) (hin : InRu w v l) :
    Calls Try.prog 41 #[.agg #[v]] w fun e w' => ∃ g cap, e = .returned (.agg #[.slice (some ⟨g, 0, none⟩) l.length cap]) ∧ InRu w' (.slice (some ⟨g, 0, none⟩) l.length cap) l ∧ Below w.heap.size w w' := by
  refine (l_toGrammar v l w hn hin).mono ?_
  rintro e w' ⟨g, cap, rfl, ho, hb⟩
  exact ⟨g, cap, rfl, inRu_own rfl ho, hb⟩
theorem l_markGrammarK (g n cap k : Nat) (ys : List Value) (base : Nat) (w : World) (hk : 1 ≤ k) (hk2 : k + 3 * n ≤ 1099511627776) (hown : w.ownsRow base 131 3 (.slice (some ⟨g, 0, none⟩) n cap) n ys) :
    Calls Try.prog 45 #[.agg #[.slice (some ⟨g, 0, none⟩) n cap], .int .i64 k] w fun e w' => e = .returned (.int .i64 ((k + 3 * n : Nat) : Int)) ∧ w.grownBy w' (some g) := by
  have hbx := owns_after hown ((Below.refl w.heap.size w).alloc (Nat.le_refl _) (.cells #[.slice (some ⟨g, 0, none⟩) n cap] 59))
  have H := Lib.hid (l_markRuleS g n cap k ys base _ (by omega) (by omega) hbx)
  clear hown hbx
  go_enter Try.func45, Try.ntmps45
  go_wp2_with fail
  refine H.out.mono ?_
  rintro e w1 ⟨rfl, hg1⟩
  have hg2 : w.grownBy w1 (some g) := (grown_bel (World.grownBy.refl w (some g)) ((Below.refl _ _).alloc (Nat.le_refl _) _)).trans hg1
  clear hg1 H
  go_wp2
  go_ret
  exact ⟨rfl, hg2⟩
theorem l_eqSS1 (va vb : Value) (t : Tb) (w : World) (ha : InT w va t) (hb : InT w vb t) (hx : t.length ≤ 1048576) (hr : ∀ r ∈ t, r.length ≤ 1048576) :
    Calls Try.prog 43 #[va, vb] w fun e w' => e = .returned (.bool true) ∧ Qt w w' := by
  refine (l_eqT va vb t t w ha hb hx hx hr hr).mono ?_
  rintro e w' ⟨rfl, h⟩
  exact ⟨by simp, h⟩
theorem l_markSS1 (v : Value) (t : Tb) (vs : List Value) (N base : Nat) (w : World) (hN : 1 + ts t t.length = N) (hx : t.length ≤ 1048576) (hr : ∀ r ∈ t, r.length ≤ 1048576) (h : RowsT base w v vs t) :
    Calls Try.prog 46 #[v, .int .i64 1] w fun e w' => e = .returned (.int .i64 (N : Int)) ∧ RowsT base w' v vs (mkT 1 t) ∧ Gp (fun b => ∃ i, i < t.length ∧ (vs.getD i undef).ownBlock = some b) w w' := by
  subst hN
  exact l_markSS v t vs 1 base w (by omega) hx hr h
theorem l_heldSS1 (v : Value) (t : Tb) (vs : List Value) (N base : Nat) (w : World) (hN : 1 + ts t t.length = N) (hx : t.length ≤ 1048576) (hr : ∀ r ∈ t, r.length ≤ 1048576) (h : RowsT base w v vs (mkT 1 t)) :
    Calls Try.prog 47 #[v, .int .i64 1] w fun e w' => e = .returned (.int .i64 (N : Int)) ∧ w = w' := by
  subst hN
  exact l_heldSS v t vs 1 base w (by omega) hx hr h
def smC (a : Au) (l : List Ru) : Int := if (gOk l && auOk a) = true then 0 else 1
def smV (a : Au) (l : List Ru) : Tb := if (gOk l && auOk a) = true then gSm a.nx l else []
theorem smV_sm (a : Au) (l : List Ru) (h : (gOk l && auOk a) = true) : (gSm a.nx l).length ≤ 400 ∧ ∀ r ∈ gSm a.nx l, r.length ≤ 24 := by
  rw [Bool.and_eq_true] at h
  obtain ⟨hok, hao⟩ := h
  obtain ⟨f1, f2, f3, f4, f5⟩ := auOk_facts hao
  have hl := smT_len a.nx l l.length
  refine ⟨by unfold gSm; rw [hl]; exact (gOk_some hok).1, fun r hr => ?_⟩
  obtain ⟨j, hj, rfl⟩ := List.getElem_of_mem hr
  have hj2 : j < l.length := by unfold gSm at hj; rwa [hl] at hj
  have := smT_row a.nx l (k := l.length) hj2
  rw [tA, List.getD, List.getElem?_eq_getElem (by rw [hl]; exact hj2)] at this
  have h2 : ((gSm a.nx l)[j]).length = a.nx.length := this
  rw [h2]; omega
theorem smV_ok (a : Au) (l : List Ru) : (smV a l).length ≤ 1048576 ∧ ∀ r ∈ smV a l, r.length ≤ 1048576 := by
  unfold smV
  split
  · rename_i h
    obtain ⟨h1, h2⟩ := smV_sm a l h
    exact ⟨by omega, fun r hr => by have := h2 r hr; omega⟩
  · exact ⟨by simp, fun r hr => by cases hr⟩
theorem ownT_nil0 (base : Nat) (w : World) : OwnT base w (.slice none 0 0) [] :=
  ⟨[], rfl, World.ownsRow_nil _ _ _ _, fun k hk => absurd hk (by simp), fun i j _ hj => absurd hj (by simp), fun i b hi => absurd hi (by simp)⟩
theorem i_StateMaps (u1 u2 vg : Value) (a : Au) (l : List Ru) (w : World) (hs : auSm a) (hn : l.length ≤ 1048576) (hsz : ∀ r ∈ l, r.1.size ≤ 1048576) (h1 : InI w u1 a.fi) (h2 : InT w u2 a.nx) (hg : InRu w vg l) :
    Calls Try.prog 42 #[.agg #[.int .i64 a.st, .int .i64 a.sa, u1, u2], .agg #[vg]] w fun e w' => ∃ v', e = .returned (.tuple #[v', .int .i64 (smC a l)]) ∧ OwnT w.heap.size w' v' (smV a l) ∧ Below w.heap.size w w' := by
  obtain ⟨a1, k1, rfl⟩ := inI_sl h1
  obtain ⟨a2, k2, rfl⟩ := inT_sl h2
  obtain ⟨ag, kg, rfl⟩ := inRu_sl hg
  have hbx := ((Below.refl w.heap.size w).alloc (Nat.le_refl _) (.cells #[.int .i64 a.st, .int .i64 a.sa, .slice a1 a.fi.length k1, .slice a2 a.nx.length k2] 28)).alloc (by simp) (.cells #[.slice ag l.length kg] 59)
  have HBX : Hid (∀ w', Below ((w.alloc (.cells #[.int .i64 a.st, .int .i64 a.sa, .slice a1 a.fi.length k1, .slice a2 a.nx.length k2] 28)).alloc (.cells #[.slice ag l.length kg] 59)).heap.size ((w.alloc (.cells #[.int .i64 a.st, .int .i64 a.sa, .slice a1 a.fi.length k1, .slice a2 a.nx.length k2] 28)).alloc (.cells #[.slice ag l.length kg] 59)) w' → Below w.heap.size w w') := fun w' h => below_box (below_box h)
  cases h : (gOk l && auOk a)
  · have e1 : smC a l = 1 := by rw [smC, h]; simp
    have e2 : smV a l = [] := by rw [smV, h]; simp
    have HN := Lib.hid (i_newRide_f _ _ _ a l _ hs hn hsz (inI_below h1 hbx) (inT_below h2 hbx) (inRu_below hg hbx) h)
    rw [e1, e2]
    clear e1 e2 h1 h2 hg hs hsz hbx h
    go_enter Try.func42, Try.ntmps42
    go_wp2_with fail
    refine (HN.out).mono ?_
    rintro e w2 ⟨rfl, hb2⟩
    have BF := HBX.out _ hb2
    clear hb2 HN
    go_wp2
    go_ret2
    exact ⟨_, rfl, ownT_nil0 _ _, by first | exact BF.alloc BF.size _ | exact BF | exact ((BF.alloc BF.size _).setCell (by simp; exact BF.size) _)⟩
  · have e1 : smC a l = 0 := by rw [smC, h]; simp
    have e2 : smV a l = gSm a.nx l := by rw [smV, h]; simp
    have HN := Lib.hid (i_newRide _ _ _ a l _ hs hn hsz (inI_below h1 hbx) (inT_below h2 hbx) (inRu_below hg hbx) h)
    rw [e1, e2]
    clear e1 e2 h1 h2 hg hs hsz hbx h
    go_enter Try.func42, Try.ntmps42
    go_wp2_with fail
    refine (HN.out).mono ?_
    rintro e w2 ⟨vl, vm, rfl, hol, hom, hb2⟩
    obtain ⟨al, kl, rfl, -, -⟩ := owns_sl3 hol
    obtain ⟨am, km, rfl⟩ := inT_sl (ownT_in hom)
    have BF := HBX.out _ hb2
    have HOM := Lib.hid hom
    clear hb2 HN hol hom
    go_wp2
    go_ret2
    refine ⟨_, rfl, ownT_weak (ownT_after HOM.out ?_) (by simp; omega), ?_⟩
    · exact (by repeat (first | exact Below.refl _ _ | assumption | apply Below.drew | (refine Below.alloc ?_ (by first | (simp; done) | (simp; omega)) _) | (refine Below.setCell ?_ (by first | (simp; done) | (simp; omega)) _)))
    · have hs := BF.size
      repeat (first | exact BF | (refine Below.alloc ?_ (by first | exact hs | (simp; omega)) _) | (refine Below.setCell ?_ (by first | exact hs | (simp; omega)) _))
theorem s_StateMaps (u1 u2 vg : Value) (a : Au) (l : List Ru) (w : World) (hs : auSm a) (hn : l.length ≤ 1048576) (hsz : ∀ r ∈ l, r.1.size ≤ 1048576) (h1 : InI w u1 a.fi) (h2 : InT w u2 a.nx) (hg : InRu w vg l) :
    Calls Try.prog 40 #[.agg #[.int .i64 a.st, .int .i64 a.sa, u1, u2], .agg #[vg]] w fun e w' => ∃ v', e = .returned (.tuple #[v', .int .i64 (smC a l)]) ∧ OwnT w.heap.size w' v' (smV a l) ∧ Below w.heap.size w w' := by
  obtain ⟨a1, k1, rfl⟩ := inI_sl h1
  obtain ⟨a2, k2, rfl⟩ := inT_sl h2
  obtain ⟨ag, kg, rfl⟩ := inRu_sl hg
  have hbx := ((Below.refl w.heap.size w).alloc (Nat.le_refl _) (.cells #[.int .i64 a.st, .int .i64 a.sa, .slice a1 a.fi.length k1, .slice a2 a.nx.length k2] 28)).alloc (by simp) (.cells #[.slice ag l.length kg] 59)
  have HBX : Hid (∀ w', Below ((w.alloc (.cells #[.int .i64 a.st, .int .i64 a.sa, .slice a1 a.fi.length k1, .slice a2 a.nx.length k2] 28)).alloc (.cells #[.slice ag l.length kg] 59)).heap.size ((w.alloc (.cells #[.int .i64 a.st, .int .i64 a.sa, .slice a1 a.fi.length k1, .slice a2 a.nx.length k2] 28)).alloc (.cells #[.slice ag l.length kg] 59)) w' → Below w.heap.size w w') := fun w' h => below_box (below_box h)
  have HI1 := Lib.hid (inI_below h1 hbx)
  have HI2 := Lib.hid (inT_below h2 hbx)
  have HIG := Lib.hid (inRu_below hg hbx)
  have HV := Lib.hid (s_l04Ok w.heap.size 0 _ _ a _ hs (by simp [go_sem]) (by simp [go_sem]) (by simp [go_sem]) (by simp [go_sem]) HI1.out HI2.out)
  have HG := Lib.hid (fun w1 c i => s_l02Ok (w.heap.size + 1) 0 kg ag l w1 hn hsz c i)
  have hqb := fun q => below_drewN (Below.refl ((w.alloc (.cells #[.int .i64 a.st, .int .i64 a.sa, .slice a1 a.fi.length k1, .slice a2 a.nx.length k2] 28)).alloc (.cells #[.slice ag l.length kg] 59)).heap.size ((w.alloc (.cells #[.int .i64 a.st, .int .i64 a.sa, .slice a1 a.fi.length k1, .slice a2 a.nx.length k2] 28)).alloc (.cells #[.slice ag l.length kg] 59))) q
  have HQB := Lib.hid hqb
  clear h1 h2 hg hs hsz hbx hqb
  cases hao : auOk a
  · have e1 : smC a l = 1 := by rw [smC, hao]; simp
    have e2 : smV a l = [] := by rw [smV, hao]; simp
    rw [hao] at HV
    rw [e1, e2]
    clear e1 e2 hao HI1 HI2 HIG HG
    go_enter Try.func40, Try.ntmps40
    go_wp2_with fail
    refine (HV.out).mono ?_
    rintro e w2 ⟨rfl, q2, rfl⟩
    have BF := HBX.out _ (HQB.out q2)
    have hw := ownT_after (ownT_nil (w := ((w.alloc (.cells #[.int .i64 a.st, .int .i64 a.sa, .slice a1 a.fi.length k1, .slice a2 a.nx.length k2] 28)).alloc (.cells #[.slice ag l.length kg] 59))) (base := w.heap.size) (by simp; omega)) (below_drewN (Below.refl _ _) q2)
    simp at hw
    have HW := Lib.hid hw
    clear hw
    go_wp2
    go_ret2
    exact ⟨_, rfl, HW.out, by first | exact BF.alloc BF.size _ | exact below_drewN (below_box (below_box ((Below.refl _ _).alloc (Nat.le_refl _) _))) q2⟩
  · rw [hao] at HV
    cases hok : gOk l
    · have e1 : smC a l = 1 := by rw [smC, hok]; simp
      have e2 : smV a l = [] := by rw [smV, hok]; simp
      rw [hok] at HG
      rw [e1, e2]
      clear e1 e2 hao hok HI1 HI2
      go_enter Try.func40, Try.ntmps40
      go_wp2_with fail
      refine (HV.out).mono ?_
      rintro e w2 ⟨rfl, q2, rfl⟩
      go_wp2_with fail
      refine (HG.out _ (by simp [go_sem]) (inRu_below HIG.out (HQB.out q2))).mono ?_
      rintro e w3 ⟨rfl, hb3⟩
      have BF := HBX.out _ ((HQB.out q2).trans (hb3.mono (HQB.out q2).size))
      clear hb3
      go_wp2
      go_ret2
      exact ⟨_, rfl, ownT_weak (ownT_nil (Nat.le_refl _)) BF.size, BF.alloc BF.size _⟩
    · have e1 : smC a l = 0 := by rw [smC, hao, hok]; simp
      have e2 : smV a l = gSm a.nx l := by rw [smV, hao, hok]; simp
      obtain ⟨f1, f2, f3, f4, f5⟩ := auOk_facts hao
      have HM := Lib.hid (fun w1 i c g => s_l04Maps (.slice a2 a.nx.length k2) (w.heap.size + 1) 0 kg ag a.nx l w1 hok (by omega) (fun s hs => by rw [f4]; exact f5 s hs) i c g)
      rw [hok] at HG
      rw [e1, e2]
      clear e1 e2 hao hok f1 f2 f3 f4 f5
      go_enter Try.func40, Try.ntmps40
      go_wp2_with fail
      refine (HV.out).mono ?_
      rintro e w2 ⟨rfl, q2, rfl⟩
      go_wp2_with fail
      refine (HG.out _ (by simp [go_sem]) (inRu_below HIG.out (HQB.out q2))).mono ?_
      rintro e w3 ⟨rfl, hb3⟩
      have B3 := (HQB.out q2).trans (hb3.mono (HQB.out q2).size)
      have d0 : w3.cell? ⟨w.heap.size + 1, 0, none⟩ = some (.slice ag l.length kg) := by rw [B3.cell (by first | (simp; done) | (simp; omega))]; simp [go_sem]
      have d3 : w3.cell? ⟨w.heap.size, 3, none⟩ = some (.slice a2 a.nx.length k2) := by rw [B3.cell (by first | (simp; done) | (simp; omega))]; simp [go_sem]
      clear hb3
      go_wp2_with fail
      refine (HM.out _ (inT_below HI2.out B3) d0 (inRu_below HIG.out B3)).mono ?_
      rintro e w4 ⟨v', rfl, hom, hb4⟩
      have BF := HBX.out _ (B3.trans (hb4.mono B3.size))
      have hbs := (HBX.out _ B3).size
      have HOM := Lib.hid (ownT_weak hom hbs)
      clear hb4 hom d0 d3 B3 hbs
      go_wp2
      go_ret2
      exact ⟨_, rfl, HOM.out, BF⟩
end Go.Proofs.Ytefcdkgfabaffaa

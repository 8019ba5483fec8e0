/- Another drawn grammar of the same word, or of a longer one: l03Other. -/
import Derived.Test.YtoejelieogjjpaaQL
import Derived.Test.YtoejelieogjjpaaQH
import Derived.Test.YtoejelieogjjpaaUF
namespace Go.Proofs.Ytoejelieogjjpaa
open Go.ChangeShapes Go.WideShapes Go.RowKit
set_option linter.unusedVariables false
set_option linter.unusedSimpArgs false
set_option maxHeartbeats 4000000
set_option maxRecDepth 100000
/-- a grammar in a box -/
def GbR (b base : Nat) (v : Value) (L : List Ru) (X : World) : Prop := X.cell? ⟨b, 0, none⟩ = some v ∧ X.frozen? ⟨b, 0, none⟩ = false ∧ OwnRu X base v L ∧ b < X.heap.size
theorem GbR.grown {gs b base : Nat} {v : Value} {L : List Ru} {X Y : World} (h : GbR b base v L X) (hg : X.grownBy Y (some gs)) (hb : b ≠ gs) (hs : gs < base) : GbR b base v L Y := by
  obtain ⟨h1, h2, h3, h4⟩ := h
  refine ⟨(hg.cell_far _ h4 (by simpa using hb)).trans h1, (hg.frozen_far _ h4 (by simpa using hb)).trans h2, h3.kept hg ?_, Nat.lt_of_lt_of_le h4 hg.size⟩
  cases he : v.ownBlock with
  | none => exact .inl rfl
  | some q => exact .inr (by have := (h3.lt q he).1; intro e; injection e with e; omega)
theorem GbR.bel {b base : Nat} {v : Value} {L : List Ru} {X Y : World} (h : GbR b base v L X) (hb : Below X.heap.size X Y) : GbR b base v L Y :=
  ⟨cell_later hb h.1, (hb.frozen h.2.2.2).trans h.2.1, owns_after h.2.2.1 hb, Nat.lt_of_lt_of_le h.2.2.2 hb.size⟩
theorem GbR.in_ {b base : Nat} {v : Value} {L : List Ru} {X : World} (h : GbR b base v L X) (h0 : L ≠ []) : InRu X v L := inRu_of_own h.2.2.1 h0
theorem GbR.new {base : Nat} {v : Value} {L : List Ru} {Y : World} (h : OwnRu Y base v L) : GbR Y.heap.size base v L (Y.alloc (.cells #[v] 26)) :=
  ⟨by simp [go_sem], by simp [go_sem], h.alloc _, by simp⟩
theorem GbR.other {b base b2 : Nat} {v u : Value} {L : List Ru} {X : World} (h : GbR b base v L X) (hb : b2 ≠ b) (hv : v.ownBlock ≠ some b2) : GbR b base v L (X.setCell ⟨b2, 0, none⟩ u) := by
  obtain ⟨h1, h2, h3, h4⟩ := h
  refine ⟨?_, by simpa using h2, h3.kept (grownBy_set _ _ _) ?_, by simpa using h4⟩
  · rw [World.cell?_setCell_far _ _ _ _ (by simpa using hb)]; exact h1
  · cases he : v.ownBlock with
    | none => exact .inl rfl
    | some q => exact .inr (fun e => hv (by rw [he]; exact e))
theorem GbR.put {b base base2 : Nat} {v v2 : Value} {L L2 : List Ru} {X : World} (h : GbR b base v L X) (h2 : OwnRu X base2 v2 L2) (hv : v2.ownBlock ≠ some b) : GbR b base2 v2 L2 (X.setCell ⟨b, 0, none⟩ v2) := by
  refine ⟨cell_st_same _ h.1, by simpa using h.2.1, h2.kept (grownBy_set _ _ _) ?_, by simpa using h.2.2.2⟩
  cases he : v2.ownBlock with
  | none => exact .inl rfl
  | some q => exact .inr (fun e => hv (by rw [he]; exact e))
theorem al_bel (X : World) (o : Obj) : Below X.heap.size X (X.alloc o) := (Below.refl X.heap.size X).alloc (Nat.le_refl _) o
/-- the source, and all that was there before -/
def L3 (w1 : World) (gs : Nat) (lc : List UInt8) (B : Nat) (X : World) : Prop := w1.grownBy X (some gs) ∧ Src X gs lc B
theorem L3.bel {w1 X Y : World} {gs B : Nat} {lc : List UInt8} (h : L3 w1 gs lc B X) (hb : Below X.heap.size X Y) : L3 w1 gs lc B Y :=
  ⟨grown_bel h.1 hb, Src.kept (row := none) h.2 (grown_of_bel hb) (fun r e => by cases e)⟩
theorem L3.src {w1 X Y : World} {gs B B' : Nat} {lc : List UInt8} (h : L3 w1 gs lc B X) (hg : X.grownBy Y (some gs)) (hs : Src Y gs lc B') : L3 w1 gs lc B' Y := ⟨h.1.trans hg, hs⟩
theorem L3.put {w1 X : World} {gs B b : Nat} {lc : List UInt8} {v : Value} (h : L3 w1 gs lc B X) (hb : w1.heap.size ≤ b) (hgs : gs < w1.heap.size) : L3 w1 gs lc B (X.setCell ⟨b, 0, none⟩ v) :=
  ⟨grown_new h.1 (grownBy_set _ _ _) (fun q e => by injection e with e; simp at e; omega), Src.kept h.2 (grownBy_set _ _ _) (fun q e => by injection e with e; simp at e; omega)⟩
theorem ptX_split {l : List Ru} (hok : gOk l = true) {k : Int} (h0 : 0 ≤ k) (h1 : k ≤ lastI (gLn l)) : ptX l 0 k = (wd l).take k.toNat ∧ ptX l k (lastI (gLn l)) = (wd l).drop k.toNat := by
  have := wd_len hok
  refine ⟨rfl, ?_⟩
  rw [ptX, List.take_of_length_le (by omega)]
theorem s_l03Other (gs bg og cg : Nat) (ag : Option Addr) (lc : List UInt8) (l : List Ru) (w : World) (hs : Src w gs lc 0) (h0 : l ≠ []) (hok : gOk l = true) (habc : abcL l) (h14 : l.length ≤ 14) (h60 : lastI (gLn l) ≤ 60)
    (hg : ∀ X, w.grownBy X (some gs) → X.cell? ⟨bg, og, none⟩ = some (.slice ag l.length cg) ∧ InRu X (.slice ag l.length cg) l) :
    Calls Try.prog 27 #[.pointer (some ⟨gs, 0, none⟩), .pointer (some ⟨bg, og, none⟩)] w fun e w' => ∃ v O, e = .returned (.agg #[v]) ∧ OwnRu w' w.heap.size v O ∧ gOk O = true ∧ O ≠ [] ∧ abcL O ∧ (wd O = wd l ∨ (wd l).length < (wd O).length) ∧ (wd O).length ≤ (wd l).length + 3 ∧ w.grownBy w' (some gs) := by
  have hgs := hs.lt
  have hsm : ∀ r ∈ l, r.1.size ≤ 1048576 := fun r hr => by have := ru_small hok r hr; omega
  have hsome : (lnT l l.length).isSome = true := by rw [(gOk_some hok).2.1]; rfl
  have hwl := wd_len hok
  have h1 : 1 ≤ lastI (gLn l) := by
    have hl0 : l.length ≠ 0 := fun e => h0 (List.eq_nil_of_length_eq_zero e)
    rw [lastI_at (by rw [(gOk_some hok).2.2.1]; omega)]
    exact ((gOk_some hok).2.2.2 _ (getD_mem (by rw [(gOk_some hok).2.2.1]; omega))).1
  have HSP := Lib.hid (fun k (h0 : 0 ≤ k) (h1 : k ≤ lastI (gLn l)) => ptX_split hok h0 h1)
  have hal := World.grownBy_alloc w (.cells #[.slice none 0 0] 26) (some gs)
  obtain ⟨w1, hw1⟩ : ∃ w1, w1 = w.alloc (.cells #[.slice none 0 0] 26) := ⟨_, rfl⟩
  have HL : Hid (L3 w1 gs lc 0 w1) := by rw [hw1]; exact ⟨⟨rfl, rfl, rfl, Nat.le_refl _, fun _ _ _ => rfl⟩, Src.kept (row := none) hs (World.grownBy_alloc _ _ _) (fun r e => by cases e)⟩
  have HR : Hid (w1.cell? ⟨w.heap.size, 0, none⟩ = some (.slice none 0 0) ∧ w1.frozen? ⟨w.heap.size, 0, none⟩ = false ∧ w1.heap.size = w.heap.size + 1 ∧ w.grownBy w1 (some gs)) := by rw [hw1]; exact ⟨by simp [go_sem], by simp [go_sem], by simp, hal⟩
  have HG : Hid (∀ X, w1.grownBy X (some gs) → X.cell? ⟨bg, og, none⟩ = some (.slice ag l.length cg) ∧ InRu X (.slice ag l.length cg) l) := fun X hX => hg X (HR.out.2.2.2.trans hX)
  clear hs hg hal
  go_enter Try.func27, Try.ntmps27
  go_upto_region 1 with fail
  rw [← hw1]
  clear hw1
  have HLN := Lib.hid (fun X c i => s_l02Length bg og cg ag l X (by omega) hsm c i hsome)
  have HOK := Lib.hid (fun X c i => s_l02Ok bg og cg ag l X (by omega) hsm c i)
  have HCT := Lib.hid (fun i j X c d hi hij hj hn => s_l02Cut bg og cg ag l i j X h0 hok hsm c d hi hij hj hn)
  rw [hok] at HOK
  have HLL := Lib.hid (And.intro h1 (And.intro h60 hwl))
  have HAB := Lib.hid habc
  clear hsm hsome habc
  obtain ⟨n, hn⟩ : ∃ n : Nat, lastI (gLn l) = (n : Int) := ⟨(wd l).length, hwl.symm⟩
  rw [hn] at HLN HCT HLL HSP
  have hn1 : 1 ≤ n := by omega
  have hn60 : n ≤ 60 := by omega
  clear hn h1 h60 hwl
  go_wp2_with fail
  refine (HLN.out _ (HG.out _ HL.out.1).1 (HG.out _ HL.out.1).2).mono ?_
  rintro e w2 ⟨rfl, hb2⟩
  have HL2 := Lib.hid (HL.out.bel hb2)
  clear hb2
  go_wp2_with fail
  refine (HOK.out _ (HG.out _ HL2.out.1).1 (HG.out _ HL2.out.1).2).mono ?_
  rintro e w3 ⟨rfl, hb3⟩
  have HL3 := Lib.hid (HL2.out.bel hb3)
  clear hb3 HL2 HL
  have hn0 : ((n : Int) == 0) = false := by rw [beq_eq_false_iff_ne]; omega
  go_wp2_with fail
  refine (s_pick gs 0 lc ((n : Int) + 1) _ (by omega) (by omega) HL3.out.2).mono ?_
  rintro e w4 ⟨k, rfl, hk, hg4, hs4⟩
  have HL4 := Lib.hid (HL3.out.src hg4 hs4)
  have hkn : k ≤ n := by omega
  clear hg4 hs4 hk HL3
  go_wp2_with fail
  refine (HCT.out 0 k _ (HG.out _ HL4.out.1).1 (HG.out _ HL4.out.1).2 (by omega) (by omega) (by omega) (by omega)).mono ?_
  rintro e w5 ⟨va, A, rfl, hoa, hka, hwa, -, hla, hba, hb5⟩
  obtain ⟨aa, ca, rfl⟩ := size_OwnRu hoa
  have hw14 : w1.heap.size ≤ w4.heap.size := HL4.out.1.size
  have hgs1 : gs < w1.heap.size := by have := HR.out.2.2.1; omega
  have hz5 : w4.heap.size ≤ w5.heap.size := hb5.size
  have HL5 := Lib.hid ((HL4.out.bel hb5).bel (al_bel w5 (.cells #[.slice aa A.length ca] 26)))
  have HA5 := Lib.hid (GbR.new (OwnRu.weak hoa hw14))
  have hz5' : w5.heap.size < (w5.alloc (.cells #[.slice aa A.length ca] 26)).heap.size := by simp
  have HAF := Lib.hid (And.intro hka (And.intro hwa (And.intro hla hba)))
  clear hoa hka hwa hla hba hb5 HL4
  obtain ⟨b7, hb7⟩ : ∃ b, b = w5.heap.size := ⟨_, rfl⟩
  go_upto_region 6 with fail
  rw [← hb7] at HA5 hz5 hz5' ⊢
  clear hb7
  generalize w5.alloc (.cells #[.slice aa A.length ca] 26) = X5 at *
  go_wp2_with fail
  refine (HCT.out k n _ (HG.out _ HL5.out.1).1 (HG.out _ HL5.out.1).2 (by omega) (by omega) (by omega) (by omega)).mono ?_
  rintro e w6 ⟨vb, Bq, rfl, hob, hkb, hwb, hneb, hlb, hbb, hb6⟩
  obtain ⟨ab, cb, rfl⟩ := size_OwnRu hob
  have hz6 : X5.heap.size ≤ w6.heap.size := hb6.size
  have HL6 := Lib.hid ((HL5.out.bel hb6).bel (al_bel w6 (.cells #[.slice ab Bq.length cb] 26)))
  have HA6 := Lib.hid ((HA5.out.bel hb6).bel (al_bel w6 (.cells #[.slice ab Bq.length cb] 26)))
  have HB6 := Lib.hid (GbR.new (OwnRu.weak hob (show w1.heap.size ≤ X5.heap.size by omega)))
  have hz6' : w6.heap.size < (w6.alloc (.cells #[.slice ab Bq.length cb] 26)).heap.size := by simp
  have HBF := Lib.hid (And.intro hkb (And.intro hwb (And.intro hlb (And.intro hbb hneb))))
  clear hob hkb hwb hlb hbb hb6 HL5 HA5 hneb HCT
  obtain ⟨b8, hb8⟩ : ∃ b, b = w6.heap.size := ⟨_, rfl⟩
  go_upto_region 7 with fail
  rw [← hb8] at HB6 hz6 hz6' ⊢
  clear hb8
  generalize w6.alloc (.cells #[.slice ab Bq.length cb] 26) = X6 at *
  go_wp2_with fail
  refine (s_l02TrimG b7 0 ca aa A X6 HAF.out.1 HA6.out.1 (fun h => HA6.out.in_ h)).mono ?_
  rintro e w7 ⟨vx, x, rfl, hox, hkx, hwx, -, hlx, hbx, hb7⟩
  obtain ⟨ax, cx, rfl⟩ := size_OwnRu hox
  have hz7 : X6.heap.size ≤ w7.heap.size := hb7.size
  have HL7 := Lib.hid ((HL6.out.bel hb7).bel (al_bel w7 (.cells #[.slice ax x.length cx] 26)))
  have HB7 := Lib.hid ((HB6.out.bel hb7).bel (al_bel w7 (.cells #[.slice ax x.length cx] 26)))
  have HX7 := Lib.hid (GbR.new (OwnRu.weak hox (show w1.heap.size ≤ X6.heap.size by omega)))
  have hz7' : w7.heap.size < (w7.alloc (.cells #[.slice ax x.length cx] 26)).heap.size := by simp
  have HXF : Hid (gOk x = true ∧ wd x = (wd l).take k ∧ x.length ≤ 74 ∧ abcL x) := by
    refine ⟨hkx, ?_, ?_, hbx (HAF.out.2.2.2 HAB.out)⟩
    · rw [hwx, HAF.out.2.1, (HSP.out k (by omega) (by omega)).1, Int.toNat_natCast]
    · have := HAF.out.2.2.1; omega
  clear hox hkx hwx hlx hbx hb7 HL6 HA6 HAF HB6
  obtain ⟨b9, hb9⟩ : ∃ b, b = w7.heap.size := ⟨_, rfl⟩
  go_upto_region 8 with fail
  rw [← hb9] at HX7 hz7 hz7' ⊢
  clear hb9
  generalize w7.alloc (.cells #[.slice ax x.length cx] 26) = X7 at *
  go_wp2_with fail
  refine (s_l02TrimG b8 0 cb ab Bq X7 HBF.out.1 HB7.out.1 (fun h => HB7.out.in_ h)).mono ?_
  rintro e w8 ⟨vy, y, rfl, hoy, hky, hwy, hny, hly, hby, hb8⟩
  obtain ⟨ay, cy, rfl⟩ := size_OwnRu hoy
  have hz8 : X7.heap.size ≤ w8.heap.size := hb8.size
  have HL8 := Lib.hid ((HL7.out.bel hb8).bel (al_bel w8 (.cells #[.slice ay y.length cy] 26)))
  have HX8 := Lib.hid ((HX7.out.bel hb8).bel (al_bel w8 (.cells #[.slice ay y.length cy] 26)))
  have HY8 := Lib.hid (GbR.new (OwnRu.weak hoy (show w1.heap.size ≤ X7.heap.size by omega)))
  have hz8' : w8.heap.size < (w8.alloc (.cells #[.slice ay y.length cy] 26)).heap.size := by simp
  have HYF : Hid (gOk y = true ∧ wd y = (wd l).drop k ∧ y.length ≤ 74 ∧ abcL y) := by
    refine ⟨hky, ?_, ?_, hby (HBF.out.2.2.2.1 HAB.out)⟩
    · rw [hwy, HBF.out.2.1, (HSP.out k (by omega) (by omega)).2, Int.toNat_natCast]
    · have := HBF.out.2.2.1; omega
  have hyb : ∀ q, (Value.slice ay y.length cy).ownBlock = some q → q < w8.heap.size := fun q e => (hoy.lt q e).2
  have hxb : ∀ q, (Value.slice ax x.length cx).ownBlock = some q → q < w8.heap.size := fun q e => by have := (HX7.out.2.2.1.lt q e).2; omega
  clear hoy hky hwy hny hly hby hb8 HL7 HB7 HBF HX7
  obtain ⟨b10, hb10⟩ : ∃ b, b = w8.heap.size := ⟨_, rfl⟩
  have hb910 : b9 < b10 := by omega
  go_upto_region 9 with fail
  rw [← hb10] at HY8 hz8 hz8' hxb hyb ⊢
  clear hb10
  generalize w8.alloc (.cells #[.slice ay y.length cy] 26) = X8 at *
  go_cut [45] (fun s45 wx => ∃ b2 : Bool, s45 = .bool b2 ∧ (b2 = true → y ≠ []) ∧ L3 w1 gs lc 4 wx ∧ GbR b9 w1.heap.size (.slice ax x.length cx) x wx ∧ GbR b10 w1.heap.size (.slice ay y.length cy) y wx ∧ X8.heap.size ≤ wx.heap.size)
  case first =>
    go_wp2_with fail
    refine (s_one gs (0 + 2) lc 3 _ (by omega) (by omega) HL8.out.2).mono ?_
    rintro e w9 ⟨bb, rfl, hg9, hs9⟩
    have hz9 : X8.heap.size ≤ w9.heap.size := hg9.size
    have HL9 := Lib.hid (HL8.out.src hg9 hs9)
    have HX9 := Lib.hid (HX8.out.grown hg9 (show b9 ≠ gs by omega) hgs1)
    have HY9 := Lib.hid (HY8.out.grown hg9 (show b10 ≠ gs by omega) hgs1)
    clear hg9 hs9 HL8 HX8 HY8
    have cy9 := HY9.out.1
    cases bb
    · go_wp2
      go_meet
      exact ⟨false, rfl, (fun h => nomatch h), HL9.out, HX9.out, HY9.out, hz9⟩
    · by_cases hy0 : y.length = 0
      · have hyI : ¬ (y.length : Int) > 0 := by omega
        go_wp2
        go_meet
        exact ⟨false, rfl, (fun h => nomatch h), HL9.out, HX9.out, HY9.out, hz9⟩
      · have hyI : (y.length : Int) > 0 := by omega
        have hyne : y ≠ [] := fun e => hy0 (by rw [e]; rfl)
        go_wp2
        go_meet
        exact ⟨true, congrArg Value.bool (decide_eq_true (by omega)), fun _ => hyne, HL9.out, HX9.out, HY9.out, hz9⟩
  case rest =>
  obtain ⟨b2, rfl, hb2y, hl9, hx9, hy9, hz9⟩ := hcut
  have HL9 := Lib.hid hl9
  have HX9 := Lib.hid hx9
  have HY9 := Lib.hid hy9
  obtain ⟨w9, rfl⟩ : ∃ x, x = wc := ⟨_, rfl⟩
  clear hl9 hx9 hy9 HL8 HX8 HY8
  obtain ⟨W, hW⟩ : ∃ W, wd l = W := ⟨_, rfl⟩
  obtain ⟨D, hD⟩ : ∃ D, W.drop k = D := ⟨_, rfl⟩
  rw [hW] at HLL HYF HXF HSP
  rw [hD] at HYF
  have HWD := Lib.hid (And.intro hW hD)
  have hWl : W.length = n := by have := HLL.out.2.2; omega
  have hDl : D.length = n - k := by rw [← hD, List.length_drop]; omega
  clear hW hD
  have cy9 := HY9.out.1
  have fy9 := HY9.out.2.1
  go_upto_if 45 with fail
  go_cut [] (fun wx => ∃ (ay' : Option Addr) (cy' : Nat) (y' : List Ru), GbR b10 w1.heap.size (.slice ay' y'.length cy') y' wx ∧ GbR b9 w1.heap.size (.slice ax x.length cx) x wx ∧ L3 w1 gs lc 1000 wx ∧ gOk y' = true ∧ y'.length ≤ 152 ∧ abcL y' ∧ (wd y' = D ∨ D.length < (wd y').length) ∧ (wd y').length ≤ D.length + 3)
  case first =>
    have HNO : Hid (∃ (ay' : Option Addr) (cy' : Nat) (y' : List Ru), GbR b10 w1.heap.size (.slice ay' y'.length cy') y' w9 ∧ GbR b9 w1.heap.size (.slice ax x.length cx) x w9 ∧ L3 w1 gs lc 1000 w9 ∧ gOk y' = true ∧ y'.length ≤ 152 ∧ abcL y' ∧ (wd y' = D ∨ D.length < (wd y').length) ∧ (wd y').length ≤ D.length + 3) :=
      ⟨ay, cy, y, HY9.out, HX9.out, ⟨HL9.out.1, HL9.out.2.more (by omega)⟩, HYF.out.1, by have := HYF.out.2.2.1; omega, HYF.out.2.2.2, .inl HYF.out.2.1, by rw [HYF.out.2.1]; omega⟩
    cases b2
    · go_wp2
      go_meet
      exact HNO.out
    · have hyne := hb2y rfl
      clear HNO
      go_wp2_with fail
      refine (s_l02DrawnL gs 4 lc 3 _ (by omega) (by omega) (by omega) HL9.out.2).mono ?_
      rintro e wA ⟨vs, S, rfl, hks, hns, hls, hos, hgA, hsA, has, h14s⟩
      obtain ⟨as_, cs, rfl⟩ := size_OwnRu hos
      have hzA : w9.heap.size ≤ wA.heap.size := hgA.size
      have hw19 : w1.heap.size ≤ w9.heap.size := HL9.out.1.size
      have HLA := Lib.hid ((HL9.out.src hgA hsA).bel (al_bel wA (.cells #[.slice as_ S.length cs] 26)))
      have HXA := Lib.hid ((HX9.out.grown hgA (show b9 ≠ gs by omega) hgs1).bel (al_bel wA (.cells #[.slice as_ S.length cs] 26)))
      have HYA := Lib.hid ((HY9.out.grown hgA (show b10 ≠ gs by omega) hgs1).bel (al_bel wA (.cells #[.slice as_ S.length cs] 26)))
      have HSA := Lib.hid (GbR.new (OwnRu.weak hos hw19))
      have hzA' : wA.heap.size < (wA.alloc (.cells #[.slice as_ S.length cs] 26)).heap.size := by simp
      have hSl := wd_len hks
      have hS1 : 1 ≤ (wd S).length := by rw [wd_wo (gW_of hks) hns]; exact wo_ne (gW_of hks) _ (by have := List.length_pos_iff.2 hns; omega)
      have HSF := Lib.hid (And.intro hks (And.intro hns (And.intro has h14s)))
      have hS3 : (wd S).length ≤ 3 := by omega
      clear hks hns hos hgA hsA has h14s hls hSl HL9 HX9 HY9 cy9 fy9
      obtain ⟨b11, hb11⟩ : ∃ b, b = wA.heap.size := ⟨_, rfl⟩
      have hb1011 : b10 < b11 := by omega
      go_upto_region 11 with fail
      rw [← hb11] at HSA hzA hzA' ⊢
      clear hb11
      generalize wA.alloc (.cells #[.slice as_ S.length cs] 26) = XA at *
      have HYW := Lib.hid (And.intro HYF.out.2.1 hDl)
      go_wp2_with fail
      refine (s_l02JoinG b11 0 cs b10 0 cy as_ ay S y XA (.inl HSF.out.2.1) HSF.out.1 HYF.out.1 (by have := HSF.out.2.2.2; have := HYF.out.2.2.1; omega) (by rw [HYW.out.1]; omega) HSA.out.1 (fun h => HSA.out.in_ h) HYA.out.1 (fun h => HYA.out.in_ h)).mono ?_
      rintro e wB ⟨vj, J, rfl, hoj, hkj, hwj, hnj, hlj, hbj, hbB⟩
      obtain ⟨aj, cj, rfl⟩ := size_OwnRu hoj
      have hzB : XA.heap.size ≤ wB.heap.size := hbB.size
      have hjb : (Value.slice aj J.length cj).ownBlock ≠ some b10 := fun e => by have := (hoj.lt _ e).1; omega
      have HLB := Lib.hid ((HLA.out.bel hbB).put (b := b10) (v := .slice aj J.length cj) (by omega) hgs1)
      have HXB := Lib.hid ((HXA.out.bel hbB).other (b2 := b10) (u := .slice aj J.length cj) (by omega) (fun e => by have := hxb _ e; omega))
      have HYB := Lib.hid ((HYA.out.bel hbB).put (OwnRu.weak hoj (show w1.heap.size ≤ XA.heap.size by omega)) hjb)
      have hJl := wd_len hkj
      have hJw : wd J = wd S ++ D := by rw [hwj, HYW.out.1]
      have hJn : (wd J).length = (wd S).length + D.length := by rw [hJw, List.length_append]
      have HJF := Lib.hid (And.intro hkj (And.intro hnj (And.intro (hbj HSF.out.2.2.1 HYF.out.2.2.2) hJw)))
      have hJ89 : J.length ≤ 89 := by have := HSF.out.2.2.2; have := HYF.out.2.2.1; omega
      have hsmJ : ∀ r ∈ J, r.1.size ≤ 1048576 := fun r hr => by have := ru_small hkj r hr; omega
      have hsomeJ : (lnT J J.length).isSome = true := by rw [(gOk_some hkj).2.1]; rfl
      have cyA := cell_later hbB HYA.out.1
      have fyA : wB.frozen? ⟨b10, 0, none⟩ = false := (hbB.frozen (p := ⟨b10, 0, none⟩) HYA.out.2.2.2).trans HYA.out.2.1
      have hzC : wB.heap.size ≤ (wB.setCell ⟨b10, 0, none⟩ (.slice aj J.length cj)).heap.size := by simp
      have HCTJ := Lib.hid (fun i j X c d hi hij hj hn => s_l02Cut b10 0 cj aj J i j X hnj hkj hsmJ c d hi hij hj hn)
      have HLNJ := Lib.hid (fun X c i => s_l02Length b10 0 cj aj J X (by omega) hsmJ c i hsomeJ)
      obtain ⟨nJ, hnJ⟩ : ∃ nJ : Nat, lastI (gLn J) = (nJ : Int) := ⟨(wd J).length, hJl.symm⟩
      rw [hnJ] at HCTJ HLNJ
      have hnJ2 : (wd J).length = nJ := by omega
      have HSPJ : Hid (∀ p : Nat, ptX J p nJ = (wd J).drop p) := by
        intro p
        show ((wd J).take (nJ : Int).toNat).drop (p : Int).toNat = _
        rw [Int.toNat_natCast, Int.toNat_natCast, List.take_of_length_le (by omega)]
      clear hoj hkj hwj hnj hlj hbj hbB hsmJ hsomeJ HLA HXA HYA HSA hJl hnJ hJw hjb
      go_upto_region 12 with fail
      generalize wB.setCell ⟨b10, 0, none⟩ (.slice aj J.length cj) = XC at *
      clear cyA fyA
      go_wp2_with fail
      refine (s_pick gs (4 + 200) lc 2 _ (by omega) (by omega) HLB.out.2).mono ?_
      rintro e wD ⟨p, rfl, hp, hgD, hsD⟩
      have hzD : XC.heap.size ≤ wD.heap.size := hgD.size
      have HLD := Lib.hid (HLB.out.src hgD hsD)
      have HXD := Lib.hid (HXB.out.grown hgD (show b9 ≠ gs by omega) hgs1)
      have HYD := Lib.hid (HYB.out.grown hgD (show b10 ≠ gs by omega) hgs1)
      have hp1 : p ≤ 1 := by omega
      clear hgD hsD hp HLB HXB HYB
      go_wp2_with fail
      refine (HLNJ.out _ HYD.out.1 (HYD.out.in_ HJF.out.2.1)).mono ?_
      rintro e wE ⟨rfl, hbE⟩
      have hzE : wD.heap.size ≤ wE.heap.size := hbE.size
      have HLE := Lib.hid (HLD.out.bel hbE)
      have HXE := Lib.hid (HXD.out.bel hbE)
      have HYE := Lib.hid (HYD.out.bel hbE)
      clear hbE HLD HXD HYD HLNJ
      go_wp2_with fail
      refine (HCTJ.out p nJ _ HYE.out.1 (HYE.out.in_ HJF.out.2.1) (by omega) (by omega) (by omega) (by omega)).mono ?_
      rintro e wF ⟨vc, C, rfl, hoc, hkc, hwc, -, hlc, hbc, hbF⟩
      obtain ⟨ac, cc, rfl⟩ := size_OwnRu hoc
      have hzF : wE.heap.size ≤ wF.heap.size := hbF.size
      have HLF := Lib.hid ((HLE.out.bel hbF).bel (al_bel wF (.cells #[.slice ac C.length cc] 26)))
      have HXF2 := Lib.hid ((HXE.out.bel hbF).bel (al_bel wF (.cells #[.slice ac C.length cc] 26)))
      have HYF2 := Lib.hid ((HYE.out.bel hbF).bel (al_bel wF (.cells #[.slice ac C.length cc] 26)))
      have HCF2 := Lib.hid (GbR.new (OwnRu.weak hoc (show w1.heap.size ≤ wE.heap.size by omega)))
      have hzF' : wF.heap.size < (wF.alloc (.cells #[.slice ac C.length cc] 26)).heap.size := by simp
      have HCC := Lib.hid (And.intro hkc (And.intro (hbc HJF.out.2.2.1) (hwc.trans (HSPJ.out p))))
      have hlc2 : C.length ≤ 152 := by omega
      clear hoc hkc hwc hlc hbc hbF HLE HXE HYE HCTJ HSPJ
      obtain ⟨b12, hb12⟩ : ∃ b, b = wF.heap.size := ⟨_, rfl⟩
      go_upto_region 13 with fail
      rw [← hb12] at HCF2 hzF hzF' ⊢
      clear hb12
      generalize wF.alloc (.cells #[.slice ac C.length cc] 26) = XF at *
      go_wp2_with fail
      refine (s_l02TrimG b12 0 cc ac C XF HCC.out.1 HCF2.out.1 (fun h => HCF2.out.in_ h)).mono ?_
      rintro e wG ⟨vt, T, rfl, hot, hkt, hwt, -, hlt, hbt, hbG⟩
      obtain ⟨at_, ct, rfl⟩ := size_OwnRu hot
      have hzG : XF.heap.size ≤ wG.heap.size := hbG.size
      have htb : (Value.slice at_ T.length ct).ownBlock ≠ some b10 := fun e => by have := (hot.lt _ e).1; omega
      have HLG := Lib.hid ((HLF.out.bel hbG).put (b := b10) (v := .slice at_ T.length ct) (by omega) hgs1)
      have HXG := Lib.hid ((HXF2.out.bel hbG).other (b2 := b10) (u := .slice at_ T.length ct) (by omega) (fun e => by have := hxb _ e; omega))
      have HYG := Lib.hid ((HYF2.out.bel hbG).put (OwnRu.weak hot (show w1.heap.size ≤ XF.heap.size by omega)) htb)
      have cyG := cell_later hbG HYF2.out.1
      have fyG : wG.frozen? ⟨b10, 0, none⟩ = false := (hbG.frozen (p := ⟨b10, 0, none⟩) HYF2.out.2.2.2).trans HYF2.out.2.1
      have hTw : wd T = (wd S ++ D).drop p := by rw [hwt, HCC.out.2.2, HJF.out.2.2.2]
      have hTl : (wd T).length = (wd S).length + D.length - p := by rw [hTw, List.length_drop, List.length_append]
      have HTF : Hid (gOk T = true ∧ T.length ≤ 152 ∧ abcL T ∧ (wd T = D ∨ D.length < (wd T).length) ∧ (wd T).length ≤ D.length + 3) := by
        refine ⟨hkt, by omega, hbt HCC.out.2.1, ?_, by omega⟩
        by_cases hsp : (wd S).length = p
        · left
          rw [hTw, List.drop_append, hsp, Nat.sub_self, List.drop_zero, List.drop_of_length_le (by omega)]; rfl
        · right; omega
      clear hot hkt hwt hlt hbt hbG HLF HXF2 HYF2 HCF2 hTw hTl htb
      go_wp2
      go_meet
      exact ⟨at_, ct, T, HYG.out, HXG.out, ⟨HLG.out.1, HLG.out.2.more (by omega)⟩, HTF.out⟩
  case rest =>
    obtain ⟨ay', cy', y', hy', hx', hl', hky, hly, hay, hwy, hwy3⟩ := hcut
    have HX := Lib.hid hx'
    have HY := Lib.hid hy'
    have HLZ := Lib.hid hl'
    have HYZ := Lib.hid (And.intro hky (And.intro hly (And.intro hay (And.intro hwy hwy3))))
    clear hy' hx' hl' hky hly hay hwy hwy3 HL9 HX9 HY9 cy9 fy9 HYF HLL HSP hb2y
    have hwc1 : w1.heap.size ≤ wc.heap.size := HLZ.out.1.size
    have hxl : (wd x).length = k := by rw [HXF.out.2.1, List.length_take]; omega
    have h01 : x ≠ [] ∨ y' ≠ [] := by
      by_cases hx0 : x = []
      · right
        intro hy0
        rw [hx0, wd_nil] at hxl
        have := HYZ.out.2.2.2.1
        rw [hy0, wd_nil] at this
        rcases this with h | h
        · rw [← h] at hDl; simp at hDl hxl; omega
        · simp at h
      · exact .inl hx0
    have HJ := Lib.hid (s_l02JoinG b9 0 cx b10 0 cy' ax ay' x y' wc h01 HXF.out.1 HYZ.out.1 (by have := HXF.out.2.2.1; have := HYZ.out.2.1; omega) (by rw [hxl]; have := HYZ.out.2.2.2.2; omega) HX.out.1 (fun h => HX.out.in_ h) HY.out.1 (fun h => HY.out.in_ h))
    clear h01
    go_wp2_with fail
    refine HJ.out.mono ?_
    rintro e wR ⟨vo, O, rfl, hoo, hko, hwo, hno, hlo, hbo, hbR⟩
    obtain ⟨ao, co, rfl⟩ := size_OwnRu hoo
    have hzR : wc.heap.size ≤ wR.heap.size := hbR.size
    have HLR := Lib.hid ((HLZ.out.bel hbR).bel (al_bel wR (.cells #[.slice ao O.length co] 26)))
    have HOR := Lib.hid (GbR.new hoo)
    have hsmO : ∀ r ∈ O, r.1.size ≤ 1048576 := fun r hr => by have := ru_small hko r hr; omega
    have HOF : Hid (gOk O = true ∧ O ≠ [] ∧ abcL O ∧ (wd O = wd l ∨ (wd l).length < (wd O).length) ∧ (wd O).length ≤ (wd l).length + 3) := by
      refine ⟨hko, hno, hbo HXF.out.2.2.2 HYZ.out.2.2.1, ?_, ?_⟩
      · rw [HWD.out.1, hwo, HXF.out.2.1]
        rcases HYZ.out.2.2.2.1 with h | h
        · left; rw [h, ← HWD.out.2, List.take_append_drop]
        · right; rw [List.length_append, List.length_take]; omega
      · have h3 := HYZ.out.2.2.2.2
        rw [HWD.out.1, hwo, List.length_append, hxl]; omega
    have HOK2 := Lib.hid (fun X c i => s_l02Ok wR.heap.size 0 co ao O X (by have := (gOk_some hko).1; omega) hsmO c i)
    rw [hko] at HOK2
    clear hoo hko hwo hno hlo hbo hbR hsmO HJ HLZ HX HY
    have hzR' : wR.heap.size < (wR.alloc (.cells #[.slice ao O.length co] 26)).heap.size := by simp
    obtain ⟨b13, hb13⟩ : ∃ b, b = wR.heap.size := ⟨_, rfl⟩
    go_upto_region 15 with fail
    rw [← hb13] at HOR HOK2 hzR hzR' ⊢
    clear hb13
    generalize wR.alloc (.cells #[.slice ao O.length co] 26) = XR at *
    go_wp2_with fail
    refine (HOK2.out _ HOR.out.1 (HOR.out.in_ HOF.out.2.1)).mono ?_
    rintro e wQ ⟨rfl, hbQ⟩
    have HLQ := Lib.hid (HLR.out.bel hbQ)
    have hoq := HOR.out.bel hbQ
    have cq := hoq.1
    have HOQ := Lib.hid hoq
    have hr1 := HR.out.2.2.1
    have cr : wQ.cell? ⟨w.heap.size, 0, none⟩ = some (.slice none 0 0) := (HLQ.out.1.cell_far ⟨w.heap.size, 0, none⟩ (by simp; omega) (by simp; omega)).trans HR.out.1
    have fr : wQ.frozen? ⟨w.heap.size, 0, none⟩ = false := (HLQ.out.1.frozen_far ⟨w.heap.size, 0, none⟩ (by simp; omega) (by simp; omega)).trans HR.out.2.1
    clear hoq hbQ HLR HOR HOK2 hr1
    go_wp2
    refine bodyPost_ret (v := .agg #[.slice ao O.length co]) (by simp [results, Try.results27, go_sem, cell_st_same _ cr]) rfl ?_
    have hr1 := HR.out.2.2.1
    have hfin : OwnRu (wQ.setCell ⟨w.heap.size, 0, none⟩ (.slice ao O.length co)) w.heap.size (.slice ao O.length co) O := by
      refine OwnRu.weak (OwnRu.kept HOQ.out.2.2.1 (grownBy_set _ _ _) ?_) (show w.heap.size ≤ wc.heap.size by omega)
      cases he : (Value.slice ao O.length co).ownBlock with
      | none => exact .inl rfl
      | some q => exact .inr (by have := (HOQ.out.2.2.1.lt q he).1; intro e; injection e with e; simp at e; omega)
    have hgf := grown_new (HR.out.2.2.2.trans HLQ.out.1) (grownBy_set wQ ⟨w.heap.size, 0, none⟩ (.slice ao O.length co)) (fun q e => by injection e with e; simp at e; omega)
    obtain ⟨f1, f2, f3, f4, f5⟩ := HOF.out
    first
      | exact ⟨_, O, rfl, hfin, f1, f2, f3, f4, f5, hgf⟩
      | exact ⟨_, rfl, O, hfin, f1, f2, f3, f4, f5, hgf⟩
end Go.Proofs.Ytoejelieogjjpaa

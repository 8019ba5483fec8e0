/- LetterCounts, of the program and of the reference, and its law. -/
import Derived.Test.YtmcfjjhflnhehaaGA
namespace Go.Proofs.Ytmcfjjhflnhehaa
open Go.ChangeShapes Go.WideShapes Go.RowKit
set_option linter.unusedVariables false
set_option linter.unusedSimpArgs false
set_option maxHeartbeats 2000000
set_option maxRecDepth 100000
/-- which letter -/
def lcI (a : ByteArray) : Nat := if h : 0 < a.size then a[0].toNat - 97 else 0
def lcS (l : List Ru) (u out : List Int) (k : Nat) : List Int :=
  if (ruA l k).1.size = 0 then out else out.set (lcI (ruA l k).1) (wrap64 (out.getD (lcI (ruA l k).1) 0 + u.getD k 0))
def lcT (l : List Ru) (u : List Int) : Nat → List Int
  | 0 => List.replicate 4 0
  | k + 1 => lcS l u (lcT l u k) k
theorem lcT_len (l : List Ru) (u : List Int) : ∀ k, (lcT l u k).length = 4
  | 0 => rfl
  | k + 1 => by rw [lcT, lcS]; split; exact lcT_len l u k; rw [List.length_set]; exact lcT_len l u k
theorem lcT_pair {l : List Ru} {u : List Int} {k : Nat} (h : (ruA l k).1.size = 0) : lcT l u (k + 1) = lcT l u k := by rw [lcT, lcS, if_pos h]
theorem lcT_let {l : List Ru} {u : List Int} {k c : Nat} (h : (ruA l k).1.size ≠ 0) (hc : lcI (ruA l k).1 = c) : lcT l u (k + 1) = (lcT l u k).set c (wrap64 ((lcT l u k).getD c 0 + u.getD k 0)) := by rw [lcT, lcS, if_neg h, hc]
theorem lcI_ok {a : ByteArray} (h : a.size = 1) (hv : validB a = true) (h0 : 0 < a.size) : lcI a < 4 ∧ a[0].toNat = 97 + lcI a := by
  rw [valid_one h h0] at hv
  have e : lcI a = a[0].toNat - 97 := by unfold lcI; rw [dif_pos h0]
  simp [letB] at hv
  rw [e]
  omega
def gLc (l : List Ru) : List Int := if gOk l then lcT l (gU l) l.length else []
theorem gLc_bad {l : List Ru} (h : gOk l = false) : gLc l = [] := by simp [gLc, h]
theorem gLc_ok {l : List Ru} (h : gOk l = true) : gLc l = lcT l (gU l) l.length := by simp [gLc, h]
theorem gLc_len {l : List Ru} (h : l.length ≤ 1048576) : (gLc l).length ≤ 1048576 := by
  unfold gLc
  cases hok : gOk l
  · simp
  · simp [lcT_len]
theorem i_LetterCounts (v : Value) (l : List Ru) (w : World) (hn : l.length ≤ 1048576) (hsz : ∀ r ∈ l, r.1.size ≤ 1048576) (hin : InRu w v l) :
    Calls Try.prog 37 #[.agg #[v]] w fun e w' => ∃ v', e = .returned (.tuple #[v', .int .i64 (gC l)]) ∧ Own64 w w' v' (gLc l) := by
  obtain ⟨a, cap, rfl⟩ := inRu_sl hin
  have b0 := box_cell w (.slice a l.length cap) 29
  have i0 := inRu_box (o := .cells #[.slice a l.length cap] 29) hin
  have HS := Lib.hid (i_ValidGrammar _ l _ hn hsz i0)
  cases hok : gOk l
  · have HF := Lib.hid (g_bad hok)
    have HU := Lib.hid (gLc_bad hok)
    rw [hok] at HS
    clear hsz hin b0 i0 hok
    go_enter Try.func37, Try.ntmps37
    go_wp2_with fail
    refine HS.out.mono ?_
    rintro e w2 ⟨rfl, hb2⟩
    have hb3 := below_box hb2
    clear hb2
    go_wp2
    go_ret2
    exact ⟨_, by rw [HF.out.2.1]; rfl, by rw [HU.out]; exact own64_nil hb3⟩
  · have HF := Lib.hid (g_ok hok)
    have HU := Lib.hid (gLc_ok hok)
    have HR := Lib.hid (fun k hk => @gOk_rule l hok k hk)
    have HL := Lib.hid (fun w i => i_uses (.slice a l.length cap) l w hok i)
    have hul := gU_len l
    have hl400 := (gOk_some hok).1
    rw [hok] at HS
    generalize gU l = us at *
    clear hsz hin hok
    go_enter Try.func37, Try.ntmps37
    go_wp2_with fail
    refine HS.out.mono ?_
    rintro e w2 ⟨rfl, hb2⟩
    have b2 := cell_later hb2 b0
    have i2 := inRu_below i0 hb2
    have hB2 := below_box hb2
    clear hb2 b0 i0
    go_wp2_with (first | (at_make; refine make64 _ rfl _ _ rfl w2.heap.size (Nat.le_refl _) 4 rfl rfl (by omega) ?_; intro w3 ho3 hb3; have b3 := cell_later hb3 b2) | fail)
    refine (HL.out w3 (inRu_below i2 hb3)).mono ?_
    rintro e w4 ⟨v', rfl, ho4, hb4⟩
    have B4 : Below w2.heap.size w2 w4 := hb3.trans (hb4.mono hb3.size)
    have ho3' := owns_after ho3 hb4
    have hx : w2.heap.size < w3.heap.size := (ho3.lt _ rfl).2
    obtain ⟨au, cu, rfl, hsome, -⟩ := owns_sl3 ho4
    have HIN := Lib.hid i2
    have HO3 := Lib.hid ho3'
    have HO4 := Lib.hid ho4
    have HB4 := Lib.hid B4
    have HB2 := Lib.hid hB2
    have hbs : w.heap.size < w2.heap.size := World.block_lt_of_cell? _ _ b2
    clear HS HL b3 ho3 ho3' ho4 hb3 hb4 B4 hB2 i2
    rw [hul]
    have HUL := Lib.hid hul
    clear hul
    go_wp2
    go_loopw [5, 6, 7, 15] (fun _ _ _ i wr => Below w2.heap.size w2 wr ∧ ∃ k : Nat, k ≤ l.length ∧ i = .int .i64 k ∧ wr.ownsRow w2.heap.size 2 1 (.slice (some ⟨w2.heap.size, 0, none⟩) 4 4) 4 ((lcT l us k).map (Value.int .i64)) ∧ wr.ownsRow w3.heap.size 2 1 (.slice au us.length cu) us.length (us.map (Value.int .i64))) (fun _ _ _ i _ => l.length - (intOf i).toNat)
    case atStart => exact ⟨HB4.out, 0, by omega, rfl, HO3.out, HO4.out⟩
    case round =>
      obtain ⟨hb, k, hk, rfl, hown, hou⟩ := hrel
      have bw := cell_later hb b2
      by_cases hlt : k < l.length
      · have hin : ((k : Nat) : Int) < l.length := by omega
        obtain ⟨b, off, rfl, hbl, hc0, hc1, hc2⟩ := inRu_at (inRu_below HIN.out hb) hlt
        obtain ⟨gu, rfl⟩ := hsome (by have := HUL.out; omega)
        have hcu := own_get hou rfl (show k < us.length by have := HUL.out; omega)
        have hol := lcT_len l us k
        have HB := Lib.hid hb
        have HOWN := Lib.hid hown
        have HOU := Lib.hid hou
        by_cases hz : (ruA l k).1.size = 0
        · have HE := Lib.hid (lcT_pair (u := us) hz)
          have hd : decide ((ruA l k).1.size = 0) = true := by simpa using hz
          clear hz hb hown hou
          generalize (ruA l k).1 = x1 at *
          generalize (ruA l k).2.1 = x2 at *
          generalize (ruA l k).2.2 = x3 at *
          generalize us.getD k 0 = uk at *
          have HIS := Lib.hid (fun w => i_isPair x1 x2 x3 w)
          rw [hd] at HIS
          clear hd
          go_wp2_with fail
          refine (HIS.out _).mono ?_
          rintro e w5 ⟨rfl, hb5'⟩
          have hb5 := below_box hb5'
          clear hb5' HIS hc0 hc1 hc2 bw hcu
          go_wp2
          go_roundw
          case rel =>
            refine ⟨HB.out.trans (hb5.mono HB.out.size), k + 1, by omega, by go_num, ?_, owns_after HOU.out hb5⟩
            rw [HE.out]; exact owns_after HOWN.out hb5
          case measure => first | (simp [intOf]; done) | (simp [intOf]; omega)
        · obtain ⟨h1, hv, h2, h3⟩ := (HR.out k hlt).2 hz
          have h0 : 0 < (ruA l k).1.size := by omega
          obtain ⟨hc4, hcv⟩ := lcI_ok h1 hv h0
          obtain ⟨c, hc⟩ : ∃ c, lcI (ruA l k).1 = c := ⟨_, rfl⟩
          rw [hc] at hc4 hcv
          have HE := Lib.hid (lcT_let (u := us) hz hc)
          have hd : decide ((ruA l k).1.size = 0) = false := by simpa using hz
          clear hz hb hown hou hv hc h2 h3
          generalize (ruA l k).1 = x1 at *
          generalize (ruA l k).2.1 = x2 at *
          generalize (ruA l k).2.2 = x3 at *
          generalize us.getD k 0 = uk at *
          have HIS := Lib.hid (fun w => i_isPair x1 x2 x3 w)
          rw [hd] at HIS
          clear hd
          go_wp2_with fail
          refine (HIS.out _).mono ?_
          rintro e w5 ⟨rfl, hb5'⟩
          have hb5 := below_box hb5'
          have r0 : w5.cell? ⟨wr.heap.size, 0, none⟩ = some (.string x1) := by rw [hb5'.cell (by simp)]; simp [go_sem]
          have hO5 := owns_after HOWN.out hb5
          have hU5 := owns_after HOU.out hb5
          have hcc := own_get hO5 hol hc4
          have hfc : w5.frozen? ⟨w2.heap.size, c, none⟩ = false := hO5.frozenAt c
          have HO5 := Lib.hid hO5
          have HU5 := Lib.hid hU5
          have HB5 := Lib.hid (HB.out.trans (hb5.mono HB.out.size))
          have hci : (c : Int) < 4 := by omega
          have hx0 : (x1[0].toNat : Int) = 97 + (c : Int) := by omega
          clear hb5' hb5 HIS hc0 hc1 hc2 bw hcu hO5 hU5
          generalize (lcT l us k).getD c 0 = oc at *
          go_wp2
          go_roundw
          case rel =>
            refine ⟨HB5.out.setCell (p := ⟨w2.heap.size, c, none⟩) (Nat.le_refl _) _, k + 1, by omega, by go_num, ?_, ownsRow_setCell_below HU5.out (a := ⟨w2.heap.size, c, none⟩) hx _⟩
            rw [HE.out]; exact own_set HO5.out c _
          case measure => first | (simp [intOf]; done) | (simp [intOf]; omega)
      · have ek : k = l.length := by omega
        subst ek
        have hk' : ¬ (l.length : Int) < l.length := by omega
        clear bw
        go_wp2
        go_ret2
        refine ⟨_, by rw [HF.out.2.1]; rfl, ?_, HB2.out.trans (hb.mono HB2.out.size)⟩
        rw [HU.out, lcT_len]
        exact owns_weak hown (by omega)
theorem s_LetterCounts (v : Value) (l : List Ru) (w : World) (hn : l.length ≤ 1048576) (hsz : ∀ r ∈ l, r.1.size ≤ 1048576) (hin : InRu w v l) :
    Calls Try.prog 36 #[.agg #[v]] w fun e w' => ∃ v', e = .returned (.tuple #[v', .int .i64 (gC l)]) ∧ Own64 w w' v' (gLc l) := by
  obtain ⟨a, cap, rfl⟩ := inRu_sl hin
  have b0 := box_cell w (.slice a l.length cap) 29
  have i0 := inRu_box (o := .cells #[.slice a l.length cap] 29) hin
  have HS := Lib.hid (s_l02Ok w.heap.size 0 cap a l _ hn hsz b0 i0)
  cases hok : gOk l
  · have HF := Lib.hid (g_bad hok)
    have HU := Lib.hid (gLc_bad hok)
    rw [hok] at HS
    clear hsz hin b0 i0 hok
    go_enter Try.func36, Try.ntmps36
    go_wp2_with fail
    refine HS.out.mono ?_
    rintro e w2 ⟨rfl, hb2⟩
    have hb3 := below_box hb2
    have s3 := hb3.size
    clear hb2
    go_wp2
    go_ret2
    refine ⟨_, by rw [HF.out.2.1]; rfl, ?_, hb3.alloc s3 _⟩
    rw [HU.out]
    exact World.ownsRow_made w2 #[] 0 s3 (by decide) (by simp)
  · have HF := Lib.hid (g_ok hok)
    have HU := Lib.hid (gLc_ok hok)
    have HR := Lib.hid (fun k hk => @gOk_rule l hok k hk)
    have HL := Lib.hid (fun (wz : Nat × World) h i => s_l02Uses wz.1 0 cap a l wz.2 hok h i)
    have hul := gU_len l
    have hl400 := (gOk_some hok).1
    rw [hok] at HS
    generalize gU l = us at *
    clear hsz hin hok
    go_enter Try.func36, Try.ntmps36
    go_wp2_with fail
    refine HS.out.mono ?_
    rintro e w2 ⟨rfl, hb2⟩
    have b2 := cell_later hb2 b0
    have i2 := inRu_below i0 hb2
    have HB2 := Lib.hid (below_box hb2)
    clear hb2 b0 i0
    go_wp2_with fail
    refine (HL.out (w.heap.size, w2) b2 i2).mono ?_
    rintro e w3 ⟨v', rfl, ho3, hb3⟩
    have b3 := cell_later hb3 b2
    have hx : ∀ k, v'.ownBlock = some k → k < w3.heap.size := fun k hk => (ho3.lt k hk).2
    go_wp2_with (first | (at_make; refine make64 _ rfl _ _ rfl w3.heap.size (Nat.le_refl _) 4 rfl rfl (by omega) ?_; intro w4 ho4 hb4; have b4 := cell_later hb4 b3) | fail)
    have ho3' := owns_after ho3 hb4
    obtain ⟨au, cu, rfl, hsome, -⟩ := owns_sl3 ho3
    have B4 : Below w2.heap.size w2 w4 := hb3.trans (hb4.mono hb3.size)
    have HIN := Lib.hid i2
    have HO3 := Lib.hid ho3'
    have HO4 := Lib.hid ho4
    have HB4 := Lib.hid B4
    have HX := Lib.hid hx
    have hbs : w.heap.size < w2.heap.size := World.block_lt_of_cell? _ _ b2
    have hs3 := hb3.size
    clear HS HL b3 b4 ho3 ho3' ho4 hb3 hb4 B4 i2 hx
    rw [hul]
    have HUL := Lib.hid hul
    clear hul
    go_wp2
    go_loopw [6] (fun i wr => Below w2.heap.size w2 wr ∧ ∃ k : Nat, k ≤ l.length ∧ i = .int .i64 k ∧ wr.ownsRow w3.heap.size 2 1 (.slice (some ⟨w3.heap.size, 0, none⟩) 4 4) 4 ((lcT l us k).map (Value.int .i64)) ∧ wr.ownsRow w2.heap.size 2 1 (.slice au us.length cu) us.length (us.map (Value.int .i64))) (fun i _ => l.length - (intOf i).toNat)
    case atStart => exact ⟨HB4.out, 0, by omega, rfl, HO4.out, HO3.out⟩
    case round =>
      obtain ⟨hb, k, hk, rfl, hown, hou⟩ := hrel
      have bw := cell_later hb b2
      by_cases hlt : k < l.length
      · have hin : ((k : Nat) : Int) < l.length := by omega
        obtain ⟨b, off, rfl, hbl, hc0, hc1, hc2⟩ := inRu_at (inRu_below HIN.out hb) hlt
        obtain ⟨gu, rfl⟩ := hsome (by have := HUL.out; omega)
        have hgu : gu < w3.heap.size := HX.out gu rfl
        have hcu := own_get hou rfl (show k < us.length by have := HUL.out; omega)
        have hol := lcT_len l us k
        have HB := Lib.hid hb
        have HOWN := Lib.hid hown
        have HOU := Lib.hid hou
        by_cases hz : (ruA l k).1.size = 0
        · have HE := Lib.hid (lcT_pair (u := us) hz)
          have ex := size_zero hz
          rw [ex] at hc0
          clear hz hb hown hou ex
          go_wp2
          go_roundw
          case rel =>
            refine ⟨HB.out, k + 1, by omega, by go_num, ?_, HOU.out⟩
            rw [HE.out]; exact HOWN.out
          case measure => first | (simp [intOf]; done) | (simp [intOf]; omega)
        · obtain ⟨h1, hv, h2, h3⟩ := (HR.out k hlt).2 hz
          have h0 : 0 < (ruA l k).1.size := by omega
          obtain ⟨hc4, hcv⟩ := lcI_ok h1 hv h0
          obtain ⟨c, hc⟩ : ∃ c, lcI (ruA l k).1 = c := ⟨_, rfl⟩
          rw [hc] at hc4 hcv
          have HE := Lib.hid (lcT_let (u := us) hz hc)
          have hne := neq_empty hz
          have hne2 := not_empty hz
          clear hz hb hou hv hc h2 h3
          have hcc := own_get hown hol hc4
          have hfc : wr.frozen? ⟨w3.heap.size, c, none⟩ = false := hown.frozenAt c
          generalize (ruA l k).1 = x1 at *
          generalize us.getD k 0 = uk at *
          have hci : (c : Int) < 4 := by omega
          have hx0 : (x1[0].toNat : Int) = 97 + (c : Int) := by omega
          clear hown
          generalize (lcT l us k).getD c 0 = oc at *
          go_wp2
          go_region
          go_wp2
          go_roundw
          case rel =>
            refine ⟨(HB.out.setCell (p := ⟨w3.heap.size, c, none⟩) hs3 _).drew, k + 1, by omega, by go_num, ?_, ?_⟩
            · rw [HE.out]; exact ownsRow_drew (own_set HOWN.out c _)
            · refine ownsRow_drew (World.ownsRow.kept HOU.out (grown_set (World.grownBy.refl _ _) c _) (.inr ?_))
              intro e; injection e with e; have e2 : gu = w3.heap.size := e; omega
          case measure => first | (simp [intOf]; done) | (simp [intOf]; omega)
      · have ek : k = l.length := by omega
        subst ek
        have hk' : ¬ (l.length : Int) < l.length := by omega
        go_wp2
        go_ret2
        refine ⟨_, by rw [HF.out.2.1]; rfl, ?_, HB2.out.trans (hb.mono HB2.out.size)⟩
        rw [HU.out, lcT_len]
        exact owns_weak hown (by omega)
theorem walk_FnExactLetterCounts (v : Value) (l : List Ru) (w : World) (h0 : GrIn w v l) (h0b : l.length ≤ 9223372036854775807) (h0c : ∀ r ∈ l, r.1.size ≤ 9223372036854775807) :
    Calls Try.prog 10 #[v] w fun e w' => e = .returned (.bool true) ∧ Below w.heap.size w w' := by
  obtain ⟨u, rfl, hin⟩ := h0
  have HS := Lib.hid (fun (u : Value) w => s_LetterCounts u l w)
  have HI := Lib.hid (fun (u : Value) w => i_LetterCounts u l w)
  have HLE := Lib.hid (@gLc_len l)
  have b0 := box_cell w u 24
  have i0 := inRu_box (o := .cells #[u] 24) hin
  have HBX : Hid (∀ w', Below (w.alloc (.cells #[u] 24)).heap.size (w.alloc (.cells #[u] 24)) w' → Below w.heap.size w w') := fun w' h => below_box h
  generalize gLc l = R at *
  clear hin
  go_enter Try.func10, Try.ntmps10
  go_wp2_with fail
  refine (l_szGrammar u l 1048576 _ (by omega) i0 h0b h0c).mono ?_
  rintro e w1 ⟨hb1, rfl | ⟨n0, rfl, hn0, hln, hsz⟩⟩
  · clear h0b h0c HS HI b0 i0 HLE
    have hbb := HBX.out _ hb1
    clear hb1
    go_wp2
    go_ret
    exact ⟨rfl, hbb⟩
  · have HSZ := Lib.hid hsz
    have hRl := HLE.out hln
    have i1 := inRu_below i0 hb1
    have b1 := cell_later hb1 b0
    clear h0b h0c hsz HLE
    go_wp2_with fail
    refine (l_toGrammar u l w1 hln i1).mono ?_
    rintro e w2 ⟨g2, c2, rfl, ho2, hb2⟩
    have B2 := hb1.trans (hb2.mono hb1.size)
    have i2 := inRu_below i0 B2
    have b2 := cell_later B2 b0
    clear b1 i1
    go_wp2_with fail
    refine (HS.out _ w2 hln HSZ.out (inRu_own rfl ho2)).mono ?_
    rintro e w3 ⟨v1, rfl, o1, hb3⟩
    have B3 := B2.trans (hb3.mono B2.size)
    have i3 := inRu_below i0 B3
    have b3 := cell_later B3 b0
    clear b2 i2 ho2
    go_wp2_with fail
    refine (l_toGrammar u l w3 hln i3).mono ?_
    rintro e w4 ⟨g4, c4, rfl, ho4, hb4⟩
    have B4 := B3.trans (hb4.mono B3.size)
    have hg4 : w3.heap.size ≤ g4 ∧ g4 < w4.heap.size := ho4.lt _ rfl
    have hv1 : ∀ k, v1.ownBlock = some k → k < w3.heap.size := fun k hk => (o1.lt k hk).2
    have B4' := B4.alloc B4.size (.cells #[.slice (some ⟨g4, 0, none⟩) l.length c4] 29)
    have b4 := cell_later B4' b0
    have x4 := box_cell w4 (.slice (some ⟨g4, 0, none⟩) l.length c4) 29
    have a4 := (Below.refl _ w4).alloc (Nat.le_refl _) (.cells #[.slice (some ⟨g4, 0, none⟩) l.length c4] 29)
    have ho4' := owns_after ho4 a4
    have o4 := owns_after (owns_after o1 hb4) a4
    clear b3 i3 ho4 o1
    go_wp2_with fail
    refine (HI.out _ _ hln HSZ.out (inRu_own rfl ho4')).mono ?_
    rintro e w5 ⟨v2, rfl, p5, hb5⟩
    have B5 := B4'.trans (hb5.mono B4'.size)
    have b5 := cell_later hb5 b4
    have x5 := cell_later hb5 x4
    have o5 := owns_after o4 hb5
    have ho5 := owns_after ho4' hb5
    clear b4 x4 ho4' o4
    go_wp2_with fail
    refine (l_eqInt64S _ _ R R _ _ _ p5 o5 (by omega) (by omega)).mono ?_
    rintro e w6 ⟨rfl, q6, rfl⟩
    have B6 := below_drewN B5 q6
    have i6 := inRu_below i0 B6
    have b6 : (w5.drewN q6).cell? ⟨w.heap.size, 0, none⟩ = some u := by simpa using b5
    have x6 : (w5.drewN q6).cell? ⟨w4.heap.size, 0, none⟩ = some (.slice (some ⟨g4, 0, none⟩) l.length c4) := by simpa using x5
    have ix6 := inRu_own rfl (ownsRow_drewN ho5 q6)
    have HO5 := Lib.hid ho5
    have HP5 := Lib.hid p5
    have HQ5 := Lib.hid o5
    have s3 := B3.size
    have hv2 : ∀ k, v2.ownBlock = some k → w4.heap.size < k := fun k hk => by have := (p5.lt k hk).1; simp at this; omega
    have HV1 := Lib.hid hv1
    have HV2 := Lib.hid hv2
    clear hb1 hb2 hb3 hb4 hb5 B2 B3 B4 B4' a4 ho5 o5 p5 b5 x5 hv1 hv2
    have hz : w4.heap.size < (w5.drewN q6).heap.size := World.block_lt_of_cell? _ _ x6
    go_wp2
    go_region_held3 (fun w' => Below (w5.drewN q6).heap.size (w5.drewN q6) w' ∧ w'.cell? ⟨w.heap.size, 0, none⟩ = some u ∧ w'.cell? ⟨w4.heap.size, 0, none⟩ = some (.slice (some ⟨g4, 0, none⟩) l.length c4) ∧ InRu w' u l ∧ InRu w' (.slice (some ⟨g4, 0, none⟩) l.length c4) l) (first | (go_split_ands; refine ⟨?_, ?_, ?_, ?_, ?_⟩ <;> first | assumption | exact Below.drew (Below.refl _ _) | exact Below.drew (by assumption) | exact inRu_below (by assumption) (Below.drew (Below.refl _ _)) | exact cell_later hbA (by assumption) | exact inRu_below (by assumption) hbA | exact Below.trans ‹Below (w5.drewN q6).heap.size (w5.drewN q6) _› (hbA.mono (Below.size ‹Below (w5.drewN q6).heap.size (w5.drewN q6) _›)) | simp [*])) (first | (go_at_call 17; refine (l_toGrammar u l _ hln (by assumption)).mono ?_; rintro e wA ⟨g6, c6, rfl, ho6, hbA⟩) | (go_at_call 19; refine (l_eqGrammar _ _ l _ (by first | assumption | exact inRu_below (inRu_below ix6 (Below.drew (Below.refl _ _))) hbA) (by first | exact inRu_own rfl ho6 | exact inRu_below (inRu_own rfl ho6) (Below.drew (Below.refl _ _))) hln).mono ?_; rintro e wA ⟨rfl, hbA⟩))
    rename_i hS
    have hA : Below (w5.drewN q6).heap.size (w5.drewN q6) wA := hS.1
    clear hS hbA
    have BA := B6.trans (hA.mono B6.size)
    have xA := cell_later hA x6
    have oA := owns_after (ownsRow_drewN HQ5.out q6) hA
    have pA := owns_after (ownsRow_drewN HP5.out q6) hA
    have gA := owns_after (ownsRow_drewN HO5.out q6) hA
    clear x6 b6 ix6 i6 hA hz
    go_wp2_with fail
    refine (l_markGrammar _ _ _ _ _ _ hln gA).mono ?_
    rintro e w8 ⟨rfl, g8⟩
    have B8 := BA.trans (below_of_grown g8 (B := (w.alloc (.cells #[u] 24)).heap.size) BA.size (fun k hk => by injection hk with hk; omega))
    have o8 := oA.kept g8 (by
      cases h : v1.ownBlock with
      | none => exact .inl rfl
      | some k => right; intro e; injection e with e; have := HV1.out k h; omega)
    have p8 := pA.kept g8 (by
      cases h : v2.ownBlock with
      | none => exact .inl rfl
      | some k => right; intro e; injection e with e; have := HV2.out k h; omega)
    clear oA pA gA g8 xA BA B6
    have b8 := cell_later B8 b0
    have i8 := inRu_below i0 B8
    go_wp2_with fail
    refine (l_eqInt64S _ _ R R _ _ _ p8 o8 (by omega) (by omega)).mono ?_
    rintro e w9 ⟨rfl, q9, rfl⟩
    have B9 := below_drewN B8 q9
    have p9 := ownsRow_drewN p8 q9
    have o9 := ownsRow_drewN o8 q9
    clear p8 o8 b8
    go_wp2_with fail
    refine (l_mark1 _ R.length _ _ _ (by omega) p9).mono ?_
    rintro e w10 ⟨rfl, p10, g10⟩
    have B10 := B9.trans (below_of_grown g10 (B := (w.alloc (.cells #[u] 24)).heap.size) B9.size (fun k hk => by have := HV2.out k hk; omega))
    have o10 := o9.kept g10 (by
      cases h : v1.ownBlock with
      | none => exact .inl rfl
      | some k => right; intro e; have := HV1.out k h; have := HV2.out k e.symm; omega)
    have b10 := cell_later B10 b0
    have i10 := inRu_below i0 B10
    clear o9 p9 g10 B9 B8 i8
    go_wp2_with fail
    refine (l_held1 _ R.length _ _ (by omega) p10).mono ?_
    rintro e w11 ⟨rfl, rfl⟩
    go_wp2_with fail
    refine (l_toGrammar u l _ hln i10).mono ?_
    rintro e w12 ⟨g12, c12, rfl, ho12, hb12⟩
    have B12 := B10.trans (hb12.mono B10.size)
    have o12 := owns_after o10 hb12
    have p12 := owns_after p10 hb12
    clear b10 i10 o10 p10
    go_wp2_with fail
    refine (HI.out _ _ hln HSZ.out (inRu_own rfl ho12)).mono ?_
    rintro e w13 ⟨v3, rfl, r13, hb13⟩
    have B13 := B12.trans (hb13.mono B12.size)
    have o13 := owns_after o12 hb13
    have p13 := owns_after p12 hb13
    clear o12 p12 ho12 hb12 hb13 B12 B10
    go_wp2_with fail
    refine (l_eqInt64S _ _ R R _ _ _ r13 o13 (by omega) (by omega)).mono ?_
    rintro e w14 ⟨rfl, q14, rfl⟩
    have B14 := below_drewN B13 q14
    have p14 := ownsRow_drewN p13 q14
    clear o13 p13 r13 B13
    go_wp2_with fail
    refine (l_held1 _ R.length _ _ (by omega) p14).mono ?_
    rintro e w15 ⟨rfl, rfl⟩
    have BF := HBX.out _ B14
    clear B14 p14
    go_wp2
    go_ret
    exact ⟨rfl, BF⟩
end Go.Proofs.Ytmcfjjhflnhehaa

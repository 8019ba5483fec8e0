/- FnEqual: the walk of the law. -/
import Derived.Test.YtoejelieogjjpaaQP
import Derived.Test.YtoejelieogjjpaaQN
import Derived.Deep.DeepCutAuto
namespace Go.Proofs.Ytoejelieogjjpaa
open Go.ChangeShapes Go.WideShapes Go.RowKit
set_option linter.unusedVariables false
set_option linter.unusedSimpArgs false
set_option maxHeartbeats 2000000
set_option maxRecDepth 100000
theorem l_a2Sign (u v : ByteArray) (w : World) : Calls Try.prog 16 #[.string u, .string v] w fun e w' => e = .returned (.int .i64 (cmpB u.toList v.toList)) ∧ w = w' := by
  cases h1 : Op.bytesLess u.toList v.toList
  · cases h2 : (u.toList == v.toList)
    · have HZ : Hid (cmpB u.toList v.toList = 1) := by show _ = _; simp [cmpB, h1, h2]
      rw [HZ.out]
      go_enter Try.func16, Try.ntmps16
      go_wp2
      go_ret
      exact ⟨rfl, rfl⟩
    · have HZ : Hid (cmpB u.toList v.toList = 0) := by show _ = _; simp [cmpB, h1, h2]
      rw [HZ.out]
      go_enter Try.func16, Try.ntmps16
      go_wp2
      go_ret
      exact ⟨rfl, rfl⟩
  · have HZ : Hid (cmpB u.toList v.toList = -1) := by show _ = _; simp [cmpB, h1]
    rw [HZ.out]
    go_enter Try.func16, Try.ntmps16
    go_wp2
    go_ret
    exact ⟨rfl, rfl⟩
theorem cpl_eqE : ∀ (x y : List UInt8) (d : Nat), d < cpl x y → x.getD d 0 = y.getD d 0
  | [], y, d, h => by rw [cpl_nil] at h; omega
  | a :: x, [], d, h => by rw [cpl_nil2] at h; omega
  | a :: x, b :: y, d, h => by
    rw [cpl_cons] at h
    by_cases hab : a = b
    · rw [if_pos hab] at h
      cases d with
      | zero => simpa using hab
      | succ d => simpa using cpl_eqE x y d (by omega)
    · rw [if_neg hab] at h; omega
theorem ix_runE {X : ByteArray} {k : Int} {m : Nat} (hk : k = m) (hm : m < X.size) (w : World) : (Instr.index 9 (.string X) (.int .i64 k)).run Try.prog w = .ok (.int .u8 ((X.data.toList.getD m 0).toNat : Nat)) w := by
  subst hk
  rw [run_index_string _ _ _ _ _ Try.underlying9, dif_pos (by omega)]
  have e : (X[m]'hm) = X.data.toList.getD m 0 := by
    rw [List.getD_eq_getElem?_getD, Array.getElem?_toList, Array.getElem?_eq_getElem hm]
    rfl
  simp only [Int.toNat_natCast, e]
theorem wd_sizeE {X : ByteArray} {l : List Ru} (hX : X.data.toList = wd l) : (wd l).length = X.size := by
  rw [← hX, Array.length_toList]; rfl
/-- both grammars in their boxes -/
def FeR (w : World) (b5 b6 : Nat) (vg vh : Value) (L M : List Ru) (X : World) : Prop := Below w.heap.size w X ∧ X.cell? ⟨b5, 0, none⟩ = some vg ∧ InRu X vg L ∧ X.cell? ⟨b6, 0, none⟩ = some vh ∧ InRu X vh M
theorem FeR.bel {w X Y : World} {b5 b6 : Nat} {vg vh : Value} {L M : List Ru} (h : FeR w b5 b6 vg vh L M X) (hb : Below X.heap.size X Y) : FeR w b5 b6 vg vh L M Y := by
  obtain ⟨h1, h2, h3, h4, h5⟩ := h
  exact ⟨h1.trans (hb.mono h1.size), cell_later hb h2, inRu_below h3 hb, cell_later hb h4, inRu_below h5 hb⟩
theorem walk_FnEqual (v : Value) (l : List UInt8) (v2 : Value) (l2 : List UInt8) (w : World) (h0 : InRow w v l.length 1 (u8s l)) (h0b : l.length ≤ 9223372036854775807) (h0c : True) (h1 : InRow w v2 l2.length 1 (u8s l2)) (h1b : l2.length ≤ 9223372036854775807) (h1c : True) :
    Calls Try.prog 4 #[v, v2] w fun e w' => e = .returned (.bool true) ∧ Below w.heap.size w w' := by
  have H0 := Lib.hid h0
  have H1 := Lib.hid h1
  clear h0 h1
  by_cases hlong : 3000 < l.length ∨ 3000 < l2.length
  · have HL : Hid ((decide (3000 < l.length) || decide (3000 < l2.length)) = true) := by show _ = _; simpa using hlong
    clear hlong
    go_enter Try.func4, Try.ntmps4
    go_wp2_with fail
    refine (l_a2Long v v2 _ _ _ _ w H0.out H1.out).mono ?_
    rintro e w1 ⟨rfl, rfl⟩
    rw [HL.out]
    go_wp2
    go_ret
    exact ⟨rfl, Below.refl _ _⟩
  have HL : Hid ((decide (3000 < l.length) || decide (3000 < l2.length)) = false) := by show _ = _; simpa using hlong
  have hl : l.length ≤ 1048576 := by omega
  have hl2 : l2.length ≤ 1048576 := by omega
  clear hlong
  go_enter Try.func4, Try.ntmps4
  go_wp2_with fail
  refine (l_a2Long v v2 _ _ _ _ w H0.out H1.out).mono ?_
  rintro e w1 ⟨rfl, rfl⟩
  rw [HL.out]
  go_wp2_with fail
  refine (s_A2Grammar v l 60 _ (by omega) (by omega) hl H0.out).mono ?_
  rintro e w1 ⟨vg, L, rfl, hok, hne, hL60, ⟨habc, h14⟩, hog, hb1⟩
  have hl0 : L.length ≠ 0 := fun e => hne (List.eq_nil_of_length_eq_zero e)
  obtain ⟨g, cg, rfl, -, -⟩ := owns_some3 hog hl0
  have hX : Below w.heap.size w (w1.alloc (.cells #[.slice (some ⟨g, 0, none⟩) L.length cg] 26)) := hb1.alloc hb1.size _
  have HC5 := Lib.hid (And.intro (box_cell w1 (.slice (some ⟨g, 0, none⟩) L.length cg) 26) (And.intro (inRu_box (o := .cells #[.slice (some ⟨g, 0, none⟩) L.length cg] 26) (inRu_of_own hog hne)) hX))
  have HIN2 := Lib.hid (inRow_below H1.out hX)
  clear hog hb1 hX
  obtain ⟨b5, hb5⟩ : ∃ b, b = w1.heap.size := ⟨_, rfl⟩
  go_upto_region 4 with fail
  rw [← hb5] at HC5 ⊢
  clear hb5
  generalize w1.alloc (.cells #[.slice (some ⟨g, 0, none⟩) L.length cg] 26) = X1 at *
  have c5 := HC5.out.1
  go_wp2_with fail
  refine (s_A2Other v2 l2 (some ⟨g, 0, none⟩) cg L X1 hl2 HIN2.out hne hok habc h14 hL60 HC5.out.2.1).mono ?_
  rintro e w2 ⟨vh, M, rfl, hoh, hom, hnm, ham, hwm, hwm3, hb2⟩
  have hm0 : M.length ≠ 0 := fun e => hnm (List.eq_nil_of_length_eq_zero e)
  obtain ⟨h, ch, rfl, -, -⟩ := owns_some3 hoh hm0
  have hal := (Below.refl w2.heap.size w2).alloc (Nat.le_refl _) (.cells #[.slice (some ⟨h, 0, none⟩) M.length ch] 26)
  have HF : Hid (FeR w b5 w2.heap.size (.slice (some ⟨g, 0, none⟩) L.length cg) (.slice (some ⟨h, 0, none⟩) M.length ch) L M (w2.alloc (.cells #[.slice (some ⟨h, 0, none⟩) M.length ch] 26))) :=
    ⟨(HC5.out.2.2.trans (hb2.mono HC5.out.2.2.size)).trans (hal.mono ((HC5.out.2.2.trans (hb2.mono HC5.out.2.2.size)).size)), cell_later hal (cell_later hb2 HC5.out.1), inRu_below (inRu_below HC5.out.2.1 hb2) hal, box_cell w2 _ _, inRu_box (inRu_of_own hoh hnm)⟩
  have hwlL := wd_len hok
  have hwlM := wd_len hom
  obtain ⟨u0, u1, u2⟩ := uw_wdZ hok (by omega)
  obtain ⟨s0, s1, s2⟩ := uw_wdZ hom (by omega)
  have hUs := wd_sizeE u1
  have hVs := wd_sizeE s1
  have hcL := letC_wd hok hne habc
  have hcM := letC_wd hom hnm ham
  have hL4 := (gOk_some hok).1
  have hM4 := (gOk_some hom).1
  have hsmL : ∀ r ∈ L, r.1.size ≤ 1048576 := fun r hr => by have := ru_small hok r hr; omega
  have hsmM : ∀ r ∈ M, r.1.size ≤ 1048576 := fun r hr => by have := ru_small hom r hr; omega
  have HUL := Lib.hid (fun w hg => s_Unpacked (.slice (some ⟨g, 0, none⟩) L.length cg) L w (by omega) hsmL hg)
  have HUM := Lib.hid (fun w hg => s_Unpacked (.slice (some ⟨h, 0, none⟩) M.length ch) M w (by omega) hsmM hg)
  have HTG : Hid (∀ b6 X, FeR w b5 b6 (.slice (some ⟨g, 0, none⟩) L.length cg) (.slice (some ⟨h, 0, none⟩) M.length ch) L M X → TwoG (some ⟨g, 0, none⟩) (some ⟨h, 0, none⟩) cg ch L M X) :=
    fun b6 X hF => ⟨hne, hnm, hok, hom, hF.2.2.1, hF.2.2.2.2, hcL, hcM, by omega, by omega⟩
  have HSG : Hid (∀ w, Calls Try.prog 16 #[.string (uwW L), .string (uwW M)] w fun e w' => e = .returned (.int .i64 (cmpB (wd L) (wd M))) ∧ w = w') := fun w => by
    have := l_a2Sign (uwW L) (uwW M) w
    rwa [ByteArray.toList_eq, ByteArray.toList_eq, u1, s1] at this
  have HCMP := Lib.hid (fun W ht => i_CompareGrammars2 (some ⟨g, 0, none⟩) (some ⟨h, 0, none⟩) cg ch L M W ht)
  have hU60 : (uwW L).size ≤ 60 := by omega
  have hV63 : (uwW M).size ≤ 63 := by omega
  obtain ⟨b6, hb6⟩ : ∃ b, b = w2.heap.size := ⟨_, rfl⟩
  go_upto_region 5 with fail
  rw [← hb6] at HF ⊢
  clear hb6 hal hb2 hoh HC5 c5
  generalize w2.alloc (.cells #[.slice (some ⟨h, 0, none⟩) M.length ch] 26) = X2 at *
  have hlen : ∀ c, c = cpl (wd L) (wd M) → (∀ d, d < c → (uwW L).data.toList.getD d 0 = (uwW M).data.toList.getD d 0) ∧ (c < (uwW L).size → c < (uwW M).size → (uwW L).data.toList.getD c 0 ≠ (uwW M).data.toList.getD c 0) ∧ c ≤ (uwW L).size ∧ c ≤ (uwW M).size := by
    rintro c rfl
    have hle := cpl_le (wd L) (wd M)
    rw [u1, s1]
    exact ⟨fun d hd => cpl_eqE _ _ d hd, fun a b => cpl_ne _ _ (by omega) (by omega), by omega, by omega⟩
  have hUVe : (uwW L).toList = wd L ∧ (uwW M).toList = wd M := by rw [ByteArray.toList_eq, ByteArray.toList_eq]; exact ⟨u1, s1⟩
  have HLEN := Lib.hid hlen
  have hwm2 : (wd M = wd L ∧ ((uwW L).toList == (uwW M).toList) = true) ∨ ((wd L).length < (wd M).length ∧ ((uwW L).toList == (uwW M).toList) = false) := by
    rcases hwm with h | h
    · left; rw [hUVe.1, hUVe.2, h]; exact ⟨rfl, by simp⟩
    · right; refine ⟨h, ?_⟩; rw [hUVe.1, hUVe.2, beq_eq_false_iff_ne]; intro e; rw [e] at h; omega
  have hUVs : (wd L).length < (wd M).length → (uwW L).size < (uwW M).size := fun h => by omega
  have HWM := Lib.hid (And.intro hwm2 hUVs)
  clear hok hne hL60 habc h14 hl0 hom hnm ham hwm hwm3 hm0 hwlL hwlM u0 u1 u2 s0 s1 s2 hUs hVs hcL hcM hL4 hM4 hsmL hsmM H0 H1 HL HIN2 hl hl2 h0b h0c h1b h1c hlen hUVe hwm2 hUVs
  generalize cmpB (wd L) (wd M) = z at *
  generalize uwW L = U at *
  generalize uwW M = V at *
  have HLM := Lib.hid (fun r W ht hd => i_EqualWords2 (some ⟨g, 0, none⟩) (some ⟨h, 0, none⟩) cg ch L M r W ht hd)
  have HFD2 := Lib.hid (fun W ht hd => i_FirstDifference2 (some ⟨g, 0, none⟩) (some ⟨h, 0, none⟩) cg ch L M W ht hd)
  have HFD3 := Lib.hid (fun W ht hd => i_FirstDifference3 (some ⟨g, 0, none⟩) (some ⟨h, 0, none⟩) cg ch L M W ht hd)
  have HST := Lib.hid (fun W ht hd => i_StartsWith2 (some ⟨g, 0, none⟩) (some ⟨h, 0, none⟩) cg ch L M W ht hd)
  have HEN := Lib.hid (fun W ht hd => i_EndsWith2 (some ⟨g, 0, none⟩) (some ⟨h, 0, none⟩) cg ch L M W ht hd)
  generalize cpl (wd L) (wd M) = c at *
  generalize L.length = ll at *
  generalize M.length = mm at *
  have c5 := HF.out.2.1
  have c6 := HF.out.2.2.2.1
  go_wp2_with fail
  refine (HUL.out _ HF.out.2.2.1).mono ?_
  rintro e w3 ⟨rfl, hb3⟩
  have HF3 := Lib.hid (HF.out.bel hb3)
  have c6 := HF3.out.2.2.2.1
  clear HF hb3 HUL c5
  go_wp2_with fail
  refine (HUM.out _ HF3.out.2.2.2.2).mono ?_
  rintro e w4 ⟨rfl, hb4⟩
  have HF4 := Lib.hid (HF3.out.bel hb4)
  have c5 := HF4.out.2.1
  have c6 := HF4.out.2.2.2.1
  clear HF3 hb4 HUM
  rcases HWM.out.1 with ⟨hwe, hUV⟩ | ⟨hwl, hUV⟩
  · have HE := Lib.hid (fun W ht => HLM.out true W ht (.inl ⟨rfl, hwe⟩))
    have HD := Lib.hid (fun W ht => HFD3.out W ht hwe)
    clear HLM HFD2 HFD3 HST HEN hwe HWM HLEN
    go_wp2_with fail
    refine (HE.out _ (HTG.out b6 _ HF4.out)).mono ?_
    rintro e w5 ⟨rfl, hb5⟩
    have HF5 := Lib.hid (HF4.out.bel hb5)
    have c5 := HF5.out.2.1
    have c6 := HF5.out.2.2.2.1
    clear HF4 hb5 HE
    go_wp2_with fail
    refine (HD.out _ (HTG.out b6 _ HF5.out)).mono ?_
    rintro e w6 ⟨rfl, hb6⟩
    have HF6 := Lib.hid (HF5.out.bel hb6)
    have c5 := HF6.out.2.1
    have c6 := HF6.out.2.2.2.1
    clear HF5 hb6 HD
    go_wp2_with fail
    refine (HCMP.out _ (HTG.out b6 _ HF6.out)).mono ?_
    rintro e w7 ⟨rfl, hb7⟩
    have HF7 := Lib.hid (HF6.out.bel hb7)
    have c5 := HF7.out.2.1
    have c6 := HF7.out.2.2.2.1
    clear HF6 hb7 HCMP
    go_wp2_with fail
    refine (HSG.out _).mono ?_
    rintro e w8 ⟨rfl, rfl⟩
    go_wp2
    go_ret
    exact ⟨rfl, HF7.out.1⟩
  · have HE := Lib.hid (fun W ht => HLM.out false W ht (.inr ⟨rfl, hwl⟩))
    have HD := Lib.hid (fun W ht => HFD2.out W ht hwl)
    have HS := Lib.hid (fun W ht => HST.out W ht hwl)
    have HN := Lib.hid (fun W ht => HEN.out W ht hwl)
    obtain ⟨d1, d2, d3, d4⟩ := HLEN.out c rfl
    have huv := HWM.out.2 hwl
    have HDD := Lib.hid (And.intro d1 d2)
    clear HLM HFD2 HFD3 HST HEN hwl HWM HLEN d1 d2
    go_wp2_with fail
    refine (HE.out _ (HTG.out b6 _ HF4.out)).mono ?_
    rintro e w5 ⟨rfl, hb5⟩
    have HF5 := Lib.hid (HF4.out.bel hb5)
    have c5 := HF5.out.2.1
    have c6 := HF5.out.2.2.2.1
    clear HF4 hb5 HE
    go_wp2_with fail
    refine (HD.out _ (HTG.out b6 _ HF5.out)).mono ?_
    rintro e w6 ⟨rfl, hb6⟩
    have HF6 := Lib.hid (HF5.out.bel hb6)
    have c5 := HF6.out.2.1
    have c6 := HF6.out.2.2.2.1
    clear HF5 hb6 HD
    go_wp2_with fail
    refine (HCMP.out _ (HTG.out b6 _ HF6.out)).mono ?_
    rintro e w7 ⟨rfl, hb7⟩
    have HF7 := Lib.hid (HF6.out.bel hb7)
    have c5 := HF7.out.2.1
    have c6 := HF7.out.2.2.2.1
    clear HF6 hb7 HCMP
    go_wp2_with fail
    refine (HSG.out _).mono ?_
    rintro e w8 ⟨rfl, rfl⟩
    clear HSG
    go_wp2
    go_loopw [15] (fun ii wx => ∃ d : Nat, d ≤ c ∧ ii = .int .i64 (d : Nat) ∧ FeR w b5 b6 (.slice (some ⟨g, 0, none⟩) ll cg) (.slice (some ⟨h, 0, none⟩) mm ch) L M wx) (fun ii _ => c - (intOf ii).toNat)
    case atStart => exact ⟨0, by omega, rfl, HF7.out⟩
    case round =>
      obtain ⟨d, hd, rfl, hF⟩ := hrel
      have HFD := Lib.hid hF
      clear hF HF7 c5 c6
      by_cases hlt : d < c
      · have he := HDD.out.1 d hlt
        have R1 := ix_runE (X := U) (k := (d : Int)) (m := d) rfl (by omega)
        have R2 := ix_runE (X := V) (k := (d : Int)) (m := d) rfl (by omega)
        rw [he] at R1
        generalize (V.data.toList.getD d 0).toNat = y at *
        have hi1 : (d : Int) < U.size := by omega
        have hj1 : (d : Int) < V.size := by omega
        clear he
        go_wp2
        go_big_quiet (fail)
        have hb := below_drewN (Below.refl wr.heap.size wr) nq
        go_wp2
        go_roundw
        case rel => exact ⟨d + 1, by omega, by go_num, HFD.out.bel hb⟩
        case measure => first | (simp [intOf]; done) | (simp [intOf]; omega)
      · obtain rfl : d = c := by omega
        go_upto_region 15 with fail
        go_cut [93] (fun s93 wx => s93 = .bool false ∧ FeR w b5 b6 (.slice (some ⟨g, 0, none⟩) ll cg) (.slice (some ⟨h, 0, none⟩) mm ch) L M wx)
        case first =>
          by_cases h1 : d < U.size
          · have h2 : d < V.size := by omega
            have hn := HDD.out.2 h1 h2
            have R1 := ix_runE (X := U) (k := (d : Int)) (m := d) rfl h1
            have R2 := ix_runE (X := V) (k := (d : Int)) (m := d) rfl h2
            have hn2 : (U.data.toList.getD d 0).toNat ≠ (V.data.toList.getD d 0).toNat := fun e => hn (UInt8.toNat_inj.1 e)
            have hi1 : (d : Int) < U.size := by omega
            have hj1 : (d : Int) < V.size := by omega
            generalize (U.data.toList.getD d 0).toNat = x1 at *
            generalize (V.data.toList.getD d 0).toNat = x2 at *
            clear hn
            go_wp2
            go_big_quiet (fail)
            have hb := below_drewN (Below.refl wr.heap.size wr) nq
            go_wp2
            go_meet
            exact ⟨by congr 1; rw [beq_eq_false_iff_ne]; omega, HFD.out.bel hb⟩
          · have hd1 : decide ((d : Int) < (U.size : Int)) = false := decide_eq_false (by omega)
            have hd2 : decide (d < U.size) = false := decide_eq_false h1
            go_big_quiet (fail)
            have hb := below_drewN (Below.refl wr.heap.size wr) nq
            go_wp2
            go_meet
            exact ⟨rfl, HFD.out.bel hb⟩
        case rest =>
          obtain ⟨rfl, hF⟩ := hcut
          have HF9 := Lib.hid hF
          have c5 := hF.2.1
          have c6 := hF.2.2.2.1
          clear hF HFD HDD hlt
          go_wp2_with fail
          refine (HS.out _ (HTG.out b6 _ HF9.out)).mono ?_
          rintro e wA ⟨rfl, hbA⟩
          have HFA := Lib.hid (HF9.out.bel hbA)
          have c5 := HFA.out.2.1
          have c6 := HFA.out.2.2.2.1
          clear HF9 hbA HS
          go_wp2_with fail
          refine (HN.out _ (HTG.out b6 _ HFA.out)).mono ?_
          rintro e wB ⟨rfl, hbB⟩
          have HFB := Lib.hid (HFA.out.bel hbB)
          clear HFA hbB HN c5 c6
          have e1 : ((d : Int) == (V.size : Int)) = false := by rw [beq_eq_false_iff_ne]; omega
          have e2 : decide ((V.size : Int) ≤ (U.size : Int)) = false := decide_eq_false (by omega)
          have e3 : ¬ (V.size : Int) ≤ (U.size : Int) := by omega
          go_wp2
          go_ret
          exact ⟨rfl, HFB.out.1⟩
end Go.Proofs.Ytoejelieogjjpaa

/- FnCommon: the walk of the law. -/
import Derived.Test.YtoejelieogjjpaaQC
import Derived.Test.YtoejelieogjjpaaZQ
import Derived.Deep.DeepCutAuto
namespace Go.Proofs.Ytoejelieogjjpaa
open Go.ChangeShapes Go.WideShapes Go.RowKit
set_option linter.unusedVariables false
set_option linter.unusedSimpArgs false
set_option maxHeartbeats 2000000
set_option maxRecDepth 100000
theorem cpl_eq : ∀ (x y : List UInt8) (d : Nat), d < cpl x y → x.getD d 0 = y.getD d 0
  | [], y, d, h => by rw [cpl_nil] at h; omega
  | a :: x, [], d, h => by rw [cpl_nil2] at h; omega
  | a :: x, b :: y, d, h => by
    rw [cpl_cons] at h
    by_cases hab : a = b
    · rw [if_pos hab] at h
      cases d with
      | zero => simpa using hab
      | succ d => simpa using cpl_eq x y d (by omega)
    · rw [if_neg hab] at h; omega
theorem sfx_at (l : List Ru) (i d : Nat) : (sfx l (i : Int)).getD d 0 = (wd l).getD (i + d) 0 := by
  simp [sfx, List.getD_eq_getElem?_getD]
theorem ix_run {X : ByteArray} {k : Int} {m : Nat} (hk : k = m) (hm : m < X.size) (w : World) : (Instr.index 9 (.string X) (.int .i64 k)).run Try.prog w = .ok (.int .u8 ((X.data.toList.getD m 0).toNat : Nat)) w := by
  subst hk
  rw [run_index_string _ _ _ _ _ Try.underlying9, dif_pos (by omega)]
  have e : (X[m]'hm) = X.data.toList.getD m 0 := by
    rw [List.getD_eq_getElem?_getD, Array.getElem?_toList, Array.getElem?_eq_getElem hm]
    rfl
  simp only [Int.toNat_natCast, e]
/-- the grammar in its box -/
def FsR (w : World) (b5 : Nat) (vg : Value) (L : List Ru) (X : World) : Prop := Below w.heap.size w X ∧ X.cell? ⟨b5, 0, none⟩ = some vg ∧ InRu X vg L
theorem FsR.bel {w X Y : World} {b5 : Nat} {vg : Value} {L : List Ru} (h : FsR w b5 vg L X) (hb : Below X.heap.size X Y) : FsR w b5 vg L Y := by
  obtain ⟨h1, h2, h3⟩ := h
  exact ⟨h1.trans (hb.mono h1.size), cell_later hb h2, inRu_below h3 hb⟩
theorem wd_size {X : ByteArray} {l : List Ru} (hX : X.data.toList = wd l) : (wd l).length = X.size := by
  rw [← hX, Array.length_toList]; rfl
theorem l_a2AtI (v : Value) (l : List UInt8) (t n : Int) (w : World) (ht : 0 ≤ t) (h : InRow w v l.length 1 (u8s l)) :
    Calls Try.prog 8 #[v, .int .i64 t, .int .i64 n] w fun e w' => ∃ x : Nat, e = .returned (.int .i64 x) ∧ (x = 0 ∨ (x : Int) < n) ∧ Qt w w' := by
  obtain ⟨t, rfl⟩ := Int.eq_ofNat_of_zero_le ht
  exact l_a2At v l t n w h
theorem walk_FnCommon (v : Value) (l : List UInt8) (v2 : Value) (l2 : List UInt8) (w : World) (h0 : InRow w v l.length 1 (u8s l)) (h0b : l.length ≤ 9223372036854775807) (h0c : True) (h1 : InRow w v2 l2.length 1 (u8s l2)) (h1b : l2.length ≤ 9223372036854775807) (h1c : True) :
    Calls Try.prog 3 #[v, v2] w fun e w' => e = .returned (.bool true) ∧ Below w.heap.size w w' := by
  have H0 := Lib.hid h0
  have H1 := Lib.hid h1
  clear h0 h1
  by_cases hlong : 3000 < l.length ∨ 3000 < l2.length
  · have HL : Hid ((decide (3000 < l.length) || decide (3000 < l2.length)) = true) := by show _ = _; simpa using hlong
    clear hlong
    go_enter Try.func3, Try.ntmps3
    go_wp2_with fail
    refine (l_a2Long v v2 _ _ _ _ w H0.out H1.out).mono ?_
    rintro e w1 ⟨rfl, rfl⟩
    rw [HL.out]
    go_wp2
    go_ret
    exact ⟨rfl, Below.refl _ _⟩
  have HL : Hid ((decide (3000 < l.length) || decide (3000 < l2.length)) = false) := by show _ = _; simpa using hlong
  have hl : l.length ≤ 1048576 := by omega
  clear hlong
  go_enter Try.func3, Try.ntmps3
  go_wp2_with fail
  refine (l_a2Long v v2 _ _ _ _ w H0.out H1.out).mono ?_
  rintro e w1 ⟨rfl, rfl⟩
  rw [HL.out]
  go_wp2_with fail
  refine (s_A2Grammar v l 60 _ (by omega) (by omega) hl H0.out).mono ?_
  rintro e w1 ⟨vg, L, rfl, hok, hne, hL60, habc, hog, hb1⟩
  have hl0 : L.length ≠ 0 := fun e => hne (List.eq_nil_of_length_eq_zero e)
  obtain ⟨g, cg, rfl, -, -⟩ := owns_some3 hog hl0
  have hL4 := (gOk_some hok).1
  have hsm : ∀ r ∈ L, r.1.size ≤ 1048576 := fun r hr => by have := ru_small hok r hr; omega
  have hX : Below w.heap.size w (w1.alloc (.cells #[.slice (some ⟨g, 0, none⟩) L.length cg] 26)) := hb1.alloc hb1.size _
  have HF1 : Hid (FsR w w1.heap.size (.slice (some ⟨g, 0, none⟩) L.length cg) L (w1.alloc (.cells #[.slice (some ⟨g, 0, none⟩) L.length cg] 26))) := ⟨hX, box_cell w1 (.slice (some ⟨g, 0, none⟩) L.length cg) 26, inRu_box (o := .cells #[.slice (some ⟨g, 0, none⟩) L.length cg] 26) (inRu_of_own hog hne)⟩
  obtain ⟨u0, u1, u2⟩ := uw_wdZ hok (by omega)
  have HUW := Lib.hid (fun w hg => s_Unpacked (.slice (some ⟨g, 0, none⟩) L.length cg) L w (by omega) hsm hg)
  have h60 : (uwW L).size ≤ 60 := by omega
  have hwl := wd_size u1
  have hlc := letC_wd hok hne habc
  have HCF : Hid (∀ (i j : Nat) X, i ≤ (uwW L).size → j ≤ (uwW L).size → FsR w w1.heap.size (.slice (some ⟨g, 0, none⟩) L.length cg) L X → Calls Try.prog 9 #[.agg #[.slice (some ⟨g, 0, none⟩) L.length cg], .int .i64 i, .int .i64 j] X fun e Y => e = .returned (.tuple #[.int .i64 (cpl (sfx L i) (sfx L j) : Nat), .int .i64 0]) ∧ FsR w w1.heap.size (.slice (some ⟨g, 0, none⟩) L.length cg) L Y) := by
    intro i j X hi hj hF
    refine (i_CommonFrom (some ⟨g, 0, none⟩) cg L i j X hne hok hsm hF.2.2 hlc (by omega) (by omega) (by omega) (by omega) (by omega)).mono ?_
    rintro e Y ⟨rfl, hb⟩
    exact ⟨rfl, hF.bel hb⟩
  have HSP : Hid (∀ (i j k : Nat) X, i ≤ (uwW L).size → j ≤ (uwW L).size → k ≤ cpl (sfx L i) (sfx L j) + 30 → FsR w w1.heap.size (.slice (some ⟨g, 0, none⟩) L.length cg) L X → Calls Try.prog 11 #[.agg #[.slice (some ⟨g, 0, none⟩) L.length cg], .agg #[.slice (some ⟨g, 0, none⟩) L.length cg], .int .i64 i, .int .i64 j, .int .i64 k] X fun e Y => (∃ (r : Bool) (c : Int), e = .returned (.tuple #[.bool r, .int .i64 c]) ∧ (i + k ≤ (uwW L).size ∧ j + k ≤ (uwW L).size → c = 0 ∧ r = decide (k ≤ cpl (sfx L i) (sfx L j))) ∧ (¬ (i + k ≤ (uwW L).size ∧ j + k ≤ (uwW L).size) → c = 2)) ∧ FsR w w1.heap.size (.slice (some ⟨g, 0, none⟩) L.length cg) L Y) := by
    intro i j k X hi hj hk hF
    refine (i_SamePart (some ⟨g, 0, none⟩) (some ⟨g, 0, none⟩) cg cg L L i j k X hne hne hok hok hsm hsm hF.2.2 hF.2.2 hlc hlc (by omega) (by omega) (by omega) (by omega) (by omega) (by omega) (by omega) (by omega)).mono ?_
    rintro e Y ⟨⟨r, c, rfl, q1, q2⟩, hb⟩
    exact ⟨⟨r, c, rfl, fun h => q1 (by omega), fun h => q2 (by omega)⟩, hF.bel hb⟩
  have HEP : Hid (∀ (i j k : Nat) X, i ≤ (uwW L).size → j ≤ (uwW L).size → k ≤ cpl (sfx L i) (sfx L j) + 30 → FsR w w1.heap.size (.slice (some ⟨g, 0, none⟩) L.length cg) L X → Calls Try.prog 10 #[.agg #[.slice (some ⟨g, 0, none⟩) L.length cg], .int .i64 i, .int .i64 j, .int .i64 k] X fun e Y => (∃ (r : Bool) (c : Int), e = .returned (.tuple #[.bool r, .int .i64 c]) ∧ (i + k ≤ (uwW L).size ∧ j + k ≤ (uwW L).size → c = 0 ∧ r = decide (k ≤ cpl (sfx L i) (sfx L j))) ∧ (¬ (i + k ≤ (uwW L).size ∧ j + k ≤ (uwW L).size) → c = 2)) ∧ FsR w w1.heap.size (.slice (some ⟨g, 0, none⟩) L.length cg) L Y) := by
    intro i j k X hi hj hk hF
    refine (i_EqualParts (some ⟨g, 0, none⟩) cg L i j k X hne hok hsm hF.2.2 hlc (by omega) (by omega) (by omega) (by omega) (by omega) (by omega) (by omega)).mono ?_
    rintro e Y ⟨⟨r, c, rfl, q1, q2⟩, hb⟩
    exact ⟨⟨r, c, rfl, fun h => q1 (by omega), fun h => q2 (by omega)⟩, hF.bel hb⟩
  have HAT : Hid (∀ (t n : Int) X, 0 ≤ t → Below w.heap.size w X → Calls Try.prog 8 #[v2, .int .i64 t, .int .i64 n] X fun e Y => ∃ x : Nat, e = .returned (.int .i64 x) ∧ (x = 0 ∨ (x : Int) < n) ∧ Qt X Y) :=
    fun t n X ht hb => l_a2AtI v2 l2 t n X ht (inRow_below H1.out hb)
  have HLE : Hid (∀ i j : Nat, cpl (sfx L i) (sfx L j) ≤ (uwW L).size - i ∧ cpl (sfx L i) (sfx L j) ≤ (uwW L).size - j) := by
    intro i j
    have := cpl_le (sfx L i) (sfx L j)
    rw [sfx_len, sfx_len, hwl] at this
    simpa using this
  have HEQ : Hid (∀ i j d : Nat, d < cpl (sfx L i) (sfx L j) → (uwW L).data.toList.getD (i + d) 0 = (uwW L).data.toList.getD (j + d) 0) := by
    intro i j d h
    have := cpl_eq _ _ d h
    rwa [sfx_at, sfx_at, ← u1] at this
  have HNE : Hid (∀ i j : Nat, i + cpl (sfx L i) (sfx L j) < (uwW L).size → j + cpl (sfx L i) (sfx L j) < (uwW L).size → (uwW L).data.toList.getD (i + cpl (sfx L i) (sfx L j)) 0 ≠ (uwW L).data.toList.getD (j + cpl (sfx L i) (sfx L j)) 0) := by
    intro i j h h2
    have := cpl_ne (sfx L i) (sfx L j) (by rw [sfx_len, hwl, Int.toNat_natCast]; omega) (by rw [sfx_len, hwl, Int.toNat_natCast]; omega)
    rwa [sfx_at, sfx_at, ← u1] at this
  clear hog hb1 hX hok hne hL60 habc hsm H0 H1 HL hl0 hL4 hl h0b h0c h1b h1c u0 u1 u2 hwl hlc
  generalize uwW L = X at *
  generalize L.length = ll at *
  go_wp2_with fail
  refine (HUW.out _ HF1.out.2.2).mono ?_
  rintro e w2 ⟨rfl, hb2⟩
  have HF2 := Lib.hid (HF1.out.bel hb2)
  clear HF1 HUW hb2
  go_wp2_with fail
  refine (HAT.out 0 _ _ (by omega) HF2.out.1).mono ?_
  rintro e w3 ⟨i, rfl, hi, ⟨q3, rfl⟩⟩
  have HF3 := Lib.hid (HF2.out.bel (below_drewN (Below.refl w2.heap.size w2) q3))
  have hiX : i ≤ X.size := by omega
  clear HF2 hi
  generalize w2.drewN q3 = w3 at *
  go_wp2_with fail
  refine (HAT.out 1 _ _ (by omega) HF3.out.1).mono ?_
  rintro e w4 ⟨j, rfl, hj, ⟨q4, rfl⟩⟩
  have HF4 := Lib.hid (HF3.out.bel (below_drewN (Below.refl w3.heap.size w3) q4))
  have hjX : j ≤ X.size := by omega
  clear HF3 hj HAT
  generalize w3.drewN q4 = w4 at *
  have c4 := HF4.out.2.1
  have HCF4 := Lib.hid (HCF.out i j w4 hiX hjX HF4.out)
  have HSP4 := Lib.hid (fun k X hk hF => HSP.out i j k X hiX hjX hk hF)
  have HEP4 := Lib.hid (fun k X hk hF => HEP.out i j k X hiX hjX hk hF)
  have HEQ4 := Lib.hid (HEQ.out i j)
  have HNE4 := Lib.hid (HNE.out i j)
  have hle := HLE.out i j
  generalize cpl (sfx L i) (sfx L j) = c at *
  clear HCF HSP HEP HEQ HNE HLE
  go_wp2_with fail
  refine HCF4.out.mono ?_
  rintro e w5 ⟨rfl, hF5⟩
  have HF5 := Lib.hid hF5
  clear hF5 HF4 c4 HCF4
  have h60' : (X.size : Int) ≤ 60 := by omega
  have hci : i + c ≤ X.size := by omega
  have hcj : j + c ≤ X.size := by omega
  clear hle
  go_wp2
  go_loopw [12] (fun d wr => ∃ d' : Nat, d' ≤ c ∧ d = .int .i64 d' ∧ FsR w w1.heap.size (.slice (some ⟨g, 0, none⟩) ll cg) L wr) (fun d _ => c - (intOf d).toNat)
  case atStart => exact ⟨0, by omega, rfl, HF5.out⟩
  case round =>
    obtain ⟨d, hd, rfl, hF⟩ := hrel
    have HF := Lib.hid hF
    clear hF HF5
    by_cases hlt : d < c
    · have he := HEQ4.out d hlt
      have R1 := ix_run (X := X) (k := (i : Int) + d) (m := i + d) (by omega) (by omega)
      have R2 := ix_run (X := X) (k := (j : Int) + d) (m := j + d) (by omega) (by omega)
      rw [he] at R1
      generalize (X.data.toList.getD (j + d) 0).toNat = y at *
      have hi1 : (i : Int) + d < X.size := by omega
      have hj1 : (j : Int) + d < X.size := by omega
      clear he
      go_wp2
      go_big_quiet (fail)
      have hb := below_drewN (Below.refl wr.heap.size wr) nq
      go_wp2
      go_roundw
      case rel => exact ⟨d + 1, by omega, by go_num, HF.out.bel hb⟩
      case measure => first | (simp [intOf]; done) | (simp [intOf]; omega)
    · obtain rfl : d = c := by omega
      have hiI : ¬ ((i : Int) + d < X.size ∧ ¬ i + d < X.size) := by omega
      go_upto_region 10 with fail
      go_cut [67] (fun s67 wx => s67 = .bool false ∧ FsR w w1.heap.size (.slice (some ⟨g, 0, none⟩) ll cg) L wx)
      case first =>
        by_cases h1 : i + d < X.size
        · by_cases h2 : j + d < X.size
          · have hn := HNE4.out h1 h2
            have R1 := ix_run (X := X) (k := (i : Int) + d) (m := i + d) (by omega) (by omega)
            have R2 := ix_run (X := X) (k := (j : Int) + d) (m := j + d) (by omega) (by omega)
            have hn2 : (X.data.toList.getD (i + d) 0).toNat ≠ (X.data.toList.getD (j + d) 0).toNat := fun e => hn (UInt8.toNat_inj.1 e)
            have hi1 : (i : Int) + d < X.size := by omega
            have hj1 : (j : Int) + d < X.size := by omega
            generalize (X.data.toList.getD (i + d) 0).toNat = x1 at *
            generalize (X.data.toList.getD (j + d) 0).toNat = x2 at *
            clear hn
            go_wp2
            go_big_quiet (fail)
            have hb := below_drewN (Below.refl wr.heap.size wr) nq
            go_wp2
            go_meet
            exact ⟨by congr 1; rw [beq_eq_false_iff_ne]; omega, HF.out.bel hb⟩
          · have hi1 : (i : Int) + d < X.size := by omega
            have hd1 : decide ((i : Int) + d < (X.size : Int)) = true := decide_eq_true hi1
            have hd2 : decide ((j : Int) + d < (X.size : Int)) = false := decide_eq_false (by omega)
            go_big_quiet (fail)
            have hb := below_drewN (Below.refl wr.heap.size wr) nq
            go_wp2
            go_meet
            exact ⟨rfl, HF.out.bel hb⟩
        · have hd1 : decide ((i : Int) + d < (X.size : Int)) = false := decide_eq_false (by omega)
          go_big_quiet (fail)
          have hb := below_drewN (Below.refl wr.heap.size wr) nq
          go_wp2
          go_meet
          exact ⟨rfl, HF.out.bel hb⟩
      case rest =>
        obtain ⟨rfl, hF6⟩ := hcut
        have HF6 := Lib.hid hF6
        have c6 := hF6.2.1
        clear hF6 HF HEQ4 HNE4 hlt hd hiI
        have HE1 := Lib.hid (HEP4.out d _ (by omega) HF6.out)
        go_wp2_with fail
        refine HE1.out.mono ?_
        rintro e w7 ⟨⟨r1, k1, rfl, g1, -⟩, hF7⟩
        obtain ⟨rfl, rfl⟩ := g1 ⟨by omega, by omega⟩
        have HF7 := Lib.hid hF7
        have c7 := hF7.2.1
        have hdd : decide (d ≤ d) = true := by simp
        rw [hdd]
        clear hF7 HF6 c6 HE1 g1 hdd
        have HE2 := Lib.hid (HSP4.out d _ (by omega) HF7.out)
        go_wp2_with fail
        refine HE2.out.mono ?_
        rintro e w8 ⟨⟨r2, k2, rfl, g2, -⟩, hF8⟩
        obtain ⟨rfl, rfl⟩ := g2 ⟨by omega, by omega⟩
        have HF8 := Lib.hid hF8
        have c8 := hF8.2.1
        have hdd : decide (d ≤ d) = true := by simp
        rw [hdd]
        clear hF8 HF7 c7 HE2 g2 hdd HSP4
        have HE3 := Lib.hid (HEP4.out (d + 1) _ (by omega) HF8.out)
        rw [show ((d + 1 : Nat) : Int) = (d : Int) + 1 by omega] at HE3
        go_wp2_with fail
        refine HE3.out.mono ?_
        rintro e w9 ⟨⟨r3, k3, rfl, g3, g4⟩, hF9⟩
        have HF9 := Lib.hid hF9
        clear hF9 HF8 c8 HE3 HEP4
        by_cases h1 : i + d = X.size
        · obtain rfl := g4 (by omega)
          have h1' : (i : Int) + d = X.size := by omega
          clear g3 g4
          go_wp2
          go_ret
          exact ⟨rfl, HF9.out.1⟩
        · by_cases h2 : j + d = X.size
          · obtain rfl := g4 (by omega)
            have h1' : ¬ (i : Int) + d = X.size := by omega
            have h2' : (j : Int) + d = X.size := by omega
            clear g3 g4
            go_wp2
            go_ret
            exact ⟨rfl, HF9.out.1⟩
          · obtain ⟨rfl, rfl⟩ := g3 ⟨by omega, by omega⟩
            have h1' : ¬ (i : Int) + d = X.size := by omega
            have h2' : ¬ (j : Int) + d = X.size := by omega
            have hdd : decide (d + 1 ≤ d) = false := by simp
            rw [hdd]
            clear g3 g4 hdd
            go_upto_region 19 with fail
            have hd1 : ((i : Int) + d == (X.size : Int)) = false := by rw [beq_eq_false_iff_ne]; omega
            have hd2 : ((j : Int) + d == (X.size : Int)) = false := by rw [beq_eq_false_iff_ne]; omega
            clear h1 h2 h1' h2'
            go_wp2
            go_ret
            exact ⟨rfl, HF9.out.1⟩
end Go.Proofs.Ytoejelieogjjpaa

/- FnSorted: the walk of the law. -/
import Derived.Test.YtecmnebppngcbaaZR
import Derived.Deep.DeepCutAuto
namespace Go.Proofs.Ytecmnebppngcbaa
open Go.ChangeShapes Go.WideShapes Go.RowKit
set_option linter.unusedVariables false
set_option linter.unusedSimpArgs false
set_option maxHeartbeats 2000000
set_option maxRecDepth 100000
/-- the grammar in its box -/
def FsR (w : World) (b5 : Nat) (vg : Value) (L : List Ru) (X : World) : Prop := Below w.heap.size w X ∧ X.cell? ⟨b5, 0, none⟩ = some vg ∧ InRu X vg L
theorem FsR.bel {w X Y : World} {b5 : Nat} {vg : Value} {L : List Ru} (h : FsR w b5 vg L X) (hb : Below X.heap.size X Y) : FsR w b5 vg L Y := by
  obtain ⟨h1, h2, h3⟩ := h
  exact ⟨h1.trans (hb.mono h1.size), cell_later hb h2, inRu_below h3 hb⟩
theorem l_a2AtI (v : Value) (l : List UInt8) (t n : Int) (w : World) (ht : 0 ≤ t) (h : InRow w v l.length 1 (u8s l)) :
    Calls Try.prog 7 #[v, .int .i64 t, .int .i64 n] w fun e w' => ∃ x : Nat, e = .returned (.int .i64 x) ∧ (x = 0 ∨ (x : Int) < n) ∧ Qt w w' := by
  obtain ⟨t, rfl⟩ := Int.eq_ofNat_of_zero_le ht
  exact l_a2At v l t n w h
/-- the places that are drawn -/
def PlR (b sz : Nat) (p k : Value) (n gp cp : Nat) (ps : List Int) (X : World) : Prop := k = .int .i64 (n : Nat) ∧ n ≤ 4 ∧ p = .slice (some ⟨gp, 0, none⟩) n cp ∧ ps.length = n ∧ (∀ x ∈ ps, 0 ≤ x ∧ x ≤ (sz : Int)) ∧ X.ownsRow b 2 1 p n (ps.map (Value.int .i64))
theorem walk_FnSorted (v : Value) (l : List UInt8) (v2 : Value) (l2 : List UInt8) (w : World) (h0 : InRow w v l.length 1 (u8s l)) (h0b : l.length ≤ 9223372036854775807) (h0c : True) (h1 : InRow w v2 l2.length 1 (u8s l2)) (h1b : l2.length ≤ 9223372036854775807) (h1c : True) :
    Calls Try.prog 3 #[v, v2] w fun e w' => e = .returned (.bool true) ∧ Below w.heap.size w w' := by
  have H0 := Lib.hid h0
  have H1 := Lib.hid h1
  clear h0 h1
  by_cases hlong : 3000 < l.length ∨ 3000 < l2.length
  · have HL : Hid ((decide (3000 < l.length) || decide (3000 < l2.length)) = true) := by show _ = _; simpa using hlong
    clear hlong
    go_enter Try.func3, Try.ntmps3
    go_wp2_with fail
    refine (l_a2Long v v2 _ _ _ _ w H0.out H1.out).mono ?_
    rintro e w1 ⟨rfl, rfl⟩
    rw [HL.out]
    go_wp2
    go_ret
    exact ⟨rfl, Below.refl _ _⟩
  have HL : Hid ((decide (3000 < l.length) || decide (3000 < l2.length)) = false) := by show _ = _; simpa using hlong
  have hl : l.length ≤ 1048576 := by omega
  clear hlong
  go_enter Try.func3, Try.ntmps3
  go_wp2_with fail
  refine (l_a2Long v v2 _ _ _ _ w H0.out H1.out).mono ?_
  rintro e w1 ⟨rfl, rfl⟩
  rw [HL.out]
  go_wp2_with fail
  refine (s_A2Grammar v l 30 _ (by omega) (by omega) hl H0.out).mono ?_
  rintro e w1 ⟨vg, L, rfl, hok, hne, hL30, habc, hog, hb1⟩
  have hw1 : w.heap.size ≤ w1.heap.size := hb1.size
  have hl0 : L.length ≠ 0 := fun e => hne (List.eq_nil_of_length_eq_zero e)
  obtain ⟨g, cg, rfl, -, -⟩ := owns_some3 hog hl0
  have hL4 := (gOk_some hok).1
  have hsm : ∀ r ∈ L, r.1.size ≤ 1048576 := fun r hr => by have := ru_small hok r hr; omega
  have hX : Below w.heap.size w (w1.alloc (.cells #[.slice (some ⟨g, 0, none⟩) L.length cg] 26)) := hb1.alloc hb1.size _
  have HF1 : Hid (FsR w w1.heap.size (.slice (some ⟨g, 0, none⟩) L.length cg) L (w1.alloc (.cells #[.slice (some ⟨g, 0, none⟩) L.length cg] 26))) := ⟨hX, box_cell w1 (.slice (some ⟨g, 0, none⟩) L.length cg) 26, inRu_box (o := .cells #[.slice (some ⟨g, 0, none⟩) L.length cg] 26) (inRu_of_own hog hne)⟩
  obtain ⟨u0, u1, u2⟩ := uw_wdZ hok (by omega)
  have HUW := Lib.hid (fun w hg => s_Unpacked (.slice (some ⟨g, 0, none⟩) L.length cg) L w (by omega) hsm hg)
  have h30 : (uwW L).size ≤ 30 := by omega
  have hwl := wd_size u1
  have HSP : Hid (∀ b gp cp n (ps : List Int) X, b ≤ X.heap.size → FsR w w1.heap.size (.slice (some ⟨g, 0, none⟩) L.length cg) L X → PlR b (uwW L).size (.slice (some ⟨gp, 0, none⟩) n cp) (.int .i64 (n : Nat)) n gp cp ps X → Calls Try.prog 8 #[.agg #[.slice (some ⟨g, 0, none⟩) L.length cg], .slice (some ⟨gp, 0, none⟩) n cp] X fun e Y => ∃ v d, e = .returned (.tuple #[v, .int .i64 0]) ∧ SrtF (uwW L) d ps n ∧ Y.ownsRow b 2 1 v n (d.map (Value.int .i64)) ∧ Y.ownsRow b 2 1 (.slice (some ⟨gp, 0, none⟩) n cp) n (ps.map (Value.int .i64)) ∧ FsR w w1.heap.size (.slice (some ⟨g, 0, none⟩) L.length cg) L Y) := by
    intro b gp cp n ps X hb hF hP
    obtain ⟨-, p1, -, p2, p3, p4⟩ := hP
    refine (i_SortParts (some ⟨g, 0, none⟩) cg L gp cp n ps X hne hok hsm hF.2.2 (letC_wd hok hne habc) (by omega) p1 p2 (fun k hk => own_get p4 p2 hk) (fun x hx => by have := p3 x hx; omega)).mono ?_
    rintro e Y ⟨v, d, rfl, d1, d2, d3, d4, d5⟩
    exact ⟨v, d, rfl, srt_of u1 d1 p2 d2 d3 p3, owns_weak d4 hb, owns_after p4 d5, hF.bel d5⟩
  have HLT : Hid (∀ (i : Nat) X, i ≤ (uwW L).size → FsR w w1.heap.size (.slice (some ⟨g, 0, none⟩) L.length cg) L X → Calls Try.prog 9 #[.agg #[.slice (some ⟨g, 0, none⟩) L.length cg], .int .i64 i] X fun e Y => ∃ N : Nat, e = .returned (.tuple #[.int .i64 N, .int .i64 0]) ∧ i + 2 * N ≤ (uwW L).size ∧ (((uwW L).extract i (i + N)).toList == ((uwW L).extract (i + N) (i + 2 * N)).toList) = true ∧ (∀ k : Nat, N < k → i + 2 * k ≤ (uwW L).size → (((uwW L).extract i (i + k)).toList == ((uwW L).extract (i + k) (i + 2 * k)).toList) = false) ∧ Below w.heap.size w Y) := by
    intro i X hi hF
    obtain ⟨N, n1, n2, n3, n4, n5⟩ := tw_facts hok u1 u2 h30 i hi
    refine (i_LongestTwice _ L i X (by omega) hsm hF.2.2).mono ?_
    rintro e Y ⟨rfl, hb⟩
    exact ⟨N, by rw [n1, n2], n3, n4, n5, hF.1.trans (hb.mono hF.1.size)⟩
  have HAT : Hid (∀ (t n : Int) X, 0 ≤ t → Below w.heap.size w X → Calls Try.prog 7 #[v2, .int .i64 t, .int .i64 n] X fun e Y => ∃ x : Nat, e = .returned (.int .i64 x) ∧ (x = 0 ∨ (x : Int) < n) ∧ Qt X Y) :=
    fun t n X ht hb => l_a2AtI v2 l2 t n X ht (inRow_below H1.out hb)
  clear hog hb1 hX hok hne hL30 habc hsm H0 H1 HL hl0 hL4 hl h0b h0c h1b h1c u0 u1 u2 hwl
  generalize uwW L = X at *
  generalize L.length = ll at *
  go_wp2_with fail
  refine (HUW.out _ HF1.out.2.2).mono ?_
  rintro e w2 ⟨rfl, hb2⟩
  have HF2 := Lib.hid (HF1.out.bel hb2)
  clear HF1 HUW hb2
  have hw2 := HF2.out.1.size
  have hal := (Below.refl w2.heap.size w2).alloc (Nat.le_refl _) (.cells #[] 2)
  have HB3 := Lib.hid hal
  have HO3 : Hid ((w2.alloc (.cells #[] 2)).ownsRow w2.heap.size 2 1 (.slice (some ⟨w2.heap.size, 0, none⟩) 0 0) 0 []) := World.ownsRow_made w2 #[] 0 (Nat.le_refl _) (by decide) (by simp)
  clear hal
  go_wp2
  go_loopw [7, 8] (fun p k wr => ∃ (n gp cp : Nat) (ps : List Int), PlR w2.heap.size X.size p k n gp cp ps wr ∧ Below w2.heap.size w2 wr) (fun _ k _ => 4 - (intOf k).toNat)
  case atStart => exact ⟨0, w2.heap.size, 0, [], ⟨rfl, by omega, rfl, rfl, (fun x hx => by cases hx), HO3.out⟩, HB3.out⟩
  case round =>
    obtain ⟨n, gp, cp, ps, ⟨rfl, hn4, rfl, hpl, hpr, hown⟩, hb⟩ := hrel
    have HP := Lib.hid (And.intro hpl (And.intro hpr hown))
    have HB := Lib.hid hb
    clear HB3 HO3 hpl hpr hown hb
    go_wp2_with fail
    refine (HAT.out 0 5 _ (by omega) (HF2.out.bel HB.out).1).mono ?_
    rintro e w4 ⟨x, rfl, hx, ⟨q4, rfl⟩⟩
    have hbq := below_drewN (Below.refl wr.heap.size wr) q4
    have HB4 := Lib.hid (HB.out.trans (hbq.mono HB.out.size))
    have HO4 := Lib.hid (owns_after HP.out.2.2 hbq)
    have HPP := Lib.hid (And.intro HP.out.1 HP.out.2.1)
    clear HB HP hbq
    generalize wr.drewN q4 = w4 at *
    by_cases hlt : (n : Int) < (x : Int)
    · go_wp2_with fail
      refine (HAT.out _ _ _ (by omega) (HF2.out.bel HB4.out).1).mono ?_
      rintro e w5 ⟨y, rfl, hy, ⟨q5, rfl⟩⟩
      have hbq := below_drewN (Below.refl w4.heap.size w4) q5
      have HB5 := Lib.hid (HB4.out.trans (hbq.mono HB4.out.size))
      have HO5 := Lib.hid (owns_after HO4.out hbq)
      clear HB4 HO4 hbq
      generalize w4.drewN q5 = w5 at *
      have hw5 := HB5.out.size
      go_wp2_with (at_builtin; refine app_i64 rfl (.tmp 34) (.tmp 42) rfl w2.heap.size _ _ _ _ _ _ rfl HO5.out rfl (by simp) (by omega) hw5 ?_; intro v' w6 ho6 hb6 hsz6; obtain ⟨g6, c6, rfl, -, -⟩ := owns_some3 ho6 (by omega))
      go_roundw
      case rel => exact ⟨n + 1, g6, c6, ps ++ [(y : Int)], ⟨by go_num, by omega, rfl, by simp [HPP.out.1], (fun z hz => by
        rcases List.mem_append.1 hz with hz | hz
        · exact HPP.out.2 z hz
        · simp at hz; omega), by simpa using ho6⟩, HB5.out.trans hb6⟩
      case measure => first | (simp [intOf]; done) | (simp [intOf]; omega)
    · clear hx
      have HF4 := Lib.hid (HF2.out.bel HB4.out)
      have HSP4 := Lib.hid (HSP.out w2.heap.size gp cp n ps w4 HB4.out.size HF4.out ⟨rfl, hn4, rfl, HPP.out.1, HPP.out.2, HO4.out⟩)
      have c4 := HF4.out.2.1
      clear HO4 HPP HB4 HSP
      go_wp2_with fail
      refine HSP4.out.mono ?_
      rintro e w5 ⟨vd, d, rfl, hs, ho1, ho2, hF⟩
      obtain ⟨ad, cd, rfl, had, -⟩ := owns_sl3 ho1
      have HS := Lib.hid hs
      have HO1 := Lib.hid ho1
      have HO2 := Lib.hid ho2
      have HF5 := Lib.hid hF
      clear HSP4 HF4 hs ho1 ho2 hF c4 HF2
      go_wp2
      go_loopw [11, 12, 13, 14] (fun i _ _ _ wr => Below w5.heap.size w5 wr ∧ ∃ k : Nat, k ≤ n ∧ i = .int .i64 k) (fun i _ _ _ _ => n - (intOf i).toNat)
      case atStart => exact ⟨Below.refl _ _, 0, by omega, rfl⟩
      case round =>
        obtain ⟨hb, k, hk, rfl⟩ := hrel
        have HB := Lib.hid hb
        clear hb
        by_cases hlt : k < n
        · obtain ⟨gd, rfl⟩ := had (by omega)
          have hki : (k : Int) < (n : Int) := by omega
          have ck := own_get (owns_after HO1.out HB.out) HS.out.len hlt
          obtain ⟨a, ha, haX⟩ := HS.out.at_ k hlt
          have haI : ¬ (a : Int) > (X.size : Int) := by omega
          have haJ : (a : Int) ≤ (X.size : Int) := by omega
          rw [ha] at ck
          go_upto_region 16 with fail
          go_cut [98] (fun s98 wx => s98 = .bool false ∧ Below w5.heap.size w5 wx)
          case first =>
            by_cases hk0 : k = 0
            · subst hk0
              have hd1 : decide ((a : Int) < 0) = false := decide_eq_false (by omega)
              have hd2 : decide ((a : Int) > (X.size : Int)) = false := decide_eq_false (by omega)
              go_big_quiet (fail)
              go_wp2
              go_meet
              exact ⟨rfl, below_drewN HB.out nq⟩
            · obtain ⟨j, hj⟩ : ∃ j, k = j + 1 := ⟨k - 1, by omega⟩
              have hij : (k : Int) - 1 = (j : Int) := by omega
              have hjk : j < n := by omega
              have cj := own_get (owns_after HO1.out HB.out) HS.out.len hjk
              obtain ⟨b, hb, hbX⟩ := HS.out.at_ j hjk
              have hle := HS.out.le j b a (by omega) hb (by rw [← hj]; exact ha)
              rw [hb] at cj
              have hbJ : (b : Int) ≤ (X.size : Int) := by omega
              have hjI : (j : Int) < (n : Int) := by omega
              have hd0 : (k : Int) > 0 := by omega
              clear hj hk0 ha hb
              have hd1 : decide ((a : Int) < 0) = false := decide_eq_false (by omega)
              have hd2 : decide ((a : Int) > (X.size : Int)) = false := decide_eq_false (by omega)
              have hd3 : decide ((k : Int) > 0) = true := decide_eq_true (by omega)
              have hd4 : decide (0 < k) = true := decide_eq_true (by omega)
              go_big_quiet (fail)
              go_wp2
              go_meet
              exact ⟨rfl, below_drewN HB.out nq⟩
          case rest =>
            obtain ⟨rfl, hbx⟩ := hcut
            have HBX := Lib.hid hbx
            have HA := Lib.hid ha
            clear hbx HB haI haJ ha ck
            go_wp2
            go_loopw [12, 13, 14] (fun b c i wy => Below w5.heap.size w5 wy ∧ ∃ q : Nat, q ≤ n ∧ i = .int .i64 q ∧ b = .int .i64 (cnT ps a q : Nat) ∧ c = .int .i64 (cnT d a q : Nat)) (fun _ _ i _ => n - (intOf i).toNat)
            case atStart => exact ⟨HBX.out, 0, by omega, rfl, rfl, rfl⟩
            case round =>
              obtain ⟨hby, q, hq, rfl, rfl, rfl⟩ := hrel
              have HBY := Lib.hid hby
              clear hby HBX
              by_cases hlt2 : q < n
              · have hqi : (q : Int) < (n : Int) := by omega
                have cq := own_get (owns_after HO2.out HBY.out) HS.out.len2 hlt2
                have cr := own_get (owns_after HO1.out HBY.out) HS.out.len hlt2
                have ck := own_get (owns_after HO1.out HBY.out) HS.out.len hlt
                rw [HA.out] at ck
                have s1 := cnT_step (xs := ps) (x := (a : Int)) (show q < ps.length by rw [HS.out.len2]; exact hlt2)
                have s2 := cnT_step (xs := d) (x := (a : Int)) (show q < d.length by rw [HS.out.len]; exact hlt2)
                have b1 := cnT_le ps a q
                have b2 := cnT_le d a q
                generalize ps.getD q 0 = x1 at *
                generalize d.getD q 0 = x2 at *
                generalize cnT ps a q = y1 at *
                generalize cnT d a q = y2 at *
                have HS1 := Lib.hid s1
                have HS2 := Lib.hid s2
                clear s1 s2
                have hx12 : (x1 = (a : Int) ∨ x1 ≠ (a : Int)) ∧ (x2 = (a : Int) ∨ x2 ≠ (a : Int)) := ⟨Classical.em _, Classical.em _⟩
                rcases hx12 with ⟨rfl | h1, rfl | h2⟩
                all_goals
                  go_wp2
                  go_big_quiet (fail)
                  have hb9 := below_drewN HBY.out nq
                  have HB9 := Lib.hid hb9
                  have cr9 := cell_later (below_drewN (Below.refl wr.heap.size wr) nq) cr
                  have ck9 := cell_later (below_drewN (Below.refl wr.heap.size wr) nq) ck
                  clear hb9 cr ck cq HBY
                  generalize wr.drewN nq = w9 at *
                  go_wp2
                  go_big_quiet (fail)
                  have hb10 := below_drewN HB9.out nq
                  go_wp2
                  go_roundw
                  case rel => exact ⟨hb10, q + 1, by omega, by go_num, by rw [HS1.out]; simp [*], by rw [HS2.out]; simp [*]⟩
                  case measure => first | (simp [intOf]; done) | (simp [intOf]; omega)
              · obtain rfl : q = n := by omega
                have e1 := cnT_all (x := (a : Int)) HS.out.len2
                have e2 := cnT_all (x := (a : Int)) HS.out.len
                have e3 := HS.out.cnt a
                rw [e1, e2, e3]
                clear e1 e2 e3
                generalize d.count (a : Int) = y at *
                go_wp2
                go_roundw
                case rel => exact ⟨HBY.out, k + 1, by omega, by go_num⟩
                case measure => first | (simp [intOf]; done) | (simp [intOf]; omega)
        · have HF6 := Lib.hid (HF5.out.bel HB.out)
          have hki : ¬ (k : Int) < (n : Int) := by omega
          clear HO1 HO2 HS HB HF5 had hlt
          go_wp2_with fail
          refine (HAT.out 6 _ _ (by omega) HF6.out.1).mono ?_
          rintro e w6 ⟨i, rfl, hi, ⟨q6, rfl⟩⟩
          have HF7 := Lib.hid (HF6.out.bel (below_drewN (Below.refl wr.heap.size wr) q6))
          have hiX : i ≤ X.size := by omega
          clear HF6 hi
          generalize wr.drewN q6 = w6 at *
          have c6 := HF7.out.2.1
          go_wp2_with fail
          refine (HLT.out i _ hiX HF7.out).mono ?_
          rintro e w7 ⟨N, rfl, n1, n2, n3, hb7⟩
          have HB7 := Lib.hid hb7
          have HN3 := Lib.hid n3
          clear HF7 c6 hb7 n3 HLT HAT
          have hm : IntKind.i64.wrap (2 * (N : Int)) = 2 * (N : Int) := IntWalk.i64_in _ (by omega)
          go_wp2
          have hd1 : decide ((N : Int) < 0) = false := decide_eq_false (by omega)
          have hd2 : decide (2 * (N : Int) > (X.size : Int) - (i : Int)) = false := decide_eq_false (by omega)
          go_big_quiet (fail)
          have HB8 := Lib.hid (below_drewN HB7.out nq)
          clear HB7 n2 hd1 hd2 hm
          go_wp2
          go_loopw [19] (fun k wr => Below w.heap.size w wr ∧ ∃ q : Nat, N < q ∧ q ≤ 31 ∧ k = .int .i64 q) (fun k _ => 40 - (intOf k).toNat)
          case atStart => exact ⟨HB8.out, N + 1, by omega, by omega, by go_num⟩
          case round =>
            obtain ⟨hb9, q, hNq, hq, rfl⟩ := hrel
            have HB9 := Lib.hid hb9
            clear hb9 HB8
            have hm : IntKind.i64.wrap (2 * (q : Int)) = 2 * (q : Int) := IntWalk.i64_in _ (by omega)
            by_cases hlt : i + 2 * q ≤ X.size
            · have hn := HN3.out q hNq hlt
              have hlI : 2 * (q : Int) ≤ (X.size : Int) - (i : Int) := by omega
              go_wp2
              go_big_quiet (fail)
              have hb10 := below_drewN HB9.out nq
              go_wp2
              go_roundw
              case rel => exact ⟨hb10, q + 1, by omega, by omega, by go_num⟩
              case measure => first | (simp [intOf]; done) | (simp [intOf]; omega)
            · have hlI : ¬ 2 * (q : Int) ≤ (X.size : Int) - (i : Int) := by omega
              go_wp2
              go_ret
              exact ⟨rfl, HB9.out⟩
end Go.Proofs.Ytecmnebppngcbaa

/- WordOfRuns of the reference, and the law. -/
import Derived.Test.YtdighfjoechbkaaM2
namespace Go.Proofs.Ytdighfjoechbkaa
open Go.ChangeShapes Go.WideShapes Go.RowKit
set_option linter.unusedVariables false
set_option linter.unusedSimpArgs false
set_option maxHeartbeats 4000000
set_option maxRecDepth 100000
theorem p1_t {a : ByteArray} {x : Int} (h : a.size = 1) (h2 : validB a = false) : p1B (a, x) = true := by simp [p1B, h2]
theorem p1_n {a : ByteArray} {x : Int} (h : a.size = 1) (h2 : validB a = true) : p1B (a, x) = false := by simp [p1B, h, h2]
theorem s_WordOfRuns (l : List (ByteArray × Int)) (g cap base : Nat) (w : World) (hn : l.length ≤ 1048576) (hsz : ∀ r ∈ l, r.1.size ≤ 1048576) (ho : w.ownsRow base 66 2 (.slice (some ⟨g, 0, none⟩) l.length cap) l.length (rnV l)) :
    Calls Try.prog 42 #[.slice (some ⟨g, 0, none⟩) l.length cap] w fun e w' => e = .returned (.tuple #[.string (wrW l), .int .i64 (wrC l)]) ∧ Below w.heap.size w w' := by
  have hgl := (ho.lt g rfl).2
  have HSZ : Hid (∀ t, t < l.length → (rnA l t).1.size ≤ maxLen) := by
    intro t ht
    have := hsz (rnA l t) (by rw [rnA, List.getD, List.getElem?_eq_getElem ht]; exact List.getElem_mem ht)
    unfold maxLen; omega
  have HO := Lib.hid ho
  clear hsz ho
  go_enter Try.func42, Try.ntmps42
  go_wp2
  go_loop [4] (fun i => ∃ k : Nat, k ≤ l.length ∧ i = .int .i64 k ∧ ∀ t, t < k → p1B (rnA l t) = false) (fun i => l.length - (intOf i).toNat)
  case atStart => exact ⟨0, by omega, rfl, fun t ht => by omega⟩
  case round =>
    obtain ⟨k, hk, rfl, hall⟩ := hrel
    have HA := Lib.hid hall
    clear hall
    by_cases hlt : k < l.length
    · have hc0 := cell_0 HO.out hlt
      have hszk := HSZ.out k hlt
      have hin : ((k : Nat) : Int) < l.length := by omega
      have HBAD : Hid (p1B (rnA l k) = true → wrW l = ⟨#[]⟩ ∧ wrC l = 1) := fun h => wr1 (any_hit hlt h)
      have HGOOD : Hid (p1B (rnA l k) = false → ∀ t, t < k + 1 → p1B (rnA l t) = false) := by
        intro h t ht
        by_cases he : t = k
        · subst he; exact h
        · exact HA.out t (by omega)
      have HE : Hid (rnA l k = ((rnA l k).1, (rnA l k).2)) := rfl
      rw [HE.out] at HBAD HGOOD
      clear HE
      by_cases h1 : (rnA l k).1.size = 1
      · have hb1 : (((rnA l k).1.size : Int) != 1) = false := by simp [h1]
        cases hv : validB (rnA l k).1
        · have HF := Lib.hid (HBAD.out (p1_t h1 hv))
          clear h1 HBAD HGOOD
          generalize (rnA l k).1 = x1 at *
          go_wp2_with (go_at_call 58; refine (s_l01Ok _ _ (by assumption)).mono ?_; rintro e w' ⟨rfl, rfl⟩)
          go_ret2
          exact ⟨ret_si HF.out.1.symm HF.out.2.symm, Below.refl _ _⟩
        · have HF := Lib.hid (HGOOD.out (p1_n h1 hv))
          clear h1 HBAD HGOOD
          generalize (rnA l k).1 = x1 at *
          go_wp2_with (go_at_call 58; refine (s_l01Ok _ _ (by assumption)).mono ?_; rintro e w' ⟨rfl, rfl⟩)
          go_round
          case rel => exact ⟨k + 1, by omega, by go_num, HF.out⟩
          case measure => first | (simp [intOf]; done) | (simp [intOf]; omega)
      · have hb1 : (((rnA l k).1.size : Int) != 1) = true := by simp; omega
        have HF := Lib.hid (HBAD.out (p1_size h1))
        clear h1 HBAD HGOOD
        generalize (rnA l k).1 = x1 at *
        go_wp2
        go_ret2
        exact ⟨ret_si HF.out.1.symm HF.out.2.symm, Below.refl _ _⟩
    · have ek : k = l.length := by omega
      have h1 : l.any p1B = false := any_none (by rw [← ek]; exact HA.out)
      have HA1 := Lib.hid (fun k => any_at (k := k) h1)
      have HW2 := Lib.hid (wr2 h1)
      have HW4 := Lib.hid (wr4 h1)
      have HW3 := Lib.hid (wr3 h1)
      have HW0 := Lib.hid (fun acc => wr0 (acc := acc) h1)
      clear h1 ek HA
      go_wp2
      go_loop [5] (fun i => ∃ k : Nat, k ≤ l.length ∧ i = .int .i64 k ∧ ∀ t, t < k → p2B (rnA l t) = false) (fun i => l.length - (intOf i).toNat)
      case atStart => exact ⟨0, by omega, rfl, fun t ht => by omega⟩
      case round =>
        obtain ⟨k2, hk2, rfl, hall⟩ := hrel
        have HA := Lib.hid hall
        clear hall
        by_cases hlt2 : k2 < l.length
        · have hc1 := cell_1 HO.out hlt2
          have hin : ((k2 : Nat) : Int) < l.length := by omega
          by_cases h1 : (rnA l k2).2 < 1
          · have HF : Hid (wrW l = ⟨#[]⟩ ∧ wrC l = 2) := HW2.out (any_hit hlt2 (by simp [p2B, h1]))
            generalize (rnA l k2).2 = x2 at *
            go_wp2
            go_ret2
            exact ⟨ret_si HF.out.1.symm HF.out.2.symm, Below.refl _ _⟩
          · have HF : Hid (∀ t, t < k2 + 1 → p2B (rnA l t) = false) := by
              intro t ht
              by_cases he : t = k2
              · subst he; simp [p2B]; omega
              · exact HA.out t (by omega)
            have h2 : 1 ≤ (rnA l k2).2 := by omega
            generalize (rnA l k2).2 = x2 at *
            go_wp2
            go_round
            case rel => exact ⟨k2 + 1, by omega, by go_num, HF.out⟩
            case measure => first | (simp [intOf]; done) | (simp [intOf]; omega)
        · have ek : k2 = l.length := by omega
          have h1 : l.any p2B = false := any_none (by rw [← ek]; exact HA.out)
          have HA2 := Lib.hid (fun k => any_at (k := k) h1)
          have HX4 := Lib.hid (HW4.out h1)
          have HX3 := Lib.hid (HW3.out h1)
          have HX0 := Lib.hid (fun acc => HW0.out acc h1)
          clear h1 ek HA
          go_wp2
          go_loopw [6] (fun i wr => Qt w wr ∧ ∃ k : Nat, 1 ≤ k ∧ (k ≤ l.length ∨ k = 1) ∧ i = .int .i64 k ∧ dupT l k = false) (fun i _ => l.length + 1 - (intOf i).toNat)
          case atStart => exact ⟨Qt.refl _, 1, by omega, by omega, rfl, rfl⟩
          case round =>
            obtain ⟨⟨q, rfl⟩, k3, hk1, hk3, rfl, hdup⟩ := hrel
            have HD := Lib.hid hdup
            clear hdup
            by_cases hlt3 : k3 < l.length
            · obtain ⟨j, rfl⟩ : ∃ j, k3 = j + 1 := ⟨k3 - 1, by omega⟩
              have hc1 := cell_0 HO.out hlt3
              have hc0 := cell_0 HO.out (show j < l.length by omega)
              have HS : Hid (dupT l (j + 1 + 1) = (dupT l (j + 1) || ((rnA l (j + 1)).1.toList == (rnA l j).1.toList))) := rfl
              have hin : ((j + 1 : Nat) : Int) < l.length := by omega
              have hin2 : (j : Int) + 1 < l.length := by omega
              have hin3 : (j : Int) < l.length := by omega
              have hin4 : (0 : Int) ≤ (j : Int) + 1 := by omega
              clear hk1 hk3
              cases he : ((rnA l (j + 1)).1.toList == (rnA l j).1.toList)
              · have HN : Hid (dupT l (j + 1 + 1) = false) := by show _ = _; rw [HS.out, HD.out, he]; rfl
                clear HS
                generalize (rnA l (j + 1)).1 = x1 at *
                generalize (rnA l j).1 = x0 at *
                go_wp2
                go_quiet (fail)
                go_wp2
                go_roundw
                case rel => exact ⟨(by first | exact Qt.refl _ | exact ⟨_, rfl⟩ | exact qt_dd _ _ _ | assumption), j + 1 + 1, by omega, by omega, by go_num, HN.out⟩
                case measure => first | (simp [intOf]; done) | (simp [intOf]; omega)
              · have HF : Hid (wrW l = ⟨#[]⟩ ∧ wrC l = 4) := by
                  apply HX4.out
                  have h : dupT l (j + 1 + 1) = true := by rw [HS.out, HD.out, he]; rfl
                  have h2 := dupT_hit h (l.length - (j + 1 + 1))
                  rwa [show j + 1 + 1 + (l.length - (j + 1 + 1)) = l.length by omega] at h2
                clear HS
                generalize (rnA l (j + 1)).1 = x1 at *
                generalize (rnA l j).1 = x0 at *
                go_wp2
                go_quiet (fail)
                go_wp2
                go_ret2
                exact ⟨ret_si HF.out.1.symm HF.out.2.symm, Qt.below (by first | exact Qt.refl _ | exact ⟨_, rfl⟩ | exact qt_dd _ _ _ | assumption) _⟩
            · have HD2 : Hid (dupT l l.length = false) := by
                show _ = _
                by_cases h : k3 = l.length
                · rw [← h]; exact HD.out
                · have : l.length = 0 := by omega
                  rw [this]; rfl
              have hlt0 : ¬ (k3 : Int) < l.length := by omega
              have HB0 : Hid (Below w.heap.size w (w.drewN q)) := below_drewN (Below.refl _ _) q
              clear hk3
              go_wp2
              go_loopw [7, 8, 9] (fun left out i wr => Below w.heap.size w wr ∧ ∃ (k : Nat) (acc : ByteArray), k ≤ l.length ∧ i = .int .i64 k ∧ out = .string acc ∧ left = .int .i64 (2000 - (acc.size : Int)) ∧ acc.size ≤ 2000 ∧ wrT l k = some acc) (fun _ _ i _ => l.length - (intOf i).toNat)
              case atStart => exact ⟨HB0.out, 0, ⟨#[]⟩, by omega, rfl, rfl, rfl, by show 0 ≤ 2000; omega, rfl⟩
              case round =>
                obtain ⟨hb, t, acc, ht, rfl, rfl, rfl, hacc, hwr⟩ := hrel
                have HWR := Lib.hid hwr
                clear hwr
                by_cases hlt : t < l.length
                · have hown := owns_below HO.out hb (fun j hj => by injection hj with hj; subst hj; exact hgl)
                  have hc0 := cell_0 hown hlt
                  have hc1 := cell_1 hown hlt
                  have hp1 := p1_f (HA1.out t hlt)
                  have hp2 := p2_f (HA2.out t hlt)
                  have HBAD := Lib.hid (wrT_bad HWR.out)
                  have HOK := Lib.hid (wrT_ok HWR.out)
                  have hrs := repS_size (rnA l t).1 (rnA l t).2.toNat
                  have hin : ((t : Nat) : Int) < l.length := by omega
                  have HB2 := Lib.hid hb
                  have hsz2 := hb.size
                  have HP1 := Lib.hid hp1.1
                  clear hown hb hp1
                  obtain ⟨m, hm⟩ := Int.eq_ofNat_of_zero_le (show 0 ≤ (rnA l t).2 by omega)
                  rw [hm] at hc1 hp2 HBAD HOK hrs
                  rw [HP1.out, Nat.mul_one] at hrs
                  simp only [Int.toNat_natCast] at hrs HOK
                  have HR := Lib.hid (fun w (h : m ≤ 2000) => s_l01Times (rnA l t).1 m w (by omega) (by rw [HP1.out]; omega) (by rw [HP1.out]; omega))
                  clear hm HP1
                  by_cases hbad : (2000 : Int) - acc.size < m
                  · have HF : Hid (wrW l = ⟨#[]⟩ ∧ wrC l = 3) := by
                      refine HX3.out HD2.out ?_
                      have h2 := wrT_none (HBAD.out hbad) (l.length - (t + 1))
                      rwa [show t + 1 + (l.length - (t + 1)) = l.length by omega] at h2
                    clear HBAD HOK hrs HR
                    generalize (rnA l t).1 = x1 at *
                    go_wp2
                    go_ret2
                    exact ⟨ret_si HF.out.1.symm HF.out.2.symm, HB2.out⟩
                  · have hm2 : m ≤ 2000 := by omega
                    have HN := Lib.hid (HOK.out hbad)
                    have HR2 := Lib.hid (fun w => HR.out w hm2)
                    have hbad2 : (m : Int) ≤ 2000 - acc.size := by omega
                    clear HBAD HOK HR
                    generalize repS (rnA l t).1 m = rr at *
                    generalize (rnA l t).1 = x1 at *
                    have hsum : (acc ++ rr).size = acc.size + rr.size := by rw [ByteArray.size_append]
                    have HSUM : Hid ((acc ++ rr).size ≤ 2000) := by show _ ≤ _; rw [hsum, hrs]; omega
                    have HSUM2 : Hid ((2000 : Int) - acc.size - m = 2000 - ((acc ++ rr).size : Int)) := by show _ = _; rw [hsum, hrs]; omega
                    have hrr : rr.size ≤ 2000 := by omega
                    have hg2 : g < wr.heap.size := by omega
                    have hcat1 : acc.size + rr.size ≤ 9223372036854775807 := by omega
                    have hcat2 : (acc.size : Int) + (rr.size : Int) ≤ 9223372036854775807 := by omega
                    have hcat3 : ¬ (9223372036854775807 < acc.size + rr.size) := by omega
                    have hcat4 : ∀ w : World, (Op.stringOp .add acc rr).run Try.prog w = .ok (.string (acc ++ rr)) w := fun w => run_string_add_sum w acc rr hcat1
                    clear hsum hrs
                    go_wp2
                    go_region_held3 (fun w' => w'.cell? ⟨g, t * 2, none⟩ = some (.string x1) ∧ w'.cell? ⟨g, t * 2 + 1, none⟩ = some (.int .i64 m)) (first | go_keep | (go_split_ands; refine ⟨?_, ?_⟩ <;> (rw [hb5.cell (by simp; omega)]; assumption))) ((go_at_call 70; refine (HR2.out _).mono ?_; rintro e w5 ⟨rfl, hb5⟩))
                    have HB5 := Lib.hid ((HB2.out.drew).trans (hb5.mono (by simp; omega)))
                    clear hb5
                    go_wp2
                    go_roundw
                    case rel => exact ⟨HB5.out, t + 1, _, by omega, by go_num, rfl, by rw [HSUM2.out], HSUM.out, HN.out⟩
                    case measure => first | (simp [intOf]; done) | (simp [intOf]; omega)
                · have et : t = l.length := by omega
                  have HF : Hid (wrW l = acc ∧ wrC l = 0) := HX0.out acc HD2.out (by rw [← et]; exact HWR.out)
                  clear et
                  go_wp2
                  go_ret2
                  exact ⟨ret_si HF.out.1.symm HF.out.2.symm, hb⟩
theorem walk_FnExactWordOfRuns (v : Value) (l : List (ByteArray × Int)) (w : World) (hin : InRow w v l.length 2 (rnV l)) (hl : l.length ≤ 9223372036854775807) (hsz : ∀ r ∈ l, r.1.size ≤ 9223372036854775807) : Calls Try.prog 10 #[v] w fun e w' => e = .returned (.bool true) ∧ Below w.heap.size w w' := by
  have HIN := Lib.hid hin
  have HSZ := Lib.hid hsz
  clear hsz hin
  go_enter Try.func10, Try.ntmps10
  go_wp2_with fail
  refine (l_szRunS v l w HIN.out hl HSZ.out).mono ?_
  rintro e w1 ⟨hb1, rfl | ⟨n, rfl, hn, hln, hs1⟩⟩
  · go_wp2
    go_ret
    exact ⟨rfl, hb1⟩
  have HS1 := Lib.hid hs1
  clear hs1
  have i1 := inRow_below HIN.out hb1
  go_wp2_with fail
  refine (l_toRunS v l w1 hln i1).mono ?_
  rintro e w2 ⟨g2, c2, rfl, ho2, hb2⟩
  have i2 := inRow_below i1 hb2
  go_wp2_with fail
  refine (s_WordOfRuns l g2 c2 _ w2 hln HS1.out ho2).mono ?_
  rintro e w3 ⟨rfl, hb3⟩
  have i3 := inRow_below i2 hb3
  go_wp2_with fail
  refine (l_toRunS v l w3 hln i3).mono ?_
  rintro e w4 ⟨g4, c4, rfl, ho4, hb4⟩
  have i4 := inRow_below i3 hb4
  go_wp2_with fail
  refine (i_WordOfRuns l g4 c4 _ w4 hln HS1.out ho4).mono ?_
  rintro e w5 ⟨rfl, hb5⟩
  have i5 := inRow_below i4 hb5
  go_wp2_with fail
  refine (l_toRunS v l w5 hln i5).mono ?_
  rintro e w6 ⟨g6, c6, rfl, ho6, hb6⟩
  go_wp2_with fail
  refine (l_eqRunS _ _ l _ _ w6 (owns_after (owns_after ho4 hb5) hb6) ho6 (by omega)).mono ?_
  rintro e w7 ⟨rfl, hb7⟩
  go_wp2
  go_ret
  have s1 := hb1.size
  have s2 := hb2.size
  have s3 := hb3.size
  have s4 := hb4.size
  have s5 := hb5.size
  have s6 := hb6.size
  exact ⟨rfl, (((((hb1.trans (hb2.mono (by omega))).trans (hb3.mono (by omega))).trans (hb4.mono (by omega))).trans (hb5.mono (by omega))).trans (hb6.mono (by omega))).trans (hb7.mono (by omega))⟩
end Go.Proofs.Ytdighfjoechbkaa

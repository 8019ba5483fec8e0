/- FnFamous: the words of Fibonacci and of Thue. -/
import Derived.Test.YtdighfjoechbkaaP3
import Derived.Test.YtdighfjoechbkaaB4
import Derived.Test.YtdighfjoechbkaaB5
namespace Go.Proofs.Ytdighfjoechbkaa
open Go.ChangeShapes Go.WideShapes Go.RowKit
set_option linter.unusedVariables false
set_option linter.unusedSimpArgs false
set_option maxHeartbeats 1000000
set_option maxRecDepth 100000
def fibL : Nat → List UInt8
  | 0 => [98]
  | 1 => [97]
  | k + 2 => fibL (k + 1) ++ fibL k
theorem fibL_eq : ∀ k, (fibw k).data.toList = fibL k ∧ (fibw (k + 1)).data.toList = fibL (k + 1)
  | 0 => ⟨rfl, rfl⟩
  | k + 1 => by
    have ih := fibL_eq k
    refine ⟨ih.2, ?_⟩
    show (fibw (k + 1) ++ fibw k).data.toList = fibL (k + 1) ++ fibL k
    rw [ByteArray.data_append, Array.toList_append, ih.1, ih.2]
theorem fib_pal0 : ((List.range 12).all fun n => ((fibL (n + 2)).take ((fibL (n + 2)).length - 2)).reverse == (fibL (n + 2)).take ((fibL (n + 2)).length - 2)) = true := by decide +kernel
theorem fib_pal (n : Nat) (h : n < 12) : revS ((fibw (n + 2)).extract 0 ((fibw (n + 2)).size - 2)) = (fibw (n + 2)).extract 0 ((fibw (n + 2)).size - 2) := by
  have h1 := List.all_eq_true.1 fib_pal0 n (List.mem_range.2 h)
  rw [beq_iff_eq] at h1
  have hs : (fibw (n + 2)).size = (fibL (n + 2)).length := by rw [← (fibL_eq (n + 2)).1]; simp
  have e : ((fibw (n + 2)).extract 0 ((fibw (n + 2)).size - 2)).data.toList = (fibL (n + 2)).take ((fibL (n + 2)).length - 2) := by
    rw [ByteArray.data_extract, Array.toList_extract, (fibL_eq (n + 2)).1, hs]
    rfl
  apply ByteArray.ext
  apply Array.toList_inj.1
  show (((fibw (n + 2)).extract 0 ((fibw (n + 2)).size - 2)).data.toList.reverse.toArray).toList = _
  rw [e]
  simpa using h1
theorem fib_ok : ((List.range 14).all fun m => !(badB fibw m)) = true := by
  rw [List.all_eq_true]
  intro m hm
  rw [List.mem_range] at hm
  have : badB fibw m = false := by
    unfold badB
    rw [List.any_eq_false]
    intro k hk
    rw [List.mem_range] at hk
    rw [(fibw_len (k + 1)).1]
    have : ∀ j, j ≤ 13 → fibl j ≤ 2000 := by decide
    have := this (k + 1) (by omega)
    simp; omega
  rw [this]; rfl
theorem fib_gr (m : Nat) (h : m ≤ 13) : grW fibw m = fibw m ∧ grC fibw m = 0 := by
  refine gr_ok fibw (by omega) ?_
  have := List.all_eq_true.1 fib_ok m (List.mem_range.2 (by omega))
  simpa using this
def thL : Nat → List UInt8
  | 0 => [97]
  | k + 1 => thL k ++ (thL k).map oth
theorem thL_eq : ∀ k, (thw k).data.toList = thL k
  | 0 => rfl
  | k + 1 => by
    show (thw k ++ othS (thw k)).data.toList = _
    rw [ByteArray.data_append, Array.toList_append, thL_eq k]
    show thL k ++ ((thw k).data.toList.map oth).toArray.toList = _
    rw [thL_eq k]; rfl
def ovl (l : List UInt8) (z i : Nat) : Bool := (((l.drop i).take z) == ((l.drop (i + z)).take z)) && (l.getD i 0 == l.getD (i + 2 * z) 0)
theorem th_ovl0 : ((List.range 7).all fun k => (List.range 32).all fun z => (List.range 64).all fun i => !(decide (1 ≤ z) && decide (i + 2 * z < 2 ^ k) && ovl (thL k) z i)) = true := by decide +kernel
theorem th_gr (k : Nat) (h : k ≤ 6) : grW thw k = thw k ∧ grC thw k = 0 := by
  refine gr_ok thw (by omega) ?_
  unfold badB
  rw [List.any_eq_false]
  intro j hj
  rw [List.mem_range] at hj
  rw [thw_size]
  have : 2 ^ (j + 1) ≤ 2 ^ 6 := Nat.pow_le_pow_right (by decide) (by omega)
  simp; omega
/-- no overlap: what the law's test says -/
theorem th_ovl (k z i : Nat) (hk : k ≤ 6) (hz : 1 ≤ z) (hi : i + 2 * z < (thw k).size) (h : (((thw k).extract i (i + z)).toList == ((thw k).extract (i + z) (i + 2 * z)).toList) = true) :
    (((thw k)[i]'(by omega)).toNat : Int) ≠ ((thw k)[i + 2 * z]).toNat := by
  have hi2 := hi
  rw [thw_size] at hi2
  have h64 : 2 ^ k ≤ 2 ^ 6 := Nat.pow_le_pow_right (by decide) hk
  have h1 := List.all_eq_true.1 (List.all_eq_true.1 (List.all_eq_true.1 th_ovl0 k (List.mem_range.2 (by omega))) z (List.mem_range.2 (by omega))) i (List.mem_range.2 (by omega))
  simp only [Bool.not_eq_true', Bool.and_eq_false_iff, decide_eq_false_iff_not] at h1
  rcases h1 with (h1 | h1) | h1
  · exact absurd hz h1
  · exact absurd hi2 h1
  · intro he
    have e1 : ((thw k).extract i (i + z)).toList = (((thL k).drop i).take z) := by
      rw [ByteArray.toList_eq, ByteArray.data_extract, Array.toList_extract, thL_eq]
      show ((thL k).drop i).take (i + z - i) = _
      rw [Nat.add_sub_cancel_left]
    have e2 : ((thw k).extract (i + z) (i + 2 * z)).toList = (((thL k).drop (i + z)).take z) := by
      rw [ByteArray.toList_eq, ByteArray.data_extract, Array.toList_extract, thL_eq]
      show ((thL k).drop (i + z)).take (i + 2 * z - (i + z)) = _
      rw [show i + 2 * z - (i + z) = z by omega]
    rw [e1, e2] at h
    have g1 : (thL k).getD i 0 = (thw k)[i]'(by omega) := by
      rw [← thL_eq, List.getD, get_opt _ _ (by omega)]; rfl
    have g2 : (thL k).getD (i + 2 * z) 0 = (thw k)[i + 2 * z] := by
      rw [← thL_eq, List.getD, get_opt _ _ (by omega)]; rfl
    have : (thw k)[i]'(by omega) = (thw k)[i + 2 * z] := UInt8.toNat_inj.1 (by omega)
    unfold ovl at h1
    rw [h, g1, g2, this] at h1
    simp at h1
theorem s_Turned (s : ByteArray) (w : World) (hs : s.size ≤ 1048576) : Calls Try.prog 53 #[.string s] w fun e w' => e = .returned (.string (revS s)) ∧ Below w.heap.size w w' := by
  go_enter Try.func53, Try.ntmps53
  go_wp2_with fail
  refine (s_l01Turn s _ hs).mono ?_
  rintro e w1 ⟨rfl, hb1⟩
  go_wp2
  go_ret
  exact ⟨rfl, hb1⟩
theorem pow_int (k : Nat) (h : k ≤ 6) : k = 0 ∨ k = 1 ∨ k = 2 ∨ k = 3 ∨ k = 4 ∨ k = 5 ∨ k = 6 := by omega
theorem walk_FnFamous (v : Value) (l : List UInt8) (v2 : Value) (l2 : List UInt8) (w : World) (h0 : InRow w v l.length 1 (u8s l)) (h0b : l.length ≤ 9223372036854775807) (h0c : True) (h1 : InRow w v2 l2.length 1 (u8s l2)) (h1b : l2.length ≤ 9223372036854775807) (h1c : True) :
    Calls Try.prog 14 #[v, v2] w fun e w' => e = .returned (.bool true) ∧ Below w.heap.size w w' := by
  have H0 := Lib.hid h0
  have H1 := Lib.hid h1
  clear h0 h1
  by_cases hlong : 3000 < l.length ∨ 3000 < l2.length
  · have HL : Hid ((decide (3000 < l.length) || decide (3000 < l2.length)) = true) := by show _ = _; simpa using hlong
    clear hlong
    go_enter Try.func14, Try.ntmps14
    go_wp2_with fail
    refine (l_a2Long v v2 _ _ _ _ w H0.out H1.out).mono ?_
    rintro e w1 ⟨rfl, rfl⟩
    rw [HL.out]
    go_wp2
    go_ret
    exact ⟨rfl, Below.refl _ _⟩
  have HL : Hid ((decide (3000 < l.length) || decide (3000 < l2.length)) = false) := by show _ = _; simpa using hlong
  clear hlong
  go_enter Try.func14, Try.ntmps14
  go_wp2_with fail
  refine (l_a2Long v v2 _ _ _ _ w H0.out H1.out).mono ?_
  rintro e w1 ⟨rfl, rfl⟩
  rw [HL.out]
  clear HL
  go_wp2_with fail
  refine (l_a2At v l 0 12 _ H0.out).mono ?_
  rintro e w6 ⟨n, rfl, hn, ⟨q6, rfl⟩⟩
  have hn11 : n ≤ 11 := by omega
  have HF1 : Hid (∀ w, Calls Try.prog 52 #[.int .i64 (n : Int)] w fun e w' => e = .returned (.tuple #[.string (fibw n), .int .i64 0]) ∧ w = w') := by
    intro w; have h := i_FibonacciWord (n : Int) w; rwa [(fib_gr n (by omega)).1, (fib_gr n (by omega)).2] at h
  have HF2 : Hid (∀ w, Calls Try.prog 52 #[.int .i64 ((n : Int) + 1)] w fun e w' => e = .returned (.tuple #[.string (fibw (n + 1)), .int .i64 0]) ∧ w = w') := by
    intro w; have h := i_FibonacciWord ((n + 1 : Nat) : Int) w; rwa [(fib_gr (n + 1) (by omega)).1, (fib_gr (n + 1) (by omega)).2] at h
  have HF3 : Hid (∀ w, Calls Try.prog 52 #[.int .i64 ((n : Int) + 2)] w fun e w' => e = .returned (.tuple #[.string (fibw (n + 1) ++ fibw n), .int .i64 0]) ∧ w = w') := by
    intro w; have h := i_FibonacciWord ((n + 2 : Nat) : Int) w; rwa [(fib_gr (n + 2) (by omega)).1, (fib_gr (n + 2) (by omega)).2] at h
  have hpal := fib_pal n (by omega)
  rw [show fibw (n + 2) = fibw (n + 1) ++ fibw n from rfl] at hpal
  have z1 := fibw_small n (by omega)
  have z2 := fibw_small (n + 1) (by omega)
  have z3 : ∀ j, 1 ≤ (fibw j).size := by
    intro j
    rw [(fibw_len j).1]
    induction j using Nat.strongRecOn with
    | _ j ih =>
      match j with
      | 0 => exact Nat.le_refl _
      | 1 => exact Nat.le_refl _
      | j + 2 => have := ih j (by omega); show 1 ≤ fibl (j + 1) + fibl j; omega
  have z4 := z3 n
  have z5 := z3 (n + 1)
  have HPAL := Lib.hid hpal
  have hcat : (fibw (n + 1) ++ fibw n).size = (fibw (n + 1)).size + (fibw n).size := ByteArray.size_append
  have hcat1 : (fibw (n + 1)).size + (fibw n).size ≤ 9223372036854775807 := by omega
  have hcat4 : ∀ w : World, (Op.stringOp .add (fibw (n + 1)) (fibw n)).run Try.prog w = .ok (.string (fibw (n + 1) ++ fibw n)) w := fun w => run_string_add_sum w _ _ hcat1
  have hh1 : (fibw (n + 1) ++ fibw n).size ≤ 1048576 := by omega
  have hh2 : 2 ≤ (fibw (n + 1) ++ fibw n).size := by omega
  have hh3 : ¬ (fibw (n + 1) ++ fibw n).size < 2 := by omega
  clear hpal z1 z2 z3 z4 z5 hcat hcat1 hn H0
  generalize fibw n = F at *
  generalize fibw (n + 1) = G at *
  generalize hH : G ++ F = H at *
  have HTU := Lib.hid (fun w => s_Turned (H.extract 0 (H.size - 2)) w (by rw [ByteArray.size_extract]; omega))
  rw [HPAL.out] at HTU
  obtain ⟨m, hm⟩ : ∃ m, H.size - 2 = m := ⟨_, rfl⟩
  rw [hm] at HTU
  have HM : Hid ((H.size : Int) - 2 = (m : Int)) := by show _ = _; omega
  have hm1 : m ≤ H.size := by omega
  have hm2 : (m : Int) ≤ H.size := by omega
  clear hH HPAL hm
  go_wp2_with fail
  refine (HF1.out _).mono ?_
  rintro e w7 ⟨rfl, rfl⟩
  go_wp2_with fail
  refine (HF2.out _).mono ?_
  rintro e w7 ⟨rfl, rfl⟩
  go_wp2_with fail
  refine (HF3.out _).mono ?_
  rintro e w7 ⟨rfl, rfl⟩
  clear HF1 HF2 HF3
  have HB0 : Hid (Below w.heap.size w (w.drewN q6)) := below_drewN (Below.refl _ _) q6
  go_wp2
  have hm : IntKind.i64.wrap ((H.size : Int) - 2) = (m : Int) := by rw [IntWalk.i64_in _ (by omega)]; exact HM.out
  have hm0 : (0 : Int) ≤ (m : Int) := by omega
  go_region_held3 (fun _ => True) (trivial) ((go_at_call 53; refine (HTU.out _).mono ?_; rintro e w1 ⟨rfl, hb1⟩))
  have hbA : Below w.heap.size w (w.drewN (q6 + 1)) := below_drewN (Below.refl _ _) _
  have HB1 : Hid (Below w.heap.size w w1) := hbA.trans (hb1.mono (by simp))
  have HI1 := Lib.hid (inRow_below H1.out HB1.out)
  clear hb1 hbA hm hm0 HM HTU hcat4 hm1 hm2 HB0 H1 hh3 hh1
  go_wp2_with fail
  refine (l_a2At v2 l2 0 7 _ HI1.out).mono ?_
  rintro e w6 ⟨k, rfl, hk, ⟨q7, rfl⟩⟩
  have hk6 : k ≤ 6 := by omega
  have HTh := Lib.hid (fun w => i_ThueWord (k : Int) w)
  rw [(th_gr k hk6).1, (th_gr k hk6).2] at HTh
  obtain ⟨T, hT, hov, hts⟩ : ∃ T, thw k = T ∧ (∀ (z i : Nat) (h1 : 1 ≤ z) (h2 : i + 2 * z < T.size), ((T.extract i (i + z)).toList == (T.extract (i + z) (i + 2 * z)).toList) = true → ((T[i]'(by omega)).toNat : Int) ≠ (T[i + 2 * z]).toNat) ∧ T.size = 2 ^ k :=
    ⟨_, rfl, fun z i h1 h2 h3 => th_ovl k z i hk6 h1 h2 h3, thw_size k⟩
  rw [hT] at HTh
  clear hT
  have HOV := Lib.hid hov
  clear hov hk HI1
  go_wp2_with fail
  refine (HTh.out _).mono ?_
  rintro e w7 ⟨rfl, hb7⟩
  have HB7 : Hid (Below w.heap.size w w7) := by
    have s1 := HB1.out.size
    exact (below_drewN HB1.out q7).trans (hb7.mono (by simp; omega))
  clear hb7 HB1 HTh
  have hne : ((T.size : Int) != wrap64 (2 ^ k)) = false := by
    rw [hts]
    rcases pow_int k hk6 with rfl | rfl | rfl | rfl | rfl | rfl | rfl <;> decide +kernel
  have hT64 : T.size ≤ 64 := by
    rw [hts]; exact Nat.le_trans (Nat.pow_le_pow_right (by decide) hk6) (by decide)
  clear hts
  go_wp2
  go_loopw [15, 16] (fun z _ wr => Below w7.heap.size w7 wr ∧ ∃ j : Nat, 1 ≤ j ∧ j ≤ 64 ∧ z = .int .i64 j) (fun z _ _ => 65 - (intOf z).toNat)
  case atStart => exact ⟨Below.refl _ _, 1, by omega, by omega, rfl⟩
  case round =>
    obtain ⟨hb, z, hz1, hz2, rfl⟩ := hrel
    have HB := Lib.hid hb
    clear hb
    by_cases hlt : 2 * z < T.size
    · have hlt2 : (2 : Int) * z < T.size := by omega
      go_wp2
      go_loopw [16] (fun i wr => Below w7.heap.size w7 wr ∧ ∃ j : Nat, j ≤ 64 ∧ i = .int .i64 j) (fun i _ => 65 - (intOf i).toNat)
      case atStart => exact ⟨HB.out, 0, by omega, rfl⟩
      case round =>
        obtain ⟨hb, i, hi, rfl⟩ := hrel
        have HB := Lib.hid hb
        clear hb
        by_cases hlti : i + 2 * z < T.size
        · have hlti2 : (i : Int) + 2 * (z : Int) < T.size := by omega
          have hq := HOV.out z i hz1 hlti
          have hi1 : i < T.size := by omega
          have hi2 : i + z ≤ T.size := by omega
          have hi3 : i + z ≤ i + 2 * z := by omega
          have hi4 : (i : Int) + (z : Int) ≤ (i : Int) + 2 * (z : Int) := by omega
          have hi5 : (i : Int) ≤ (i : Int) + (z : Int) := by omega
          cases hb0 : ((T.extract i (i + z)).toList == (T.extract (i + z) (i + 2 * z)).toList)
          · go_wp2
            go_big_quiet (fail)
            go_wp2
            go_roundw
            case rel => exact ⟨below_drewN HB.out _, i + 1, by omega, by go_num⟩
            case measure => first | (simp [intOf]; done) | (simp [intOf]; omega)
          · have hq2 := hq hb0
            have hq3 : ((T[i].toNat : Int) == (T[i + 2 * z].toNat : Int)) = false := by rw [beq_eq_false_iff_ne]; exact hq2
            obtain ⟨j, hj, hjT, hb0, hq3⟩ : ∃ (j : Nat) (hj : (i : Int) + 2 * (z : Int) = (j : Int)) (h : j < T.size), ((T.extract i (i + z)).toList == (T.extract (i + z) j).toList) = true ∧ ((T[i].toNat : Int) == (T[j].toNat : Int)) = false := ⟨i + 2 * z, by omega, hlti, hb0, hq3⟩
            have HJ := Lib.hid hj
            have hj1 : i + z ≤ j := by omega
            have hj2 : (i : Int) + (z : Int) ≤ (j : Int) := by omega
            have hj3 : (j : Int) < T.size := by omega
            clear hq hq2 hj hi3 hi4
            go_wp2
            have hj := HJ.out
            go_big_quiet (fail)
            go_wp2
            go_roundw
            case rel => exact ⟨below_drewN HB.out _, i + 1, by omega, by go_num⟩
            case measure => first | (simp [intOf]; done) | (simp [intOf]; omega)
        · have hlti2 : ¬ (i : Int) + 2 * (z : Int) < T.size := by omega
          go_wp2
          go_roundw
          case rel => exact ⟨HB.out, z + 1, by omega, by omega, by go_num⟩
          case measure => first | (simp [intOf]; done) | (simp [intOf]; omega)
    · have hlt2 : ¬ (2 : Int) * z < T.size := by omega
      go_wp2
      go_ret
      exact ⟨rfl, HB7.out.trans (HB.out.mono HB7.out.size)⟩
end Go.Proofs.Ytdighfjoechbkaa

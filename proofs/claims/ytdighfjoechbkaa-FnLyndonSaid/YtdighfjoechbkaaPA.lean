/- FnLyndon: Lyndon factors, the least shift, shifts. -/
import Derived.Test.YtdighfjoechbkaaP3
import Derived.Test.YtdighfjoechbkaaQ3
import Derived.Test.YtdighfjoechbkaaW3
namespace Go.Proofs.Ytdighfjoechbkaa
open Go.ChangeShapes Go.WideShapes Go.RowKit
set_option linter.unusedVariables false
set_option linter.unusedSimpArgs false
set_option maxHeartbeats 1000000
set_option maxRecDepth 100000
theorem ownedS_at {w : World} {base g cap : Nat} {xs : List ByteArray} (h : w.ownsRow base 9 1 (.slice (some ⟨g, 0, none⟩) xs.length cap) xs.length (xs.map Value.string)) {k : Nat} (hk : k < xs.length) : w.cell? ⟨g, k, none⟩ = some (.string xs[k]) := by
  rw [h.cellAt k (by omega)]; simp [hk]
theorem owns_sl2 {w : World} {base e n : Nat} {v : Value} {xs : List Value} (h : w.ownsRow base e 1 v n xs) : ∃ a cap, v = .slice a n cap ∧ (n ≠ 0 → ∃ g, a = some ⟨g, 0, none⟩) ∧ cap ≤ maxLen := by
  rcases owns_cases h with ⟨rfl, rfl, _⟩ | ⟨g, cap, rfl, _, _, _, hm, _⟩
  · exact ⟨_, _, rfl, fun h => absurd rfl h, by unfold maxLen; omega⟩
  · exact ⟨_, _, rfl, fun _ => ⟨g, rfl⟩, hm⟩
def catB (l : List ByteArray) (t : Nat) : ByteArray := ⟨(catL (l.take t)).toArray⟩
theorem catB_step (l : List ByteArray) (t : Nat) (h : t < l.length) : catB l t ++ l[t] = catB l (t + 1) := by
  apply ByteArray.ext
  rw [ByteArray.data_append]
  show (catL (l.take t)).toArray ++ _ = (catL (l.take (t + 1))).toArray
  rw [catL_take l t h]
  apply Array.toList_inj.1
  simp
theorem catB_size (l : List ByteArray) (t : Nat) : (catB l t).size ≤ (catL l).length := by
  have := catL_le l t
  show (catL (l.take t)).toArray.size ≤ _
  rw [List.size_toArray]; exact this
theorem ly_facts {S : ByteArray} : (∀ t, (catB (dvL S) t).size ≤ S.size) ∧ catB (dvL S) (dvL S).length = S ∧ ∀ t (h : t < (dvL S).length), (dvL S)[t].size ≤ S.size := by
  obtain ⟨h1, h2⟩ := dv_all S
  have hl : (catL (dvL S)).length = S.size := by rw [h1]; simp
  refine ⟨fun t => by rw [← hl]; exact catB_size _ _, ?_, fun t h => ?_⟩
  · apply ByteArray.ext
    apply Array.toList_inj.1
    show (catL ((dvL S).take (dvL S).length)).toArray.toList = _
    rw [List.take_length, h1]
  · have e := catB_step (dvL S) t h
    have := catB_size (dvL S) (t + 1)
    rw [← e, ByteArray.size_append] at this
    omega
theorem dvL_len (S : ByteArray) : (dvL S).length ≤ S.size := by
  obtain ⟨h1, h2⟩ := dv_all S
  have key : ∀ l : List ByteArray, (∀ v ∈ l, 1 ≤ v.size) → l.length ≤ (catL l).length := by
    intro l
    induction l with
    | nil => intro _; simp
    | cons v r ih =>
      intro h
      have a := h v (by simp)
      have b := ih (fun u hu => h u (by simp [hu]))
      show r.length + 1 ≤ (v.data.toList ++ catL r).length
      rw [List.length_append]
      have : v.data.toList.length = v.size := by simp
      omega
  have := key (dvL S) (fun v hv => by
    obtain ⟨t, ht, rfl⟩ := List.getElem_of_mem hv
    exact (h2 t ht).1.1)
  rw [h1] at this
  simpa using this
theorem walk_FnLyndon (v : Value) (l : List UInt8) (v2 : Value) (l2 : List UInt8) (w : World) (h0 : InRow w v l.length 1 (u8s l)) (h0b : l.length ≤ 9223372036854775807) (h0c : True) (h1 : InRow w v2 l2.length 1 (u8s l2)) (h1b : l2.length ≤ 9223372036854775807) (h1c : True) (hsh : w.ShapedOpen Try.prog) :
    Calls Try.prog 17 #[v, v2] w fun e w' => e = .returned (.bool true) ∧ Below w.heap.size w w' := by
  obtain ⟨ml, hml⟩ := maxlen_cell hsh
  have HML := Lib.hid hml
  clear hml hsh
  have H0 := Lib.hid h0
  have H1 := Lib.hid h1
  clear h0 h1
  by_cases hlong : 3000 < l.length ∨ 3000 < l2.length
  · have HL : Hid ((decide (3000 < l.length) || decide (3000 < l2.length)) = true) := by show _ = _; simpa using hlong
    clear hlong
    go_enter Try.func17, Try.ntmps17
    go_wp2_with fail
    refine (l_a2Long v v2 _ _ _ _ w H0.out H1.out).mono ?_
    rintro e w1 ⟨rfl, rfl⟩
    rw [HL.out]
    go_wp2
    go_ret
    exact ⟨rfl, Below.refl _ _⟩
  have HL : Hid ((decide (3000 < l.length) || decide (3000 < l2.length)) = false) := by show _ = _; simpa using hlong
  have hl : l.length ≤ 1048576 := by omega
  clear hlong
  go_enter Try.func17, Try.ntmps17
  go_wp2_with fail
  refine (l_a2Long v v2 _ _ _ _ w H0.out H1.out).mono ?_
  rintro e w1 ⟨rfl, rfl⟩
  rw [HL.out]
  go_wp2_with fail
  refine (s_A2Word v l 16 _ (by omega) hl H0.out).mono ?_
  rintro e w1 ⟨S, rfl, hS, hval, hg1⟩
  have b1 : Below w.heap.size w w1 := below_of_grown' hg1 (Nat.le_refl _) (fun _ e => by cases e)
  have hSm : S.size ≤ maxLen := by unfold maxLen; omega
  have HB1 := Lib.hid b1
  have HLy := Lib.hid (fun w => i_LyndonFactors S w hSm)
  have HLs := Lib.hid (fun w => i_LeastShift S w hSm)
  rw [hval] at HLy HLs
  have HLy2 : Hid (∀ w, Calls Try.prog 28 #[.string S] w fun e w' => ∃ v, e = .returned (.tuple #[v, .int .i64 0]) ∧ OwnS w w' v (dvL S)) := HLy.out
  have HLs2 : Hid (∀ w, Calls Try.prog 57 #[.string S] w fun e w' => e = .returned (.tuple #[.int .i64 (lsB S S.size : Nat), .int .i64 0]) ∧ Qt w w') := HLs.out
  have HVAL := Lib.hid hval
  clear hg1 b1 h0b h0c h1b h1c HL H0 hval hSm HLy HLs
  have hSs : S.size ≤ 9223372036854775807 := by omega
  go_wp2_with fail
  refine (HLy2.out _).mono ?_
  rintro e w2 ⟨vl, rfl, ho2, hb2⟩
  go_wp2_with fail
  refine (HLs2.out _).mono ?_
  rintro e w3 ⟨rfl, ⟨q3, rfl⟩⟩
  obtain ⟨ap, cp, rfl, hsome, hcp⟩ := owns_sl2 ho2
  have hbk : lsB S S.size ≤ S.size := lsB_le S S.size
  have hbk2 : S.size ≠ 0 → lsB S S.size < S.size := by
    intro h
    obtain ⟨n, hn⟩ : ∃ n, S.size = n + 1 := ⟨S.size - 1, by omega⟩
    have := lsB_le S n
    rw [hn, lsB]
    split <;> omega
  have HMIN := Lib.hid (fun x h => ls_min S S.size x h)
  have hown3 : (w2.drewN q3).ownsRow w1.heap.size 9 1 (.slice ap (dvL S).length cp) (dvL S).length ((dvL S).map Value.string) := ownsRow_drewN ho2 q3
  have hb13 : Below w.heap.size w (w2.drewN q3) := below_drewN (HB1.out.trans (hb2.mono HB1.out.size)) q3
  have HO3 := Lib.hid hown3
  have HB13 := Lib.hid hb13
  have HSOME := Lib.hid hsome
  have hDl := dvL_len S
  have HD := Lib.hid (dv_all S).2
  obtain ⟨hd1, hd2, hd3⟩ := @ly_facts S
  have HD1 := Lib.hid hd1
  have HD2 := Lib.hid hd2
  have HD3 := Lib.hid hd3
  have HSHF : Hid (∀ k, shf S k = S.extract k S.size ++ S.extract 0 k) := fun k => rfl
  have HBK := Lib.hid (fun x (hx : x ≤ S.size) => st_back HVAL.out x hx)
  have HSHS : Hid (∀ k, k ≤ S.size → (shf S k).size = S.size) := fun k hk => shf_sz S k hk
  clear ho2 hb2 hown3 hb13 hsome hd1 hd2 hd3 HLy2 HLs2 HB1 HVAL hcp
  generalize w2.drewN q3 = w3 at *
  generalize lsB S S.size = b at *
  generalize dvL S = D at *
  have hbb : (True ∧ ¬ 0 < b) ∨ (¬ S.size ≤ b ∧ 0 < b) := by
    by_cases h : b = 0
    · left; exact ⟨trivial, by omega⟩
    · right; exact ⟨by have := hbk2 (by omega); omega, by omega⟩
  clear hbk2
  rcases hbb with ⟨hb0, hb1⟩ | ⟨hb0, hb1⟩
  all_goals
    have hbn : decide ((b : Int) < 0) = false := by rw [decide_eq_false_iff_not]; omega
    go_wp2
    go_loopw [10, 11, 12, 13] (fun al i _ _ wr => Below w3.heap.size w3 wr ∧ ∃ t : Nat, t ≤ D.length ∧ i = .int .i64 t ∧ al = .string (catB D t)) (fun _ i _ _ _ => D.length - (intOf i).toNat)
    case atStart => exact ⟨Below.refl _ _, 0, by omega, rfl, rfl⟩
    case round =>
      obtain ⟨hb, t, ht, rfl, rfl⟩ := hrel
      by_cases hlt : t < D.length
      · obtain ⟨g, rfl⟩ := HSOME.out (by omega)
        have HB := Lib.hid hb
        have hown := owns_after HO3.out hb
        have hc1 := ownedS_at hown hlt
        obtain ⟨⟨hf1, hf2⟩, hf3⟩ := HD.out t hlt
        have hf4 := HD3.out t hlt
        have hs1 := HD1.out t
        have hst := catB_step D t hlt
        have hadj : ∀ u, u + 1 = t → ∃ (hu : u < D.length), Op.bytesLess (D[u]).toList (D[t]).toList = false := by
          rintro u rfl
          exact ⟨by omega, (HD.out u (by omega)).2 hlt⟩
        generalize hF : D[t] = F at *
        have HADJ := Lib.hid hadj
        have HF2 := Lib.hid hf2
        have HOWN := Lib.hid hown
        have hcat1 : (catB D t).size + F.size ≤ 9223372036854775807 := by omega
        have hcat4 : ∀ w : World, (Op.stringOp .add (catB D t) F).run Try.prog w = .ok (.string (catB D (t + 1))) w := fun w => by rw [← hst]; exact run_string_add_sum w _ F hcat1
        have hin : ((t : Nat) : Int) < D.length := by omega
        have hz : ((F.size : Int) == 0) = false := by rw [beq_eq_false_iff_ne]; omega
        have hF16 : F.size ≤ 16 := by omega
        have HF : Hid True := trivial
        clear hf1 hf2 hf3 hf4 hst hadj hown hb hF
        by_cases ht0 : t = 0
        · have htp : ¬ 0 < t := by omega
          clear ht0 hcat1
          go_wp2
          go_loopw [13] (fun x wr => Below w3.heap.size w3 wr ∧ ∃ j : Nat, 1 ≤ j ∧ j ≤ 17 ∧ x = .int .i64 j) (fun x _ => 18 - (intOf x).toNat)
          case atStart => exact ⟨HB.out, 1, by omega, by omega, rfl⟩
          case round =>
            clear HB hc1 HOWN
            obtain ⟨hb, x, hx1, hx2, rfl⟩ := hrel
            have HB := Lib.hid hb
            clear hb
            by_cases hlx : x < F.size
            · have hfx := HF2.out x hx1 hlx
              go_wp2
              go_big_quiet (fail)
              go_wp2
              go_roundw
              case rel => exact ⟨below_drewN HB.out _, x + 1, by omega, by omega, by go_num⟩
              case measure => first | (simp [intOf]; done) | (simp [intOf]; omega)
            · go_wp2
              go_roundw
              case rel => exact ⟨HB.out, t + 1, by omega, by go_num, rfl⟩
              case measure => first | (simp [intOf]; done) | (simp [intOf]; omega)
        · obtain ⟨u, hu⟩ : ∃ u, t = u + 1 := ⟨t - 1, by omega⟩
          obtain ⟨hul, hua⟩ := HADJ.out u hu.symm
          have hc0 := ownedS_at HOWN.out hul
          have htp : 0 < t := by omega
          have hij : (t : Int) - 1 = (u : Int) := by omega
          have hinu : ((u : Nat) : Int) < D.length := by omega
          have HIJ := Lib.hid hij
          generalize D[u] = E at *
          clear ht0 hcat1 hu
          go_wp2
          go_loopw [13] (fun x wr => Below w3.heap.size w3 wr ∧ ∃ j : Nat, 1 ≤ j ∧ j ≤ 17 ∧ x = .int .i64 j) (fun x _ => 18 - (intOf x).toNat)
          case atStart => exact ⟨HB.out, 1, by omega, by omega, rfl⟩
          case round =>
            clear HB hc1 hc0 HOWN hij hua
            obtain ⟨hb, x, hx1, hx2, rfl⟩ := hrel
            have HB := Lib.hid hb
            clear hb
            by_cases hlx : x < F.size
            · have hfx := HF2.out x hx1 hlx
              go_wp2
              go_big_quiet (fail)
              go_wp2
              go_roundw
              case rel => exact ⟨below_drewN HB.out _, x + 1, by omega, by omega, by go_num⟩
              case measure => first | (simp [intOf]; done) | (simp [intOf]; omega)
            · go_wp2
              go_roundw
              case rel => exact ⟨HB.out, t + 1, by omega, by go_num, rfl⟩
              case measure => first | (simp [intOf]; done) | (simp [intOf]; omega)
      · have et : t = D.length := by omega
        have hall : catB D t = S := by rw [et]; exact HD2.out
        rw [hall]
        have HB := Lib.hid hb
        have HSE : Hid (∀ k, k ≤ S.size → (S.extract k S.size ++ S.extract 0 k) = shf S k ∧ (S.extract k S.size).size + (S.extract 0 k).size ≤ 1000) := fun k hk => ⟨rfl, by rw [ByteArray.size_extract, ByteArray.size_extract]; omega⟩
        clear hb et hall HD HD1 HD2 HD3 HO3 HSOME
        go_wp2
        go_big_quiet (fail)
        have HB2 := Lib.hid (below_drewN HB.out nq)
        generalize wr.drewN nq = wq at *
        clear HB
        go_wp2
        rw [(HSE.out b hbk).1]
        obtain ⟨B, hB⟩ : ∃ B, shf S b = B := ⟨_, rfl⟩
        rw [hB] at HMIN
        rw [hB]
        go_loopw [15, 16] (fun x _ wr => Below w3.heap.size w3 wr ∧ ∃ j : Nat, j ≤ S.size ∧ x = .int .i64 j) (fun x _ _ => S.size - (intOf x).toNat)
        case atStart => exact ⟨HB2.out, 0, by omega, rfl⟩
        case round =>
          clear HB2
          obtain ⟨hb, x, hx, rfl⟩ := hrel
          have HB := Lib.hid hb
          clear hb
          by_cases hlx : x < S.size
          · obtain ⟨m1, m2⟩ := HMIN.out x hlx
            have hse := HSE.out x hx
            have hsz := hse.2
            rw [← hse.1] at m1 m2
            cases heq : ((S.extract x S.size ++ S.extract 0 x).toList == B.toList)
            · clear m2 hse
              go_wp2
              go_big_quiet (fail)
              go_wp2
              go_roundw
              case rel => exact ⟨below_drewN HB.out _, x + 1, by omega, by go_num⟩
              case measure => first | (simp [intOf]; done) | (simp [intOf]; omega)
            · have hbx := m2 (by simpa using heq)
              have hbx2 : ¬ (x : Int) < (b : Int) := by omega
              have hbx3 : ¬ x < b := by omega
              clear m2 hse
              go_wp2
              go_big_quiet (fail)
              go_wp2
              go_roundw
              case rel => exact ⟨below_drewN HB.out _, x + 1, by omega, by go_num⟩
              case measure => first | (simp [intOf]; done) | (simp [intOf]; omega)
          · have HI := Lib.hid (inRow_below H1.out (HB13.out.trans (HB.out.mono HB13.out.size)))
            have hlx2 : ¬ (x : Int) < S.size := by omega
            go_wp2_with fail
            refine (l_a2At v2 l2 0 S.size _ HI.out).mono ?_
            rintro e w6 ⟨y, rfl, hy, ⟨q6, rfl⟩⟩
            have hyS : y ≤ S.size := by omega
            obtain ⟨c, k1, k2, k3, k4⟩ := HBK.out y hyS
            have hsy := HSE.out y hyS
            have hsc := HSE.out c (by omega)
            have HST : Hid (∀ w', Below w3.heap.size w3 w' → Calls Try.prog 38 #[.string S, .string (S.extract y S.size ++ S.extract 0 y)] w' fun e w'' => e = .returned (.tuple #[.int .i64 c, .int .i64 0]) ∧ w' = w'') := by
              intro w' hw'
              have hc0 : w'.cell? ⟨0, 0, none⟩ = some (.int .i64 ml) := by
                have hl0 := World.block_lt_of_cell? _ _ HML.out
                have hl1 := HB13.out.size
                rw [hw'.cell (p := ⟨0, 0, none⟩) (by show 0 < _; omega), HB13.out.cell (p := ⟨0, 0, none⟩) hl0]
                exact HML.out
              have h := i_ShiftTo S (shf S y) w' ml hc0 (by unfold maxLen; omega) (by rw [HSHS.out y hyS]; unfold maxLen; omega)
              rw [k1, k2, ← hsy.1] at h
              exact h
            rw [← hsy.1, ← hsc.1] at k4
            have hz1 := hsy.2
            have hz2 := hsc.2
            have HB6 := Lib.hid (below_drewN HB.out q6)
            have hcy : (c : Int) ≤ (y : Int) := by omega
            have hc0 : (0 : Int) ≤ (c : Int) := by omega
            have hcS : c ≤ S.size := by omega
            clear k1 k2 hsy hsc hy
            generalize wr.drewN q6 = wr6 at *
            go_wp2
            go_big_quiet ((go_at_call 38; exact (HST.out _ (below_drewN HB6.out _)).mono (fun e w'' h => ⟨h.1, _, h.2.symm⟩)))
            go_wp2
            go_big_quiet (fail)
            go_wp2
            go_ret
            exact ⟨rfl, HB13.out.trans ((below_drewN (below_drewN HB6.out _) _).mono HB13.out.size)⟩
end Go.Proofs.Ytdighfjoechbkaa

/- FnRuns: the runs of a word give it back. -/
import Derived.Test.YtdighfjoechbkaaP3
import Derived.Test.YtdighfjoechbkaaR2
import Derived.Test.YtdighfjoechbkaaM2
namespace Go.Proofs.Ytdighfjoechbkaa
open Go.ChangeShapes Go.WideShapes Go.RowKit
set_option linter.unusedVariables false
set_option linter.unusedSimpArgs false
set_option maxHeartbeats 1000000
set_option maxRecDepth 100000
/-- runs as letters and counts -/
def rcR (m : List (UInt8 × Nat)) : List (ByteArray × Int) := m.map fun r => (⟨#[r.1]⟩, (r.2 : Int))
def rcL (m : List (UInt8 × Nat)) : List UInt8 := m.flatMap fun r => List.replicate r.2 r.1
theorem rcL_snoc (m : List (UInt8 × Nat)) (c : UInt8) (x : Nat) : rcL (m ++ [(c, x)]) = rcL m ++ List.replicate x c := by simp [rcL]
theorem ext_one (s : ByteArray) (k : Nat) (h : k < s.size) : s.extract k (k + 1) = ⟨#[s[k]]⟩ := by
  apply ByteArray.ext
  rw [ByteArray.data_extract]
  apply Array.toList_inj.1
  rw [Array.toList_extract]
  have h' : k < s.data.toList.length := by simpa using h
  show (s.data.toList.drop k).take (k + 1 - k) = _
  rw [show k + 1 - k = 1 by omega, List.drop_eq_getElem_cons h']
  simp [ByteArray.getElem_eq_getElem_data]
/-- what the runs of the first k letters are -/
def RcOk (s : ByteArray) (k : Nat) (m : List (UInt8 × Nat)) : Prop :=
  rnTo s k = rcR m ∧ (∀ r ∈ m, 1 ≤ r.2) ∧ rcL m = s.data.toList.take k ∧ (∀ i a b, (m.map Prod.fst)[i]? = some a → (m.map Prod.fst)[i + 1]? = some b → a ≠ b) ∧ (k ≠ 0 → ∃ m0 x, m = m0 ++ [(UInt8.ofNat (bt s (k - 1)), x)])
theorem rc_ok (s : ByteArray) : ∀ k, k ≤ s.size → ∃ m, RcOk s k m
  | 0, _ => ⟨[], rfl, by simp, by simp [rcL], by simp, fun h => absurd rfl h⟩
  | k + 1, hk => by
    obtain ⟨m, h1, h2, h3, h4, h5⟩ := rc_ok s k (by omega)
    have hk' : k < s.size := by omega
    have hb := bt_eq s k hk'
    have hbb : UInt8.ofNat (bt s k) = s[k] := by rw [hb]; exact UInt8.ofNat_toNat
    have hsn := take_snoc s k hk'
    by_cases hc : k ≠ 0 ∧ bt s k = bt s (k - 1)
    · obtain ⟨m0, x, rfl⟩ := h5 hc.1
      refine ⟨m0 ++ [(UInt8.ofNat (bt s (k - 1)), x + 1)], ?_, ?_, ?_, ?_, fun _ => ⟨m0, x + 1, ?_⟩⟩
      · rw [rnTo, if_pos hc, h1, rcR, List.map_append, List.map_cons, List.map_nil, bump_snoc]
        simp [rcR]
      · intro r hr
        rcases List.mem_append.1 hr with hr | hr
        · exact h2 r (List.mem_append.2 (.inl hr))
        · simp at hr; subst hr; show 1 ≤ x + 1; omega
      · rw [hsn, ← h3, rcL_snoc, rcL_snoc, ← hc.2, hbb, List.append_assoc, List.replicate_succ']
      · simpa using h4
      · rw [Nat.add_sub_cancel, hc.2]
    · refine ⟨m ++ [(s[k], 1)], ?_, ?_, ?_, ?_, fun _ => ⟨m, 1, ?_⟩⟩
      · rw [rnTo, if_neg hc, h1, ext_one s k hk', rcR, rcR, List.map_append]; rfl
      · intro r hr
        rcases List.mem_append.1 hr with hr | hr
        · exact h2 r hr
        · simp at hr; subst hr; show 1 ≤ 1; omega
      · rw [hsn, ← h3, rcL_snoc]; rfl
      · intro i a b ha hb2
        rw [List.map_append] at ha hb2
        by_cases hi : i + 1 < m.length
        · rw [List.getElem?_append_left (by simp; omega)] at ha hb2
          exact h4 i a b ha hb2
        · by_cases hi2 : i + 1 = m.length
          · rw [List.getElem?_append_left (by simp; omega)] at ha
            rw [List.getElem?_append_right (by simp; omega)] at hb2
            simp [hi2] at hb2
            have hk0 : k ≠ 0 := by
              rintro rfl
              have : rcL m = [] := by rw [h3]; rfl
              cases m with
              | nil => simp at hi2
              | cons r m =>
                have := h2 r (by simp)
                simp [rcL] at *
                omega
            obtain ⟨m0, x, rfl⟩ := h5 hk0
            have : i = m0.length := by simp at hi2; omega
            subst this
            simp at ha
            intro e
            apply hc
            refine ⟨hk0, ?_⟩
            have h6 : UInt8.ofNat (bt s (k - 1)) = s[k] := by rw [ha, e, hb2]
            have h7 := bt_eq s (k - 1) (by omega)
            rw [h7, UInt8.ofNat_toNat] at h6
            rw [hb, h7, h6]
          · exfalso
            have := (List.getElem?_eq_some_iff.1 hb2).1
            simp at this
            omega
      · rw [Nat.add_sub_cancel, hbb]
theorem rcA (m : List (UInt8 × Nat)) (t : Nat) (h : t < m.length) : rnA (rcR m) t = (⟨#[(m[t]).1]⟩, ((m[t]).2 : Int)) := by
  rw [rnA, List.getD, List.getElem?_eq_getElem (by simpa [rcR] using h)]
  simp [rcR]
theorem rc_len (m : List (UInt8 × Nat)) : (rcR m).length = m.length := by simp [rcR]
theorem rc_rep (c : UInt8) : ∀ x : Nat, Lib.repeatL [c] x = List.replicate x c
  | 0 => rfl
  | x + 1 => by show [c] ++ Lib.repeatL [c] x = _; rw [rc_rep c x, List.replicate_succ]; rfl
theorem rcL_take (m : List (UInt8 × Nat)) (t : Nat) (h : t < m.length) : rcL (m.take (t + 1)) = rcL (m.take t) ++ List.replicate (m[t]).2 (m[t]).1 := by
  rw [List.take_succ_eq_append_getElem h]
  exact rcL_snoc _ _ _
theorem rcL_le (m : List (UInt8 × Nat)) (t : Nat) : (rcL (m.take t)).length ≤ (rcL m).length := by
  have e : rcL m = rcL (m.take t) ++ rcL (m.drop t) := by
    have : m = m.take t ++ m.drop t := (List.take_append_drop t m).symm
    conv => lhs; rw [this]
    exact List.flatMap_append
  rw [e, List.length_append]; omega
theorem rc_word (m : List (UInt8 × Nat)) (hle : (rcL m).length ≤ 2000) : ∀ t, t ≤ m.length → wrT (rcR m) t = some ⟨(rcL (m.take t)).toArray⟩
  | 0, _ => rfl
  | t + 1, ht => by
    have ih := rc_word m hle t (by omega)
    have ht' : t < m.length := by omega
    have hA := rcA m t ht'
    have h2 := rcL_take m t ht'
    have h3 := rcL_le m (t + 1)
    rw [h2, List.length_append, List.length_replicate] at h3
    rw [wrT_ok ih (by rw [hA]; simp [ByteArray.size]; omega), hA, h2]
    simp only [Int.toNat_natCast]
    congr 1
    apply ByteArray.ext
    rw [ByteArray.data_append]
    simp [repS, rc_rep]
theorem rc_dup (m : List (UInt8 × Nat)) (h : ∀ i a b, (m.map Prod.fst)[i]? = some a → (m.map Prod.fst)[i + 1]? = some b → a ≠ b) : ∀ t, t ≤ m.length → dupT (rcR m) t = false
  | 0, _ => rfl
  | 1, _ => rfl
  | t + 2, ht => by
    rw [dupT, rc_dup m h (t + 1) (by omega), rcA m (t + 1) (by omega), rcA m t (by omega)]
    have := h t (m[t]).1 (m[t + 1]).1 (by rw [List.getElem?_map, List.getElem?_eq_getElem (by omega)]; rfl) (by rw [List.getElem?_map, List.getElem?_eq_getElem (by omega)]; rfl)
    simp only [Bool.false_or, ByteArray.toList_eq, beq_eq_false_iff_ne]
    intro e
    apply this
    simpa using e.symm
theorem rc_any1 (m : List (UInt8 × Nat)) (h : ∀ r ∈ m, 1 ≤ r.2) (hv : allL (rcL m) = true) : (rcR m).any p1B = false := by
  apply any_none
  intro t ht
  have ht' : t < m.length := by rw [rc_len] at ht; exact ht
  rw [rcA m t ht']
  have hmem : (m[t]).1 ∈ rcL m := by
    unfold rcL
    rw [List.mem_flatMap]
    refine ⟨m[t], List.getElem_mem ht', ?_⟩
    rw [List.mem_replicate]
    have := h _ (List.getElem_mem ht')
    exact ⟨by omega, rfl⟩
  have : letB ((m[t]).1.toNat : Int) = true := by
    unfold allL at hv
    exact List.all_eq_true.1 hv _ hmem
  simp [p1B, validB, allL, ByteArray.size, this]
theorem rc_any2 (m : List (UInt8 × Nat)) (h : ∀ r ∈ m, 1 ≤ r.2) : (rcR m).any p2B = false := by
  apply any_none
  intro t ht
  have ht' : t < m.length := by rw [rc_len] at ht; exact ht
  rw [rcA m t ht']
  have := h _ (List.getElem_mem ht')
  simp [p2B]; omega
/-- the runs of a valid word -/
theorem rc_all {s : ByteArray} (hv : validB s = true) : ∃ m : List (UInt8 × Nat), rnTo s s.size = rcR m ∧ (∀ r ∈ m, 1 ≤ r.2) ∧ (∀ i a b, (m.map Prod.fst)[i]? = some a → (m.map Prod.fst)[i + 1]? = some b → a ≠ b) ∧ (rcL m).length = s.size ∧ wrW (rcR m) = s ∧ wrC (rcR m) = 0 := by
  obtain ⟨m, h1, h2, h3, h4, -⟩ := rc_ok s s.size (Nat.le_refl _)
  have hall : rcL m = s.data.toList := by rw [h3]; exact List.take_of_length_le (by simp)
  have hv' := hv
  simp only [validB, Bool.and_eq_true, decide_eq_true_eq] at hv'
  have hlen : (rcL m).length = s.size := by rw [hall]; simp
  have hw := rc_word m (by omega) m.length (Nat.le_refl _)
  rw [List.take_length, hall] at hw
  have hw2 : wrT (rcR m) (rcR m).length = some s := by rw [rc_len, hw]
  have := wr0 (rc_any1 m h2 (by rw [hall]; exact hv'.1)) (rc_any2 m h2) (by rw [rc_len]; exact rc_dup m h4 _ (Nat.le_refl _)) hw2
  exact ⟨m, h1, h2, h4, hlen, this.1, this.2⟩
theorem rc_sum (m : List (UInt8 × Nat)) (t : Nat) (h : t < m.length) : (rcL (m.take (t + 1))).length = (rcL (m.take t)).length + (m[t]).2 := by
  rw [rcL_take m t h, List.length_append, List.length_replicate]
theorem rc_ne {m : List (UInt8 × Nat)} (h : ∀ i a b, (m.map Prod.fst)[i]? = some a → (m.map Prod.fst)[i + 1]? = some b → a ≠ b) {t : Nat} (ht : t + 1 < m.length) :
    ((⟨#[(m[t + 1]).1]⟩ : ByteArray).toList == (⟨#[(m[t]'(by omega)).1]⟩ : ByteArray).toList) = false := by
  rw [ByteArray.toList_eq, ByteArray.toList_eq, beq_eq_false_iff_ne]
  have := h t (m[t]'(by omega)).1 (m[t + 1]).1 (by rw [List.getElem?_map, List.getElem?_eq_getElem (by omega)]; rfl) (by rw [List.getElem?_map, List.getElem?_eq_getElem (by omega)]; rfl)
  intro e
  apply this
  simpa using e.symm
theorem walk_FnRuns (v : Value) (l : List UInt8) (v2 : Value) (l2 : List UInt8) (w : World) (h0 : InRow w v l.length 1 (u8s l)) (h0b : l.length ≤ 9223372036854775807) (h0c : True) (h1 : InRow w v2 l2.length 1 (u8s l2)) (h1b : l2.length ≤ 9223372036854775807) (h1c : True) :
    Calls Try.prog 16 #[v, v2] w fun e w' => e = .returned (.bool true) ∧ Below w.heap.size w w' := by
  have H0 := Lib.hid h0
  have H1 := Lib.hid h1
  clear h0 h1
  by_cases hlong : 3000 < l.length ∨ 3000 < l2.length
  · have HL : Hid ((decide (3000 < l.length) || decide (3000 < l2.length)) = true) := by show _ = _; simpa using hlong
    clear hlong
    go_enter Try.func16, Try.ntmps16
    go_wp2_with fail
    refine (l_a2Long v v2 _ _ _ _ w H0.out H1.out).mono ?_
    rintro e w1 ⟨rfl, rfl⟩
    rw [HL.out]
    go_wp2
    go_ret
    exact ⟨rfl, Below.refl _ _⟩
  · have HL : Hid ((decide (3000 < l.length) || decide (3000 < l2.length)) = false) := by show _ = _; simpa using hlong
    have hl : l.length ≤ 1048576 := by omega
    clear hlong
    go_enter Try.func16, Try.ntmps16
    go_wp2_with fail
    refine (l_a2Long v v2 _ _ _ _ w H0.out H1.out).mono ?_
    rintro e w1 ⟨rfl, rfl⟩
    rw [HL.out]
    go_wp2_with fail
    refine (s_A2Word v l 30 _ (by omega) hl H0.out).mono ?_
    rintro e w1 ⟨S, rfl, hS, hval, hg1⟩
    have b1 : Below w.heap.size w w1 := below_of_grown' hg1 (Nat.le_refl _) (fun _ e => by cases e)
    obtain ⟨m, hm1, hm2, hm3, hm4, hm5, hm6⟩ := rc_all hval
    have hlm : (rnTo S S.size).length ≤ 30 := by have := (rnTo_bd S S.size).1; omega
    rw [hm1] at hlm
    have hSm : S.size ≤ maxLen := by unfold maxLen; omega
    have HR := Lib.hid (i_RunsOf_ok S w1 hSm hval)
    rw [hm1] at HR
    have HW := Lib.hid (fun (g cap base : Nat) (w : World) => i_WordOfRuns (rcR m) g cap base w (by omega) (by
      intro r hr
      obtain ⟨x, hx, rfl⟩ := List.mem_map.1 hr
      show (1 : Nat) ≤ 1048576
      omega))
    rw [hm5, hm6] at HW
    have HB1 := Lib.hid b1
    have HM2 := Lib.hid hm2
    have HM3 := Lib.hid hm3
    have HM4 := Lib.hid hm4
    have hSs : S.size ≤ 30 := by omega
    clear hg1 b1 hm1 hm2 hm3 hm4 hm5 hm6 hval hSm h0b h0c h1b h1c HL hS
    go_wp2_with fail
    refine HR.out.mono ?_
    rintro e w2 ⟨g, cap, rfl, ho2, hb2⟩
    go_wp2_with fail
    refine (HW.out g cap _ _ ho2).mono ?_
    rintro e w3 ⟨rfl, hb3⟩
    have hgl := (ho2.lt g rfl).2
    have ho3 := owns_below ho2 hb3 (fun j hj => by injection hj with hj; subst hj; exact hgl)
    have hb13 : Below w.heap.size w w3 := (HB1.out.trans (hb2.mono HB1.out.size)).trans (hb3.mono (by have := HB1.out.size; have := hb2.size; omega))
    have hbase := (ho2.lt g rfl).1
    have hs13 := hb3.size
    have hgl3 : g < w3.heap.size := by omega
    have HO3 := Lib.hid ho3
    have HB13 := Lib.hid hb13
    have HBASE : Hid (w.heap.size ≤ w3.heap.size) := HB13.out.size
    clear ho2 hb2 ho3 hb3 hb13 hgl hs13 HR HW hbase HB1
    have hrl := rc_len m
    go_wp2
    go_loopw [10, 11] (fun s i wr => Below w3.heap.size w3 wr ∧ ∃ k : Nat, k ≤ (rcR m).length ∧ i = .int .i64 k ∧ s = .int .i64 ((rcL (m.take k)).length : Nat)) (fun _ i _ => (rcR m).length - (intOf i).toNat)
    case atStart => exact ⟨Below.refl _ _, 0, by omega, rfl, rfl⟩
    case round =>
      obtain ⟨hb, k, hk, rfl, rfl⟩ := hrel
      by_cases hlt : k < (rcR m).length
      · have hown := owns_below HO3.out hb (fun j hj => by injection hj with hj; subst hj; exact hgl3)
        have hlt' : k < m.length := by omega
        have hc1 := cell_1 hown hlt
        rw [rcA m k hlt'] at hc1
        have hsum := rc_sum m k hlt'
        have hle := rcL_le m (k + 1)
        have h2 := HM2.out _ (List.getElem_mem hlt')
        have hin : ((k : Nat) : Int) < (rcR m).length := by omega
        have h4 := HM4.out
        by_cases hk0 : k = 0
        · have HB := Lib.hid hb
          have HS := Lib.hid hsum
          generalize (m[k]).2 = x at *
          generalize (rcL (m.take k)).length = y at *
          have hx : x ≤ 30 := by omega
          have hy : y ≤ 30 := by omega
          have hx1 : ¬ (x : Int) < 1 := by omega
          have hxn : ¬ x = 0 := by omega
          have hnp : ¬ 0 < k := by omega
          clear hown hb hsum hle h4 hk0
          go_wp2
          have hxd : decide ((x : Int) < 1) = false := by rw [decide_eq_false_iff_not]; omega
          have hxe : ¬ (x : Int) < 1 := by omega
          go_big_quiet (fail)
          go_wp2
          go_roundw
          case rel => exact ⟨below_drewN HB.out _, k + 1, by omega, by go_num, by rw [HS.out]; go_num⟩
          case measure => first | (simp [intOf]; done) | (simp [intOf]; omega)
        · obtain ⟨k, rfl⟩ : ∃ j, k = j + 1 := ⟨k - 1, by omega⟩
          clear hk0
          have hlt0 : k < (rcR m).length := by omega
          have hc1a := cell_0 hown hlt
          have hc0a := cell_0 hown hlt0
          rw [rcA m (k + 1) hlt'] at hc1a
          rw [rcA m k (by omega)] at hc0a
          have hne := rc_ne HM3.out hlt'
          have HB := Lib.hid hb
          have HS := Lib.hid hsum
          generalize (⟨#[(m[k + 1]).1]⟩ : ByteArray) = c1 at *
          generalize (⟨#[(m[k]).1]⟩ : ByteArray) = c0 at *
          generalize (m[k + 1]).2 = x at *
          generalize (rcL (m.take (k + 1))).length = y at *
          have hx : x ≤ 30 := by omega
          have hy : y ≤ 30 := by omega
          have hx1 : ¬ (x : Int) < 1 := by omega
          have hxn : ¬ x = 0 := by omega
          have hin2 : (k : Int) + 1 < (rcR m).length := by omega
          have hin3 : (k : Int) < (rcR m).length := by omega
          have hin4 : (0 : Int) ≤ (k : Int) + 1 := by omega
          have hpos : 0 < k + 1 := by omega
          have hpos2 : (0 : Int) < (k : Int) + 1 := by omega
          clear hown hb hsum hle h4
          go_wp2
          have hxd : decide ((x : Int) < 1) = false := by rw [decide_eq_false_iff_not]; omega
          have hxe : ¬ (x : Int) < 1 := by omega
          go_big_quiet (fail)
          go_wp2
          go_roundw
          case rel => exact ⟨below_drewN HB.out _, k + 1 + 1, by omega, by go_num, by rw [HS.out]; go_num⟩
          case measure => first | (simp [intOf]; done) | (simp [intOf]; omega)
      · have ek : k = m.length := by omega
        have HF : Hid ((rcL (m.take k)).length = S.size) := by show _ = _; rw [ek, List.take_length]; exact HM4.out
        rw [HF.out]
        have HB := Lib.hid hb
        clear hb ek HF
        go_wp2
        go_ret
        exact ⟨rfl, HB13.out.trans (HB.out.mono HBASE.out)⟩
end Go.Proofs.Ytdighfjoechbkaa

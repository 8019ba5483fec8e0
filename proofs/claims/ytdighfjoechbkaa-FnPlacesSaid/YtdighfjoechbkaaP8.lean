/- FnPlaces: the places at which a word begins, and the number of different words of a length. -/
import Derived.Test.YtdighfjoechbkaaP7
import Derived.Test.YtdighfjoechbkaaC2
namespace Go.Proofs.Ytdighfjoechbkaa
open Go.ChangeShapes Go.WideShapes Go.RowKit
set_option linter.unusedVariables false
set_option linter.unusedSimpArgs false
set_option maxHeartbeats 1000000
set_option maxRecDepth 100000
theorem oc_mem (p s : ByteArray) : ∀ (k a : Nat), ((a : Int) ∈ ocTo p s k ↔ a < k ∧ ((s.extract a (a + p.size)).toList == p.toList) = true)
  | 0, a => by simp [ocTo]
  | k + 1, a => by
    have ih := oc_mem p s k a
    rw [ocTo]
    by_cases hc : ((s.extract k (k + p.size)).toList == p.toList) = true
    · rw [if_pos hc, List.mem_append, ih, List.mem_singleton]
      constructor
      · rintro (h | h)
        · exact ⟨by omega, h.2⟩
        · have : a = k := by omega
          subst this
          exact ⟨by omega, hc⟩
      · rintro ⟨h1, h2⟩
        by_cases e : a = k
        · right; omega
        · left; exact ⟨by omega, h2⟩
    · rw [if_neg hc, ih]
      constructor
      · rintro ⟨h1, h2⟩; exact ⟨by omega, h2⟩
      · rintro ⟨h1, h2⟩
        refine ⟨?_, h2⟩
        by_cases e : a = k
        · subst e; exact absurd h2 hc
        · omega
theorem oc_has (p s : ByteArray) (m a : Nat) (h : a < m) : decide ((a : Int) ∈ ocTo p s m) = ((s.extract a (a + p.size)).toList == p.toList) := by
  have e := oc_mem p s m a
  generalize ((s.extract a (a + p.size)).toList == p.toList) = b at *
  cases b
  · rw [decide_eq_false_iff_not, e]; simp
  · rw [decide_eq_true_eq, e]; exact ⟨h, rfl⟩
theorem oc_count (p s : ByteArray) (a : Nat) : (ocTo p s (a + 1)).length = (ocTo p s a).length + (if ((s.extract a (a + p.size)).toList == p.toList) = true then 1 else 0) := by
  rw [ocTo]; split <;> simp
theorem eqAt_less (s : ByteArray) (L i k : Nat) (h : eqAt s (L + 1) i k = true) : eqAt s L i k = true := by
  have e : ∀ j, (s.extract j (j + L)).toList = (s.extract j (j + (L + 1))).toList.take L := by
    intro j
    rw [ByteArray.toList_eq, ByteArray.toList_eq, ByteArray.data_extract, ByteArray.data_extract, Array.toList_extract, Array.toList_extract]
    show (s.data.toList.drop j).take (j + L - j) = ((s.data.toList.drop j).take (j + (L + 1) - j)).take L
    rw [List.take_take, show j + L - j = L by omega, show j + (L + 1) - j = L + 1 by omega, Nat.min_eq_left (by omega)]
  rw [eqAt, beq_iff_eq] at h ⊢
  rw [e k, e i, h]
theorem frA_more (s : ByteArray) (L i : Nat) : ∀ t, frA s L i t = true → frA s (L + 1) i t = true
  | 0, _ => rfl
  | t + 1, h => by
    simp only [frA, Bool.and_eq_true, Bool.not_eq_true'] at h ⊢
    refine ⟨frA_more s L i t h.1, ?_⟩
    cases hq : eqAt s (L + 1) i t
    · rfl
    · rw [eqAt_less s L i t hq] at h; exact absurd h.2 (by decide)
theorem fcN_more (s : ByteArray) (L : Nat) : ∀ i, fcN s L i ≤ fcN s (L + 1) i
  | 0 => Nat.le_refl _
  | i + 1 => by
    have ih := fcN_more s L i
    rw [fcN, fcN]
    by_cases h : frA s L i i = true
    · rw [if_pos h, if_pos (frA_more s L i i h)]; omega
    · rw [if_neg h]; split <;> omega
theorem fcN_pos (s : ByteArray) (L : Nat) : ∀ i, 1 ≤ fcN s L (i + 1)
  | 0 => by show 1 ≤ fcN s L 1; simp [fcN, frA]
  | i + 1 => by
    have := fcN_pos s L i
    rw [fcN]; split <;> omega
theorem fcN_step (s : ByteArray) (L i : Nat) : fcN s L (i + 1) ≤ fcN s L i + 1 := by
  rw [fcN]; split <;> omega
theorem fc_facts (s : ByteArray) (L : Nat) (h : L ≤ s.size) : 1 ≤ fcN s L (s.size + 1 - L) ∧ fcN s L (s.size + 1 - L) ≤ s.size + 1 - L ∧ (L < s.size → fcN s L (s.size + 1 - L) ≤ fcN s (L + 1) (s.size + 1 - (L + 1)) + 1) := by
  have e : s.size + 1 - L = s.size - L + 1 := by omega
  refine ⟨?_, fcN_le _ _ _, fun hl => ?_⟩
  · rw [e]; exact fcN_pos _ _ _
  · rw [e, show s.size + 1 - (L + 1) = s.size - L by omega]
    have := fcN_step s L (s.size - L)
    have := fcN_more s L (s.size - L)
    omega
theorem walk_FnPlaces (v : Value) (l : List UInt8) (v2 : Value) (l2 : List UInt8) (w : World) (h0 : InRow w v l.length 1 (u8s l)) (h0b : l.length ≤ 9223372036854775807) (h0c : True) (h1 : InRow w v2 l2.length 1 (u8s l2)) (h1b : l2.length ≤ 9223372036854775807) (h1c : True) :
    Calls Try.prog 11 #[v, v2] w fun e w' => e = .returned (.bool true) ∧ Below w.heap.size w w' := by
  have H0 := Lib.hid h0
  have H1 := Lib.hid h1
  clear h0 h1
  by_cases hlong : 3000 < l.length ∨ 3000 < l2.length
  · have HL : Hid ((decide (3000 < l.length) || decide (3000 < l2.length)) = true) := by show _ = _; simpa using hlong
    clear hlong
    go_enter Try.func11, Try.ntmps11
    go_wp2_with fail
    refine (l_a2Long v v2 _ _ _ _ w H0.out H1.out).mono ?_
    rintro e w1 ⟨rfl, rfl⟩
    rw [HL.out]
    go_wp2
    go_ret
    exact ⟨rfl, Below.refl _ _⟩
  have HL : Hid ((decide (3000 < l.length) || decide (3000 < l2.length)) = false) := by show _ = _; simpa using hlong
  have hl : l.length ≤ 1048576 := by omega
  have hl2 : l2.length ≤ 1048576 := by omega
  clear hlong
  go_enter Try.func11, Try.ntmps11
  go_wp2_with fail
  refine (l_a2Long v v2 _ _ _ _ w H0.out H1.out).mono ?_
  rintro e w1 ⟨rfl, rfl⟩
  rw [HL.out]
  go_wp2_with fail
  refine (s_A2Word v l 20 _ (by omega) hl H0.out).mono ?_
  rintro e w1 ⟨S, rfl, hS, hval, hg1⟩
  have b1 : Below w.heap.size w w1 := below_of_grown' hg1 (Nat.le_refl _) (fun _ e => by cases e)
  have i1 := inRow_below H1.out b1
  go_wp2_with fail
  refine (s_A2Word v2 l2 3 _ (by omega) hl2 i1).mono ?_
  rintro e w2 ⟨P, rfl, hP, hvalP, hg2⟩
  have b2 : Below w1.heap.size w1 w2 := below_of_grown' hg2 (Nat.le_refl _) (fun _ e => by cases e)
  have B2 := Lib.hid (b1.trans (b2.mono b1.size))
  have hSm : S.size ≤ maxLen := by unfold maxLen; omega
  have hPm : P.size ≤ maxLen := by unfold maxLen; omega
  have HOc := Lib.hid (fun w => i_OccurrencesOf P S w hPm hSm)
  clear hg1 b1 i1 hg2 b2 h0b h0c h1b h1c HL H0
  by_cases hz : P.size = 0
  · have he : P.toList.isEmpty = true := by
      rw [List.isEmpty_iff]; exact List.eq_nil_of_length_eq_zero (by rw [toList_size]; exact hz)
    have hc : ocC P S = 4 := by simp [ocC, hval, hvalP, he]
    rw [hc] at HOc
    clear hval hvalP hc hSm hPm he
    go_wp2_with fail
    refine (HOc.out _).mono ?_
    rintro e w3 ⟨v3, rfl, ho, hb3⟩
    have HB3 := Lib.hid (B2.out.trans (hb3.mono B2.out.size))
    clear hb3 ho
    go_wp2
    go_ret
    exact ⟨rfl, HB3.out⟩
  · have he : P.toList.isEmpty = false := by
      rw [List.isEmpty_eq_false_iff]; intro h; have h2 := toList_size P; rw [h] at h2; exact hz h2.symm
    have hc : ocC P S = 0 := by simp [ocC, hval, hvalP, he]
    have hcl : ocL P S = ocTo P S (S.size + 1 - P.size) := by simp [ocL, hval, hvalP, he]
    rw [hc, hcl] at HOc
    have HFc := Lib.hid (fun (L : Nat) (h : L ≤ S.size) w => (fc_in hval h).1 ▸ (fc_in hval h).2 ▸ i_FactorCount S L w hSm)
    have hlen := ocTo_len P S (S.size + 1 - P.size)
    clear hval hvalP hc hcl hSm hPm he
    have hz1 : 1 ≤ P.size := by omega
    have hzi : ((P.size : Int) == 0) = false := by rw [beq_eq_false_iff_ne]; omega
    go_wp2_with fail
    refine (HOc.out _).mono ?_
    rintro e w3 ⟨v3, rfl, ho, hb3⟩
    obtain ⟨a3, c3, rfl, -, hc3⟩ := owns_sl ho
    have HB3 := Lib.hid (B2.out.trans (hb3.mono B2.out.size))
    have HOWN := Lib.hid ho
    have HHAS := Lib.hid (fun a h => oc_has P S (S.size + 1 - P.size) a h)
    have HCNT := Lib.hid (oc_count P S)
    clear hb3 ho HOc
    go_wp2
    go_loopw [9, 10, 11] (fun c i _ wr => Below w3.heap.size w3 wr ∧ ∃ k : Nat, k ≤ S.size + 1 - P.size ∧ i = .int .i64 k ∧ c = .int .i64 ((ocTo P S k).length : Nat)) (fun _ i _ _ => S.size + 1 - (intOf i).toNat)
    case atStart => exact ⟨Below.refl _ _, 0, by omega, rfl, rfl⟩
    case round =>
      obtain ⟨hb, k, hk, rfl, rfl⟩ := hrel
      have HB := Lib.hid hb
      by_cases hlt : k + P.size ≤ S.size
      · have h1 := HHAS.out k (by omega)
        have hcn := HCNT.out k
        have hle := ocTo_len P S k
        generalize hb0 : ((S.extract k (k + P.size)).toList == P.toList) = b at *
        have HA := Lib.hid (fun w (h : Below w3.heap.size w3 w) => l_a2Has_b _ _ _ b _ w (owns_after HOWN.out h) h1)
        have HCN := Lib.hid hcn
        have hlt2 : (k : Int) + P.size ≤ S.size := by omega
        clear h1 hcn hb
        generalize (ocTo P S k).length = c at *
        cases b
        · go_wp2_with fail
          refine (HA.out _ HB.out).mono ?_
          rintro e w5 ⟨rfl, rfl⟩
          go_wp2
          go_roundw
          case rel => exact ⟨HB.out, k + 1, by omega, by go_num, by rw [HCN.out]; rfl⟩
          case measure => first | (simp [intOf]; done) | (simp [intOf]; omega)
        · go_wp2_with fail
          refine (HA.out _ HB.out).mono ?_
          rintro e w5 ⟨rfl, rfl⟩
          go_wp2
          go_roundw
          case rel => exact ⟨HB.out, k + 1, by omega, by go_num, by rw [HCN.out]; go_num⟩
          case measure => first | (simp [intOf]; done) | (simp [intOf]; omega)
      · have hkk : k = S.size + 1 - P.size := by omega
        have hlt2 : ¬ (k : Int) + P.size ≤ S.size := by omega
        have hcc : (ocTo P S k).length = (ocTo P S (S.size + 1 - P.size)).length := by rw [hkk]
        rw [hcc]
        generalize (ocTo P S (S.size + 1 - P.size)).length = c at *
        have hi := inRow_below H1.out (B2.out)
        have hi2 := Lib.hid (inRow_below H1.out (HB3.out.trans (HB.out.mono HB3.out.size)))
        clear hkk hcc hb hi
        go_wp2_with fail
        refine (l_a2At v2 l2 0 ((S.size : Int) + 1) _ hi2.out).mono ?_
        rintro e w6 ⟨L, rfl, hL, ⟨q6, rfl⟩⟩
        have hLS : L ≤ S.size := by omega
        obtain ⟨f1, f2, f3⟩ := fc_facts S L hLS
        have HF1 := Lib.hid (HFc.out L hLS)
        by_cases hLz : L = S.size
        · have hx1 : fcN S L (S.size + 1 - L) = 1 := by omega
          rw [hx1] at HF1
          clear f1 f2 f3 hx1 hL
          subst hLz
          go_wp2_with fail
          refine (HF1.out _).mono ?_
          rintro e w7 ⟨rfl, hb7⟩
          have HB7 : Hid (Below w.heap.size w w7) := by
            have s3 := HB3.out.size
            have s4 := HB.out.size
            have k6 := below_drewN (HB3.out.trans (HB.out.mono s3)) q6
            exact k6.trans (hb7.mono (by simp; omega))
          clear hb7
          go_wp2
          go_ret
          exact ⟨rfl, HB7.out⟩
        · have HF2 := Lib.hid (HFc.out (L + 1) (by omega))
          have f4 := f3 (by omega)
          have hlz2 : ¬ (L : Int) = S.size := by omega
          have hnk : (S.size : Int) - L + 1 = ((S.size + 1 - L : Nat) : Int) := by omega
          generalize fcN S L (S.size + 1 - L) = x at *
          generalize fcN S (L + 1) (S.size + 1 - (L + 1)) = y at *
          have hx1 : 1 ≤ (x : Int) := by omega
          have hx2 : (x : Int) ≤ (S.size : Int) - L + 1 := by omega
          have hx3 : (x : Int) - 1 ≤ y := by omega
          clear f1 f2 f3 hL hnk
          go_wp2_with fail
          refine (HF1.out _).mono ?_
          rintro e w7 ⟨rfl, hb7⟩
          go_wp2_with fail
          refine (HF2.out _).mono ?_
          rintro e w8 ⟨rfl, hb8⟩
          have HB8 : Hid (Below w.heap.size w w8) := by
            have s3 := HB3.out.size
            have s4 := HB.out.size
            have k6 := below_drewN (HB3.out.trans (HB.out.mono s3)) q6
            have s7 := hb7.size
            simp only [World.heap_drewN] at s7
            exact (k6.trans (hb7.mono (by simp; omega))).trans (hb8.mono (by omega))
          clear hb7 hb8
          go_wp2
          go_ret
          exact ⟨by simp, HB8.out⟩
end Go.Proofs.Ytdighfjoechbkaa

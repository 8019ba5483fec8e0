/- LongestTwice, of the program and of the reference, and its law. -/
import Derived.Test.YtecmnebppngcbaaY8
namespace Go.Proofs.Ytecmnebppngcbaa
open Go.ChangeShapes Go.WideShapes Go.RowKit
set_option linter.unusedVariables false
set_option linter.unusedSimpArgs false
set_option maxHeartbeats 2000000
set_option maxRecDepth 100000
/-- the longest beginning that stands twice, looked for from n down -/
def ltF (s : ByteArray) : Nat → Int
  | 0 => 0
  | n + 1 => if ((s.extract 0 (n + 1)).toList == (s.extract (n + 1) (2 * (n + 1))).toList) = true then ((n + 1 : Nat) : Int) else ltF s n
theorem ltF_yes {s : ByteArray} {n : Nat} (h : ((s.extract 0 (n + 1)).toList == (s.extract (n + 1) (2 * (n + 1))).toList) = true) : ltF s (n + 1) = ((n + 1 : Nat) : Int) := by rw [ltF, if_pos h]
theorem ltF_no {s : ByteArray} {n : Nat} (h : ((s.extract 0 (n + 1)).toList == (s.extract (n + 1) (2 * (n + 1))).toList) = false) : ltF s (n + 1) = ltF s n := by rw [ltF, if_neg (by simp [h])]
def ltC (l : List Ru) (i : Int) : Int := upC l i (lastI (gLn l))
def ltN (l : List Ru) (i : Int) : Int := if ltC l i = 0 then ltF ⟨(ptX l i (lastI (gLn l))).toArray⟩ ((ptX l i (lastI (gLn l))).length / 2) else 0
theorem lt_bad {l : List Ru} {i : Int} (h : gOk l = false) : ltC l i = 1 ∧ ltN l i = 0 := by
  have h2 : ltC l i = 1 := (up_bad (pkC_bad h) (by decide)).1
  exact ⟨h2, by rw [ltN, h2, if_neg (by decide)]⟩
theorem lt_out {l : List Ru} {i : Int} (h : gOk l = true) (h2 : ¬ (0 ≤ i ∧ i ≤ lastI (gLn l))) : ltC l i = 2 ∧ ltN l i = 0 := by
  have h3 : ltC l i = 2 := (up_bad (pkC_out h (by omega)) (by decide)).1
  exact ⟨h3, by rw [ltN, h3, if_neg (by decide)]⟩
theorem lt_long {l : List Ru} {i : Int} (h : gOk l = true) (h2 : 0 ≤ i ∧ i ≤ lastI (gLn l)) (h3 : lastI (gLn l) - i > 2000) : ltC l i = 3 ∧ ltN l i = 0 := by
  have h4 : ltC l i = 3 := (up_long (pkC_ok h (by omega)) h3).1
  exact ⟨h4, by rw [ltN, h4, if_neg (by decide)]⟩
theorem lt_ok {l : List Ru} {i : Int} (h : gOk l = true) (h2 : 0 ≤ i ∧ i ≤ lastI (gLn l)) (h3 : ¬ lastI (gLn l) - i > 2000) : ltC l i = 0 ∧ ltN l i = ltF ⟨(ptX l i (lastI (gLn l))).toArray⟩ ((ptX l i (lastI (gLn l))).length / 2) := by
  have h4 : ltC l i = 0 := (up_ok (pkC_ok h (by omega)) h3).1
  exact ⟨h4, by rw [ltN, if_pos h4]⟩
theorem inRu_drew {w : World} {v : Value} {l : List Ru} (h : InRu w v l) : InRu w.drew v l := inRu_below h (Below.drew (Below.refl _ _))
theorem i_LongestTwice (v : Value) (l : List Ru) (i : Int) (w : World) (hn : l.length ≤ 1048576) (hsz : ∀ r ∈ l, r.1.size ≤ 1048576) (hin : InRu w v l) :
    Calls Try.prog 9 #[.agg #[v], .int .i64 i] w fun e w' => e = .returned (.tuple #[.int .i64 (ltN l i), .int .i64 (ltC l i)]) ∧ Below w.heap.size w w' := by
  obtain ⟨a, cap, rfl⟩ := inRu_sl hin
  have b0 := box_cell w (.slice a l.length cap) 26
  have i0 := inRu_box (o := .cells #[.slice a l.length cap] 26) hin
  have HS := Lib.hid (i_lengths _ l _ hn hsz i0)
  cases hok : gOk l
  · have HF := Lib.hid (lt_bad (i := i) hok)
    rw [hok] at HS
    clear hsz hin hok b0 i0
    go_enter Try.func9, Try.ntmps9
    go_wp2_with fail
    refine HS.out.mono ?_
    rintro e w2 ⟨v2, rfl, ho, hb2⟩
    have hb3 := below_box hb2
    clear hb2 ho
    go_wp2
    go_ret2
    exact ⟨ret_ii HF.out.2.symm HF.out.1.symm, hb3⟩
  · rw [hok] at HS
    have hgl := (gOk_some hok).2.2.1
    have hl400 := (gOk_some hok).1
    have hbd := last_bd hok
    have HIL := Lib.hid (fun v base w ho => i_last v (gLn l) base w (by omega) ho)
    by_cases hi : 0 ≤ i ∧ i ≤ lastI (gLn l)
    · have HW := Lib.hid (fun w => i_within_r i 0 (lastI (gLn l)) true (by simp; omega) w)
      have HL : Hid (∀ (lv : Option Addr) (gl cl base : Nat) (w : World), InRu w (.slice a l.length cap) l → (l.length ≠ 0 → lv = some ⟨gl, 0, none⟩) → w.ownsRow base 2 1 (.slice lv l.length cl) l.length ((gLn l).map (Value.int .i64)) → lastI (gLn l) - i ≤ 2000 → Calls Try.prog 24 #[.agg #[.slice a l.length cap], .slice lv l.length cl, .int .i64 i, .int .i64 (lastI (gLn l))] w fun e w' => e = .returned (.string ⟨(ptX l i (lastI (gLn l))).toArray⟩) ∧ Below w.heap.size w w') :=
        fun lv gl cl base w h1' h2' h3' h4' => by
          have := i_unpack a lv cap gl cl base l i (lastI (gLn l)) w hok h1' h2' h3' (by rw [ptW_law hok hi.1, List.length_drop, List.length_take]; omega)
          rw [ptW_law hok hi.1] at this
          exact this
      have hpl : lastI (gLn l) - i ≤ 2000 → (ptX l i (lastI (gLn l))).length ≤ 2000 := fun h => by unfold ptX; rw [List.length_drop, List.length_take]; omega
      have HPL := Lib.hid hpl
      have HX2 : Hid (lastI (gLn l) - i > 2000 → _) := fun h => lt_long hok hi h
      have HX3 : Hid (¬ lastI (gLn l) - i > 2000 → _) := fun h => lt_ok hok hi h
      obtain ⟨hi1, hi2⟩ := hi
      generalize lastI (gLn l) = la at *
      generalize ptX l i la = pl at *
      obtain ⟨hbd0, hbd1⟩ := hbd
      clear hsz hin hok hpl
      go_enter Try.func9, Try.ntmps9
      go_wp2_with fail
      refine HS.out.mono ?_
      rintro e w2 ⟨v2, rfl, ho, hb2⟩
      have b2 := cell_later hb2 b0
      have i2 := inRu_below i0 hb2
      go_wp2_with fail
      refine (HIL.out v2 _ _ ho).mono ?_
      rintro e w3 ⟨rfl, q, rfl⟩
      have hb3 := below_drewN (below_box hb2) q
      have b3 : (w2.drewN q).cell? ⟨w.heap.size, 0, none⟩ = some (.slice a l.length cap) := by simpa using b2
      have i3 := inRu_drewN i2 q
      have ho3 := ownsRow_drewN ho q
      clear hb2 b2 i2 ho b0 i0
      go_wp2_with fail
      refine (HW.out _).mono ?_
      rintro e w4 ⟨rfl, rfl⟩
      go_wp2_with fail
      refine (HIL.out v2 _ _ ho3).mono ?_
      rintro e w4 ⟨rfl, q2, rfl⟩
      have hb4 : Below w.heap.size w (w2.drewN (q + q2)) := by simpa using below_drewN hb3 q2
      have b4 : (w2.drewN (q + q2)).cell? ⟨w.heap.size, 0, none⟩ = some (.slice a l.length cap) := by simpa using b3
      have i4 : InRu (w2.drewN (q + q2)) (.slice a l.length cap) l := by simpa using inRu_drewN i3 q2
      have ho4 : (w2.drewN (q + q2)).ownsRow (w.alloc (.cells #[.slice a l.length cap] 26)).heap.size 2 1 v2 (gLn l).length ((gLn l).map (Value.int .i64)) := by simpa using ownsRow_drewN ho3 q2
      clear hb3 b3 i3 ho3
      by_cases hlong : la - i > 2000
      · have HF := Lib.hid (HX2.out (by omega))
        have hlong' : 2000 < la - i := hlong
        clear hlong b4 i4 ho4
        go_wp2
        go_ret2
        exact ⟨ret_ii HF.out.2.symm HF.out.1.symm, hb4⟩
      · have HF := Lib.hid (HX3.out (by omega))
        have hlong' : ¬ 2000 < la - i := hlong
        have hpl := HPL.out (by omega)
        rw [hgl] at ho4
        obtain ⟨lv, cl, rfl, hsome, -⟩ := owns_sl3 ho4
        obtain ⟨gl, hlv⟩ : ∃ gl, l.length ≠ 0 → lv = some ⟨gl, 0, none⟩ := by
          by_cases h : l.length = 0
          · exact ⟨0, fun h' => absurd h h'⟩
          · obtain ⟨gl, e⟩ := hsome h; exact ⟨gl, fun _ => e⟩
        have HU := Lib.hid (fun base w hi ho => HL.out lv gl cl base w hi hlv ho (by omega))
        have HI2 := Lib.hid (fun base w ho => HIL.out (.slice lv l.length cl) base w ho)
        rw [hgl] at HI2
        clear hsome hlv hlong HS HW HX2 HX3 HPL
        go_wp2
        go_region_held3 (fun w' => w'.cell? ⟨w.heap.size, 0, none⟩ = some (.slice a l.length cap) ∧ InRu w' (.slice a l.length cap) l ∧ w'.ownsRow (w.alloc (.cells #[.slice a l.length cap] 26)).heap.size 2 1 (.slice lv l.length cl) l.length ((gLn l).map (Value.int .i64)) ∧ Below w.heap.size w w') (first | (go_split_ands; refine ⟨?_, ?_, ?_, ?_⟩ <;> first | assumption | exact inRu_drew (by assumption) | exact inRu_drewN (by assumption) _ | exact ownsRow_drew (by assumption) | exact ownsRow_drewN (by assumption) _ | exact Below.drew (by assumption) | exact below_drewN (by assumption) _ | (have h9 := below_drewN hb4 (1 + qL); simpa [Nat.add_assoc] using h9) | (have h9 := below_drewN hb4 qL; simpa [Nat.add_assoc] using h9) | exact cell_later hbU (by assumption) | exact inRu_below (by assumption) hbU | exact owns_after (by assumption) hbU | exact Below.trans ‹Below w.heap.size w _› (hbU.mono (Below.size ‹Below w.heap.size w _›)) | (simp; assumption))) (first | (go_at_call 23; refine (HI2.out _ _ (by first | assumption | exact ownsRow_drew (by assumption) | (go_split_ands; first | assumption | exact ownsRow_drew (by assumption)))).mono ?_; rintro e wL ⟨rfl, qL, rfl⟩) | (go_at_call 24; refine (HU.out _ _ (by first | assumption | (go_split_ands; first | assumption | exact inRu_drew (by assumption))) (by first | assumption | (go_split_ands; first | assumption | exact ownsRow_drew (by assumption)))).mono ?_; rintro e wU ⟨rfl, hbU⟩))
        rename_i hS
        have hb7 : Below w.heap.size w wU := hS.2.2.2
        clear hS hbU b4 i4 ho4 hb4
        obtain ⟨s, hs⟩ : ∃ s : ByteArray, s = ⟨pl.toArray⟩ := ⟨_, rfl⟩
        have hss : s.size = pl.length := by rw [hs]; simp [ByteArray.size]
        rw [← hs] at HF ⊢
        rw [← hss] at HF hpl
        clear hs hss
        have hq : ((s.size : Int) / 2) = ((s.size / 2 : Nat) : Int) := by omega
        have hle : s.size / 2 ≤ s.size := by omega
        have HLE : Hid (2 * (s.size / 2) ≤ s.size) := by show _ ≤ _; omega
        generalize s.size / 2 = h0 at *
        go_wp2
        go_loopw [9] (fun o wr => Below w.heap.size w wr ∧ ∃ k : Nat, k ≤ h0 ∧ o = .int .i64 k ∧ ltF s k = ltF s h0) (fun o _ => (intOf o).toNat)
        case atStart => exact ⟨by assumption, h0, Nat.le_refl _, by go_num, rfl⟩
        case round =>
          obtain ⟨hb9, k, hk, rfl, hlt⟩ := hrel
          have HLT := Lib.hid hlt
          clear hlt
          by_cases hk0 : 0 < k
          · obtain ⟨j, hj⟩ : ∃ j, k = j + 1 := ⟨k - 1, by omega⟩
            have hij : (k : Int) - 1 = (j : Int) := by omega
            have h2k : 2 * k ≤ s.size := by have := HLE.out; omega
            have HJ := Lib.hid hj
            have hmul : IntKind.i64.wrap (2 * (k : Int)) = 2 * (k : Int) := IntWalk.i64_in _ (by omega)
            cases heq : ((s.extract 0 k).toList == (s.extract k (2 * k)).toList)
            · have HN : Hid (ltF s k = ltF s j) := by show _ = _; rw [hj]; rw [hj] at heq; exact ltF_no heq
              clear hj
              go_wp2
              go_big_quiet (fail)
              go_wp2
              go_roundw
              case rel => exact ⟨below_drewN hb9 _, j, by have := HJ.out; omega, by first | rw [hij] | rfl | (congr 1; omega), by rw [← HN.out, HLT.out]⟩
              case measure => have := HJ.out; first | (simp [intOf]; done) | (simp [intOf]; omega)
            · have HN : Hid (ltF s k = (k : Int)) := by show _ = _; rw [hj]; rw [hj] at heq; exact ltF_yes heq
              clear hj
              go_wp2
              go_big_quiet (fail)
              go_wp2
              go_ret2
              exact ⟨ret_ii (by rw [HF.out.2, ← HLT.out, HN.out]) HF.out.1.symm, below_drewN hb9 _⟩
          · have hk1 : k = 0 := by omega
            subst hk1
            go_wp2
            go_ret2
            exact ⟨ret_ii (by rw [HF.out.2, ← HLT.out]; rfl) HF.out.1.symm, hb9⟩
    · have HF := Lib.hid (lt_out hok hi)
      have HW := Lib.hid (fun w => i_within_r i 0 (lastI (gLn l)) false (by simp; omega) w)
      clear hi
      generalize lastI (gLn l) = la at *
      obtain ⟨hbd0, hbd1⟩ := hbd
      clear hsz hin hok b0 i0
      go_enter Try.func9, Try.ntmps9
      go_wp2_with fail
      refine HS.out.mono ?_
      rintro e w2 ⟨v2, rfl, ho, hb2⟩
      go_wp2_with fail
      refine (HIL.out v2 _ _ ho).mono ?_
      rintro e w3 ⟨rfl, q, rfl⟩
      have hb3 := below_drewN (below_box hb2) q
      clear hb2 ho
      go_wp2_with fail
      refine (HW.out _).mono ?_
      rintro e w4 ⟨rfl, rfl⟩
      go_wp2
      go_ret2
      exact ⟨ret_ii HF.out.2.symm HF.out.1.symm, hb3⟩
end Go.Proofs.Ytecmnebppngcbaa

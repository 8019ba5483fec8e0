/- A ride of the program: its length, how often states are met, the least number of letters behind which something has come so often. -/
import Derived.Test.YtimfbnjgodbgoaaVF
import Derived.Test.YtimfbnjgodbgoaaY4
namespace Go.Proofs.Ytimfbnjgodbgoaa
open Go.ChangeShapes Go.WideShapes Go.RowKit
set_option linter.unusedVariables false
set_option linter.unusedSimpArgs false
set_option maxHeartbeats 1000000
set_option maxRecDepth 100000
/-- a ride that lies in memory -/
structure InRd (w : World) (u1 u2 vg vl vm : Value) (a : Au) (l : List Ru) : Prop where
  fi : InI w u1 a.fi
  nx : InT w u2 a.nx
  gr : InRu w vg l
  ln : ∃ B0, w.ownsRow B0 2 1 vl l.length ((gLn l).map (Value.int .i64))
  mp : InT w vm (gSm a.nx l)
theorem inRd_below {w w' : World} {u1 u2 vg vl vm : Value} {a : Au} {l : List Ru} (h : InRd w u1 u2 vg vl vm a l) (hb : Below w.heap.size w w') : InRd w' u1 u2 vg vl vm a l := by
  obtain ⟨B0, hl⟩ := h.ln
  exact ⟨inI_below h.fi hb, inT_below h.nx hb, inRu_below h.gr hb, ⟨B0, owns_after hl hb⟩, inT_below h.mp hb⟩
theorem rd_visits {u1 u2 vg vl vm : Value} {a : Au} {l : List Ru} {w : World} (h : InRd w u1 u2 vg vl vm a l) (hok : gOk l = true) (ha : auOk a = true) (j : Int) :
    Calls Try.prog 71 #[.agg #[.int .i64 a.st, .int .i64 a.sa, u1, u2, vg, vl, vm], .int .i64 j] w fun e w' => ∃ v', e = .returned v' ∧ w'.ownsRow w.heap.size 2 1 v' a.nx.length ((viV a l j).map (Value.int .i64)) ∧ Below w.heap.size w w' := by
  obtain ⟨B0, hl⟩ := h.ln
  exact i_visits u1 u2 vg vl vm a l j B0 w hok ha h.fi h.nx h.gr hl h.mp
theorem gLn_len2 {l : List Ru} (hok : gOk l = true) : (gLn l).length = l.length := (gOk_some hok).2.2.1
theorem rd_length {u1 u2 vg vl vm : Value} {a : Au} {l : List Ru} {w : World} (h : InRd w u1 u2 vg vl vm a l) (hok : gOk l = true) :
    Calls Try.prog 42 #[.agg #[.int .i64 a.st, .int .i64 a.sa, u1, u2, vg, vl, vm]] w fun e w' => e = .returned (.int .i64 (lastI (gLn l))) ∧ Below w.heap.size w w' := by
  obtain ⟨B0, hl⟩ := h.ln
  have hb := (Below.refl w.heap.size w).alloc (Nat.le_refl _) (.cells #[.int .i64 a.st, .int .i64 a.sa, u1, u2, vg, vl, vm] 69)
  have HL := Lib.hid (i_last vl (gLn l) B0 _ (by rw [gLn_len2 hok]; have := (gOk_some hok).1; omega) (by rw [gLn_len2 hok]; exact owns_after hl hb))
  have HB := Lib.hid hb
  have h1 := h.fi
  have h2 := h.nx
  have h3 := h.gr
  have h5 := h.mp
  obtain ⟨a1, k1, rfl⟩ := inI_sl h1
  obtain ⟨a2, k2, rfl⟩ := inT_sl h2
  obtain ⟨ag, kg, rfl⟩ := inRu_sl h3
  obtain ⟨al, kl, rfl, -, -⟩ := owns_sl3 hl
  obtain ⟨am, km, rfl⟩ := inT_sl h5
  clear h hl hb h1 h2 h3 h5
  generalize lastI (gLn l) = L at *
  go_enter Try.func42, Try.ntmps42
  go_wp2_with fail
  refine HL.out.mono ?_
  rintro e w2 ⟨rfl, hq⟩
  have hb2 := HB.out.trans ((below_qt hq).mono HB.out.size)
  clear hq
  go_wp2
  go_ret
  exact ⟨rfl, hb2⟩
def tmS (c xs : List Int) : Nat → Int
  | 0 => 0
  | k + 1 => wrap64 (tmS c xs k + c.getD (xs.getD k 0).toNat 0)
theorem rd_times {u1 u2 vg vl vm vs : Value} {a : Au} {l : List Ru} {xs : List Int} {w : World} (h : InRd w u1 u2 vg vl vm a l) (hok : gOk l = true) (ha : auOk a = true) (hx : InI w vs xs) (hxl : xs.length ≤ 1048576) (hxb : ∀ k, k < xs.length → 0 ≤ xs.getD k 0 ∧ xs.getD k 0 < a.nx.length) (j : Int) :
    Calls Try.prog 61 #[.agg #[.int .i64 a.st, .int .i64 a.sa, u1, u2, vg, vl, vm], vs, .int .i64 j] w fun e w' => e = .returned (.int .i64 (tmS (viV a l j) xs xs.length)) ∧ Below w.heap.size w w' := by
  have hb := (Below.refl w.heap.size w).alloc (Nat.le_refl _) (.cells #[.int .i64 a.st, .int .i64 a.sa, u1, u2, vg, vl, vm] 69)
  have HV := Lib.hid (rd_visits (inRd_below h hb) hok ha j)
  have HB := Lib.hid hb
  have HX := Lib.hid (inI_below hx hb)
  have hvl := viV_len a l j
  obtain ⟨a1, k1, rfl⟩ := inI_sl h.fi
  obtain ⟨a2, k2, rfl⟩ := inT_sl h.nx
  obtain ⟨ag, kg, rfl⟩ := inRu_sl h.gr
  obtain ⟨B0, hl⟩ := h.ln
  obtain ⟨al, kl, rfl, -, -⟩ := owns_sl3 hl
  obtain ⟨am, km, rfl⟩ := inT_sl h.mp
  obtain ⟨ax, kx, rfl⟩ := inI_sl hx
  have HXB := Lib.hid hxb
  have HST : Hid (∀ k, tmS (viV a l j) xs (k + 1) = wrap64 (tmS (viV a l j) xs k + (viV a l j).getD (xs.getD k 0).toNat 0)) := fun k => rfl
  clear h hok ha hb hx hl hxb
  go_enter Try.func61, Try.ntmps61
  go_wp2_with fail
  refine HV.out.mono ?_
  rintro e w2 ⟨v', rfl, ho, hb2⟩
  obtain ⟨av, kv, rfl, hsome, -⟩ := owns_sl3 ho
  have HO := Lib.hid ho
  have hx2 := inI_below HX.out hb2
  have hb3 := HB.out.trans (hb2.mono HB.out.size)
  have HX2 := Lib.hid hx2
  have HB3 := Lib.hid hb3
  clear HV ho hb2 hx2 hb3
  go_wp2
  go_loop [7, 10, 16] (fun t _ i => ∃ k : Nat, k ≤ xs.length ∧ i = .int .i64 k ∧ t = .int .i64 (tmS (viV a l j) xs k)) (fun _ _ i => xs.length - (intOf i).toNat)
  case atStart => exact ⟨0, by omega, rfl, rfl⟩
  case round =>
    obtain ⟨k, hk, rfl, rfl⟩ := hrel
    by_cases hlt : k < xs.length
    · have hin : (k : Int) < xs.length := by omega
      obtain ⟨gx, fx, rfl, hgx, hvx⟩ := inI_at HX2.out hlt
      obtain ⟨h0, h1⟩ := HXB.out k hlt
      obtain ⟨s, hs⟩ := Int.eq_ofNat_of_zero_le h0
      have hsl : s < a.nx.length := by omega
      have hsI : (s : Int) < a.nx.length := by omega
      obtain ⟨g, hg⟩ := hsome (by omega)
      subst hg
      have hc := own_get HO.out hvl hsl
      have HS : Hid (tmS (viV a l j) xs (k + 1) = wrap64 (tmS (viV a l j) xs k + (viV a l j).getD s 0)) := by show _ = _; rw [HST.out, hs]; rfl
      rw [hs] at hvx
      clear hs h0 h1
      generalize tmS (viV a l j) xs k = t at *
      generalize (viV a l j).getD s 0 = x at *
      go_wp2
      go_round
      case rel => exact ⟨k + 1, by omega, by go_num, by rw [HS.out]⟩
      case measure => first | (simp [intOf]; done) | (simp [intOf]; omega)
    · have e : k = xs.length := by omega
      subst e
      have hnl : ¬ ((xs.length : Int) < xs.length) := by omega
      go_wp2
      go_ret
      exact ⟨rfl, HB3.out⟩
theorem fi_bd {a : Au} (ha : auOk a = true) : ∀ k, k < a.fi.length → 0 ≤ a.fi.getD k 0 ∧ a.fi.getD k 0 < a.nx.length := by
  obtain ⟨f1, f2, f3, f4, f5⟩ := auOk_facts ha
  intro k hk
  unfold riOk at f3
  have := (of_decide_eq_true f3 k hk).1
  omega
theorem fi_len {a : Au} (ha : auOk a = true) : a.fi.length ≤ 24 := by
  obtain ⟨f1, f2, f3, f4, f5⟩ := auOk_facts ha
  unfold riOk at f3
  have f3 := of_decide_eq_true f3
  have h : ∀ k : Nat, k < a.fi.length → (k : Int) ≤ a.fi.getD k 0 := by
    intro k
    induction k with
    | zero => intro hk; have := (f3 0 hk).1.1; omega
    | succ k ih =>
      intro hk
      have h1 := (f3 (k + 1) hk).2 (by omega)
      have h2 := ih (by omega)
      simp only [Nat.add_sub_cancel] at h1
      omega
  by_cases h0 : a.fi.length = 0
  · omega
  · have h1 := h (a.fi.length - 1) (by omega)
    have h2 := (f3 (a.fi.length - 1) (by omega)).1.2
    omega
theorem rd_ends {u1 u2 vg vl vm : Value} {a : Au} {l : List Ru} {w : World} (h : InRd w u1 u2 vg vl vm a l) (hok : gOk l = true) (ha : auOk a = true) (j : Int) :
    Calls Try.prog 41 #[.agg #[.int .i64 a.st, .int .i64 a.sa, u1, u2, vg, vl, vm], .int .i64 j] w fun e w' => e = .returned (.int .i64 (tmS (viV a l j) a.fi a.fi.length)) ∧ Below w.heap.size w w' := by
  have hb := (Below.refl w.heap.size w).alloc (Nat.le_refl _) (.cells #[.int .i64 a.st, .int .i64 a.sa, u1, u2, vg, vl, vm] 69)
  have HT := Lib.hid (rd_times (inRd_below h hb) hok ha (inI_below h.fi hb) (by have := fi_len ha; omega) (fi_bd ha) j)
  have HB := Lib.hid hb
  obtain ⟨a1, k1, rfl⟩ := inI_sl h.fi
  obtain ⟨a2, k2, rfl⟩ := inT_sl h.nx
  obtain ⟨ag, kg, rfl⟩ := inRu_sl h.gr
  obtain ⟨B0, hl⟩ := h.ln
  obtain ⟨al, kl, rfl, -, -⟩ := owns_sl3 hl
  obtain ⟨am, km, rfl⟩ := inT_sl h.mp
  clear h hok ha hb hl
  generalize tmS (viV a l j) a.fi a.fi.length = r at *
  go_enter Try.func41, Try.ntmps41
  go_wp2_with fail
  refine HT.out.mono ?_
  rintro e w2 ⟨rfl, hb2⟩
  have hb3 := HB.out.trans (hb2.mono HB.out.size)
  clear hb2
  go_wp2
  go_ret
  exact ⟨rfl, hb3⟩
/-- r is the least number for which f comes to c -/
def lsP (f : Int → Int) (N c r : Int) : Prop := (f N < c ∧ r = 0) ∨ (c ≤ f N ∧ 0 ≤ r ∧ r ≤ N ∧ c ≤ f r ∧ ∀ j, 0 ≤ j → j < r → f j < c)
theorem rd_least {u1 u2 vg vl vm : Value} {a : Au} {l : List Ru} {w : World} (h : InRd w u1 u2 vg vl vm a l) (hok : gOk l = true) (c : Int) (f : Int → Int) (F : Nat) (F1 C : Array Value) (eF : ∀ args w, (callFunc F args).run Try.prog w = .ok (.enter F args) w)
    (hm : ∀ i j, 0 ≤ i → i ≤ j → j ≤ lastI (gLn l) → f i ≤ f j)
    (HF : ∀ j w', 0 ≤ j → j ≤ lastI (gLn l) → Below w.heap.size w w' → Calls Try.prog F (F1.push (.int .i64 j) ++ C) w' fun e w'' => e = .returned (.int .i64 (f j)) ∧ Below w'.heap.size w' w'') :
    Calls Try.prog 50 #[.agg #[.int .i64 a.st, .int .i64 a.sa, u1, u2, vg, vl, vm], .int .i64 c, .func (.func F) F1 C] w fun e w' => ∃ r, e = .returned (.tuple #[.int .i64 r, .bool (decide (c ≤ f (lastI (gLn l))))]) ∧ lsP f (lastI (gLn l)) c r ∧ Below w.heap.size w w' := by
  have hb := (Below.refl w.heap.size w).alloc (Nat.le_refl _) (.cells #[.int .i64 a.st, .int .i64 a.sa, u1, u2, vg, vl, vm] 69)
  have HL := Lib.hid (rd_length (inRd_below h hb) hok)
  have HB := Lib.hid hb
  have hN : 0 ≤ lastI (gLn l) ∧ lastI (gLn l) ≤ 1000000000000000 := by
    by_cases hz : (gLn l).length = 0
    · rw [lastI_nil hz]; omega
    · rw [lastI_at hz]
      have := (gOk_some hok).2.2.2 _ (getD_mem (show (gLn l).length - 1 < (gLn l).length by omega))
      omega
  obtain ⟨a1, k1, rfl⟩ := inI_sl h.fi
  obtain ⟨a2, k2, rfl⟩ := inT_sl h.nx
  obtain ⟨ag, kg, rfl⟩ := inRu_sl h.gr
  obtain ⟨B0, hl⟩ := h.ln
  obtain ⟨al, kl, rfl, -, -⟩ := owns_sl3 hl
  obtain ⟨am, km, rfl⟩ := inT_sl h.mp
  have HFH := Lib.hid HF
  have HMH := Lib.hid hm
  clear h hok hb hl HF hm
  obtain ⟨N, hNe⟩ : ∃ N : Nat, lastI (gLn l) = (N : Int) := ⟨(lastI (gLn l)).toNat, by omega⟩
  rw [hNe] at hN HL HFH HMH ⊢
  clear hNe
  obtain ⟨hN0, hN1⟩ := hN
  go_enter Try.func50, Try.ntmps50
  go_wp2_with fail
  refine HL.out.mono ?_
  rintro e w2 ⟨rfl, hb2⟩
  have hb3 := HB.out.trans (hb2.mono HB.out.size)
  have HB3 := Lib.hid hb3
  have HC := Lib.hid (HFH.out (N : Int) w2 (by omega) (Int.le_refl _) hb3)
  clear hb2 hb3 HL
  go_wp2_with fail
  refine HC.out.mono ?_
  rintro e w3 ⟨rfl, hb4⟩
  have hb5 := HB3.out.trans (hb4.mono HB3.out.size)
  clear hb4 HC HB3
  by_cases hc : f N < c
  · have hcb : decide (f N < c) = true := decide_eq_true hc
    have HLS : Hid (lsP f N c 0) := .inl ⟨hc, rfl⟩
    have HCB : Hid (decide (c ≤ f N) = false) := decide_eq_false (by omega)
    go_wp2
    go_ret2
    exact ⟨0, by rw [HCB.out]; rfl, HLS.out, hb5⟩
  · have hcb : decide (f N < c) = false := decide_eq_false hc
    have hbe : c ≤ f N := by omega
    have HCB : Hid (decide (c ≤ f N) = true) := decide_eq_true hbe
    have HBE := Lib.hid hbe
    have HB5 := Lib.hid hb5
    clear hb5 hbe
    go_wp2
    go_loopw [8, 9, 10] (fun lo hi _ wr => Below w.heap.size w wr ∧ ∃ x y : Nat, x ≤ y ∧ y ≤ N ∧ lo = .int .i64 x ∧ hi = .int .i64 y ∧ c ≤ f y ∧ ∀ j : Int, 0 ≤ j → j < x → f j < c) (fun lo hi _ _ => (intOf hi).toNat - (intOf lo).toNat)
    case atStart => exact ⟨HB5.out, 0, N, by omega, by omega, rfl, rfl, HBE.out, fun j h1 h2 => absurd h2 (by simp; omega)⟩
    case round =>
      obtain ⟨hb, x, y, hxy, hyN, rfl, rfl, hy, hx⟩ := hrel
      have HB := Lib.hid hb
      have HY := Lib.hid hy
      have HX := Lib.hid hx
      clear hb hy hx hc hcb
      by_cases hlt : x < y
      · have hin : (x : Int) < y := by omega
        obtain ⟨z, hz⟩ : ∃ z : Nat, (x + y) / 2 = z := ⟨_, rfl⟩
        have hq : ((x : Int) + (y : Int)).tdiv 2 = (z : Int) := by
          rw [Int.tdiv_eq_ediv_of_nonneg (by omega)]
          omega
        have hxz : x ≤ z := by omega
        have hzy : z < y := by omega
        have hzN : (z : Int) ≤ N := by omega
        have HC := Lib.hid (HFH.out (z : Int) wr (by omega) hzN HB.out)
        clear hz
        go_wp2_with fail
        refine HC.out.mono ?_
        rintro e w4 ⟨rfl, hb4⟩
        have hb5 := HB.out.trans (hb4.mono HB.out.size)
        clear hb4 HC HB
        by_cases hc : c ≤ f z
        · have hcb : decide (c ≤ f z) = true := decide_eq_true hc
          have HC := Lib.hid hc
          go_wp2
          go_roundw
          case rel => exact ⟨hb5, x, z, by omega, by omega, rfl, rfl, HC.out, HX.out⟩
          case measure => first | (simp [intOf]; done) | (simp [intOf]; omega)
        · have hcb : decide (c ≤ f z) = false := decide_eq_false hc
          have HC := Lib.hid hc
          go_wp2
          go_roundw
          case rel =>
            refine ⟨hb5, z + 1, y, by omega, by omega, by go_num, rfl, HY.out, fun j h1 h2 => ?_⟩
            have := HMH.out j z h1 (by omega) hzN
            have := HC.out
            omega
          case measure => first | (simp [intOf]; done) | (simp [intOf]; omega)
      · have hnl : ¬ ((x : Int) < y) := by omega
        obtain rfl : x = y := by omega
        have HLS : Hid (lsP f N c x) := .inr ⟨by have := HMH.out x N (by omega) (by omega) (Int.le_refl _); have := HY.out; omega, by omega, by omega, HY.out, HX.out⟩
        have hb := HB.out
        go_wp2
        go_ret2
        exact ⟨x, by rw [HCB.out]; rfl, HLS.out, hb⟩
end Go.Proofs.Ytimfbnjgodbgoaa

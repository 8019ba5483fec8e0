/- Slices of runs that come in: their size, and the copies that the laws make of them. -/
import Derived.Test.YtdighfjoechbkaaR1
namespace Go.Proofs.Ytdighfjoechbkaa
open Go.ChangeShapes Go.WideShapes Go.RowKit
set_option linter.unusedVariables false
set_option linter.unusedSimpArgs false
set_option maxHeartbeats 4000000
set_option maxRecDepth 100000
/-- a slice that came in: its cells, element by element -/
def InRow (w : World) (v : Value) (n size : Nat) (xs : List Value) : Prop :=
  (n = 0 ∧ xs = [] ∧ ∃ a cap, v = .slice a 0 cap) ∨ ∃ b off cap, v = .slice (some ⟨b, off, none⟩) n cap ∧ b < w.heap.size ∧ n ≤ cap ∧ cap ≤ maxLen ∧ ∀ j, j < n * size → w.cell? ⟨b, off + j, none⟩ = xs[j]?
theorem inRow_below {w w' : World} {v : Value} {n size : Nat} {xs : List Value} (h : InRow w v n size xs) (hb : Below w.heap.size w w') : InRow w' v n size xs := by
  rcases h with h | ⟨b, off, cap, h1, h2, h3, h4, h5⟩
  · exact .inl h
  · exact .inr ⟨b, off, cap, h1, Nat.lt_of_lt_of_le h2 hb.size, h3, h4, fun j hj => by rw [hb.cell (p := ⟨b, off + j, none⟩) h2]; exact h5 j hj⟩
theorem l_szRun (a : ByteArray) (x : Int) (left : Int) (w : World) (h0 : 0 ≤ left) (h1 : left ≤ 1048576) (ha : a.size ≤ 9223372036854775807) : Calls Try.prog 72 #[.agg #[.string a, .int .i64 x], .int .i64 left] w fun e w' => e = .returned (.int .i64 (if left - a.size < 0 then -1 else left - a.size)) ∧ Below w.heap.size w w' := by
  by_cases h : left - a.size < 0
  · rw [if_pos h]
    go_enter Try.func72, Try.ntmps72
    go_wp2
    go_ret
    exact ⟨rfl, (by repeat (first | exact Below.refl _ _ | assumption | apply Below.drew | (refine Below.alloc ?_ (by simp) _) | (refine Below.setCell ?_ (by simp) _)))⟩
  · rw [if_neg h]
    have h2 : ¬ left < a.size := by omega
    go_enter Try.func72, Try.ntmps72
    go_wp2
    go_ret
    exact ⟨rfl, (by repeat (first | exact Below.refl _ _ | assumption | apply Below.drew | (refine Below.alloc ?_ (by simp) _) | (refine Below.setCell ?_ (by simp) _)))⟩
theorem l_toRun (a : ByteArray) (x : Int) (w : World) : Calls Try.prog 73 #[.agg #[.string a, .int .i64 x]] w fun e w' => e = .returned (.agg #[.string a, .int .i64 x]) ∧ Below w.heap.size w w' := by
  go_enter Try.func73, Try.ntmps73
  go_wp2
  exact bodyPost_ret (v := .agg #[.string a, .int .i64 x]) (by simp [results, Try.results73, go_sem]) rfl ⟨rfl, (by repeat (first | exact Below.refl _ _ | assumption | apply Below.drew | (refine Below.alloc ?_ (by first | (simp; done) | (simp; omega)) _) | (refine Below.setCell ?_ (by first | (simp; done) | (simp; omega)) _)))⟩
theorem info_run' : (Try.prog.info? 66).map (fun i => (i.zero, i.size, i.bytes)) = some (some (.agg #[.string ⟨#[]⟩, .int .i64 0]), 2, 24) := by kernel_rfl
theorem owns_nil0 {w : World} {base e size cap : Nat} {a : Option Addr} {xs : List Value} (h : w.ownsRow base e size (.slice a 0 cap) 0 xs) : w.ownsRow base e size (.slice a 0 cap) 0 [] := by
  have e0 := List.eq_nil_of_length_eq_zero (show xs.length = 0 by simpa using h.1)
  rwa [e0] at h
theorem l_toRunS (v : Value) (l : List (ByteArray × Int)) (w : World) (hn : l.length ≤ 1048576) (hin : InRow w v l.length 2 (rnV l)) :
    Calls Try.prog 43 #[v] w fun e w' => ∃ g cap, e = .returned (.slice (some ⟨g, 0, none⟩) l.length cap) ∧ w'.ownsRow w.heap.size 66 2 (.slice (some ⟨g, 0, none⟩) l.length cap) l.length (rnV l) ∧ Below w.heap.size w w' := by
  obtain ⟨i0, hi, hz0, hz1, hz2⟩ := info_parts info_run'
  rcases hin with ⟨h0, _, a, cap, rfl⟩ | ⟨b, off, cap, rfl, hb, hnc, hcm, hc⟩
  · have hl : l = [] := List.eq_nil_of_length_eq_zero h0
    subst hl
    go_enter Try.func43, Try.ntmps43
    go_wp2_with (at_make; refine wpList_make_full _ rfl _ _ 37 rfl w.heap.size 66 i0 (.agg #[.string ⟨#[]⟩, .int .i64 0]) 2 Try.underlying37 hi hz0 hz1 .i64 .i64 _ _ 0 rfl rfl rfl rfl (by rw [hz2]; decide) (by decide) (Nat.le_refl _) ?_; intro w1 ho1 hg1)
    refine wp_loop_rounds 1 ?_
    rw [rounds_succ]
    go_wp2
    go_ret
    exact ⟨_, _, rfl, owns_nil0 ho1, below_of_grown hg1 (Nat.le_refl _) (fun k hk => by cases hk)⟩
  · unfold maxLen at hcm
    have HC := Lib.hid hc
    clear hc
    go_enter Try.func43, Try.ntmps43
    go_wp2_with (at_make; refine wpList_make_full _ rfl _ _ 37 rfl w.heap.size 66 i0 (.agg #[.string ⟨#[]⟩, .int .i64 0]) 2 Try.underlying37 hi hz0 hz1 .i64 .i64 _ _ l.length rfl rfl rfl rfl (by rw [hz2]; omega) (by unfold maxLen; omega) (Nat.le_refl _) ?_; intro w1 ho1 hg1)
    have hbel : Below w.heap.size w w1 := below_of_grown hg1 (Nat.le_refl _) (fun k hk => by cases hk)
    have HO := Lib.hid ho1
    clear ho1
    have hgl := (HO.out.lt _ rfl).2
    go_loopw [4] (fun i wr => Below w.heap.size w wr ∧ ∃ (k : Nat) (zs : List Value), k ≤ l.length ∧ i = .int .i64 k ∧ wr.ownsRow w.heap.size 66 2 (.slice (some ⟨w.heap.size, 0, none⟩) l.length l.length) l.length zs ∧ ∀ t, t < k → zs[t * 2]? = (rnV l)[t * 2]? ∧ zs[t * 2 + 1]? = (rnV l)[t * 2 + 1]?) (fun i _ => l.length - (intOf i).toNat)
    case atStart => exact ⟨hbel, 0, _, by omega, rfl, HO.out, fun t ht => by omega⟩
    case round =>
      obtain ⟨hb2, k, zs, hk, rfl, hzs, hall⟩ := hrel
      have HA := Lib.hid hall
      have HZ := Lib.hid hzs.1
      clear hall
      by_cases hlt : k < l.length
      · have e0 := rnV_0 l k hlt
        have e1 := rnV_1 l k hlt
        have hc0 : wr.cell? ⟨b, off + k * 2, none⟩ = some (.string (l.getD k (⟨#[]⟩, 0)).1) := by
          rw [hb2.cell (p := ⟨b, off + k * 2, none⟩) hb, HC.out _ (by omega)]; exact e0
        have hc1 : wr.cell? ⟨b, off + k * 2 + 1, none⟩ = some (.int .i64 (l.getD k (⟨#[]⟩, 0)).2) := by
          rw [hb2.cell (p := ⟨b, off + k * 2 + 1, none⟩) hb, Nat.add_assoc, HC.out _ (by omega)]; exact e1
        have E0 := Lib.hid e0
        have E1 := Lib.hid e1
        have HO2 := Lib.hid hzs
        have HB2 := Lib.hid hb2
        have hin : ((k : Nat) : Int) < l.length := by omega
        clear e0 e1 hzs
        generalize (l.getD k (⟨#[]⟩, 0)).1 = x1 at *
        generalize (l.getD k (⟨#[]⟩, 0)).2 = x2 at *
        go_wp2_with fail
        refine (l_toRun _ _ _).mono ?_
        rintro e w2 ⟨rfl, hb3⟩
        have hzs := owns_after HO2.out hb3
        obtain ⟨z0, hz0'⟩ : ∃ z, zs[k * 2]? = some z := ⟨_, List.getElem?_eq_getElem (by have := HZ.out; omega)⟩
        obtain ⟨z1, hz1'⟩ : ∃ z, zs[k * 2 + 1]? = some z := ⟨_, List.getElem?_eq_getElem (by have := HZ.out; omega)⟩
        have hcell : w2.cell? ⟨w.heap.size, k * 2, none⟩ = some z0 := by rw [hzs.cellAt (k * 2) (by omega)]; exact hz0'
        have hcell2 : w2.cell? ⟨w.heap.size, k * 2 + 1, none⟩ = some z1 := by rw [hzs.cellAt (k * 2 + 1) (by omega)]; exact hz1'
        have hfro : w2.frozen? ⟨w.heap.size, k * 2, none⟩ = false := hzs.frozenAt (k * 2)
        have hfro2 : w2.frozen? ⟨w.heap.size, k * 2 + 1, none⟩ = false := hzs.frozenAt (k * 2 + 1)
        have hs1 := (hzs.stored (k * 2) (.string x1)).1
        have HST := Lib.hid (hs1.stored (k * 2 + 1) (.int .i64 x2)).1
        have HB3 := Lib.hid (HB2.out.trans (hb3.mono HB2.out.size))
        clear hz0' hz1' hzs hs1 hb3 hc0 hc1 hb2
        go_wp2
        go_roundw
        case rel =>
          refine ⟨(HB3.out.setCell (p := ⟨w.heap.size, k * 2, none⟩) (Nat.le_refl _) _).setCell (p := ⟨w.heap.size, k * 2 + 1, none⟩) (Nat.le_refl _) _, k + 1, _, by omega, by go_num, HST.out, fun t ht => ?_⟩
          have hzl := HZ.out
          by_cases he : t = k
          · subst he
            refine ⟨?_, ?_⟩
            · rw [List.getElem?_set_ne (by omega), List.getElem?_set_self (by omega), E0.out]
            · rw [List.getElem?_set_self (by simp; omega), E1.out]
          · rw [List.getElem?_set_ne (by omega), List.getElem?_set_ne (by omega), List.getElem?_set_ne (by omega), List.getElem?_set_ne (by omega)]
            exact HA.out t (by omega)
        case measure => first | (simp [intOf]; done) | (simp [intOf]; omega)
      · have ek : k = l.length := by omega
        have hfin : zs = rnV l := by
          apply List.ext_getElem?
          intro j
          by_cases hj : j < l.length * 2
          · by_cases he : j % 2 = 0
            · have e : j = j / 2 * 2 := by omega
              rw [e]; exact (HA.out (j / 2) (by omega)).1
            · have e : j = j / 2 * 2 + 1 := by omega
              rw [e]; exact (HA.out (j / 2) (by omega)).2
          · rw [List.getElem?_eq_none (by have := HZ.out; omega), List.getElem?_eq_none (by rw [rnV_len]; omega)]
        rw [hfin] at hzs
        clear ek hfin
        go_wp2
        go_ret
        exact ⟨_, _, rfl, hzs, hb2⟩
/-- either the size is too great, and nothing more is asked, or every text is short -/
theorem l_szRunS (v : Value) (l : List (ByteArray × Int)) (w : World) (hin : InRow w v l.length 2 (rnV l)) (hl : l.length ≤ 9223372036854775807) (hsz : ∀ r ∈ l, r.1.size ≤ 9223372036854775807) :
    Calls Try.prog 41 #[v, .int .i64 1048576] w fun e w' => Below w.heap.size w w' ∧ (e = .returned (.int .i64 (-1)) ∨ ∃ n : Nat, e = .returned (.int .i64 n) ∧ n ≤ 1048576 ∧ l.length ≤ 1048576 ∧ ∀ r ∈ l, r.1.size ≤ 1048576) := by
  rcases hin with ⟨h0, _, a, cap, rfl⟩ | ⟨b, off, cap, rfl, hb, hnc, hcm, hc⟩
  · have hl0 : l = [] := List.eq_nil_of_length_eq_zero h0
    subst hl0
    go_enter Try.func41, Try.ntmps41
    go_wp2
    refine wp_loop_rounds 1 ?_
    rw [rounds_succ]
    go_wp2
    go_ret
    exact ⟨Below.refl _ _, .inr ⟨1048576, rfl, by omega, by simp, fun r hr => by cases hr⟩⟩
  unfold maxLen at hcm
  have HC := Lib.hid hc
  have HSZ := Lib.hid hsz
  clear hc hsz
  by_cases hbig : 1048576 < l.length
  · have hb2 : (1048576 : Int) - l.length < 0 := by omega
    go_enter Try.func41, Try.ntmps41
    go_wp2
    go_ret
    exact ⟨Below.refl _ _, .inl rfl⟩
  · have hb2 : ¬ (1048576 : Int) < l.length := by omega
    go_enter Try.func41, Try.ntmps41
    go_wp2
    go_loopw [1, 5] (fun x i wr => Below w.heap.size w wr ∧ ∃ k n : Nat, k ≤ l.length ∧ i = .int .i64 k ∧ x = .int .i64 n ∧ n ≤ 1048576 ∧ ∀ t, t < k → (l.getD t (⟨#[]⟩, 0)).1.size ≤ 1048576) (fun _ i _ => l.length - (intOf i).toNat)
    case atStart => exact ⟨Below.refl _ _, 0, 1048576 - l.length, by omega, rfl, by go_num, by omega, fun t ht => by omega⟩
    case round =>
      obtain ⟨hb3, k, n, hk, rfl, rfl, hn, hall⟩ := hrel
      have HA := Lib.hid hall
      clear hall
      by_cases hlt : k < l.length
      · have hc0 : wr.cell? ⟨b, off + k * 2, none⟩ = some (.string (l.getD k (⟨#[]⟩, 0)).1) := by
          rw [hb3.cell (p := ⟨b, off + k * 2, none⟩) hb, HC.out _ (by omega)]; exact rnV_0 l k hlt
        have hc1 : wr.cell? ⟨b, off + k * 2 + 1, none⟩ = some (.int .i64 (l.getD k (⟨#[]⟩, 0)).2) := by
          rw [hb3.cell (p := ⟨b, off + k * 2 + 1, none⟩) hb, Nat.add_assoc, HC.out _ (by omega)]; exact rnV_1 l k hlt
        have hs1 : (l.getD k (⟨#[]⟩, 0)).1.size ≤ 9223372036854775807 := by
          rw [List.getD, List.getElem?_eq_getElem hlt]; exact HSZ.out _ (List.getElem_mem hlt)
        have HN : Hid (((l.getD k (⟨#[]⟩, 0)).1.size ≤ 1048576) → ∀ t, t < k + 1 → (l.getD t (⟨#[]⟩, 0)).1.size ≤ 1048576) := by
          intro h t ht
          by_cases he : t = k
          · subst he; exact h
          · exact HA.out t (by omega)
        have hin : ((k : Nat) : Int) < l.length := by omega
        have HB := Lib.hid hb3
        clear hb3
        generalize (l.getD k (⟨#[]⟩, 0)).1 = x1 at *
        generalize (l.getD k (⟨#[]⟩, 0)).2 = x2 at *
        by_cases hneg : (n : Int) - x1.size < 0
        · have HSR := Lib.hid (fun w => l_szRun x1 x2 n w (by omega) (by omega) hs1)
          rw [if_pos hneg] at HSR
          go_wp2_with (go_at_call 72; refine (HSR.out _).mono ?_; rintro e w2 ⟨rfl, hb4⟩)
          go_ret
          exact ⟨HB.out.trans (hb4.mono HB.out.size), .inl rfl⟩
        · have HSR := Lib.hid (fun w => l_szRun x1 x2 n w (by omega) (by omega) hs1)
          rw [if_neg hneg] at HSR
          obtain ⟨n2, hn2⟩ : ∃ n2 : Nat, (n : Int) - x1.size = n2 := ⟨n - x1.size, by omega⟩
          rw [hn2] at HSR
          have hle : x1.size ≤ 1048576 := by omega
          have hle2 : n2 ≤ 1048576 := by omega
          have HN2 := Lib.hid (HN.out hle)
          clear hn2 hneg
          go_wp2_with (go_at_call 72; refine (HSR.out _).mono ?_; rintro e w2 ⟨rfl, hb4⟩)
          go_roundw
          case rel => exact ⟨HB.out.trans (hb4.mono HB.out.size), k + 1, n2, by omega, by go_num, rfl, hle2, HN2.out⟩
          case measure => first | (simp [intOf]; done) | (simp [intOf]; omega)
      · have ek : k = l.length := by omega
        have HF : Hid (∀ r ∈ l, r.1.size ≤ 1048576) := by
          intro r hr
          obtain ⟨t, ht, rfl⟩ := List.getElem_of_mem hr
          have := HA.out t (by omega)
          rwa [List.getD, List.getElem?_eq_getElem ht] at this
        clear ek
        go_wp2
        go_ret
        exact ⟨hb3, .inr ⟨n, rfl, hn, by omega, HF.out⟩⟩
end Go.Proofs.Ytdighfjoechbkaa

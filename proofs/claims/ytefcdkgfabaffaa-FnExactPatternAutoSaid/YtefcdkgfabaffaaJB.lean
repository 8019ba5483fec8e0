/- Coders that come in: sizes and copies. -/
import Derived.Test.YtefcdkgfabaffaaJA
namespace Go.Proofs.Ytefcdkgfabaffaa
open Go.ChangeShapes Go.WideShapes Go.RowKit
set_option linter.unusedVariables false
set_option linter.unusedSimpArgs false
set_option maxHeartbeats 4000000
set_option maxRecDepth 100000
theorem l_szStringS (v : Value) (xs : List ByteArray) (left : Nat) (w : World) (hl : left ≤ 1048576) (hin : InS w v xs) (hn : xs.length ≤ 9223372036854775807) (hr : ∀ x ∈ xs, x.size ≤ 9223372036854775807) :
    Calls Try.prog 129 #[v, .int .i64 left] w fun e w' => w = w' ∧ ((e = .returned (.int .i64 (-1))) ∨ ∃ m : Nat, e = .returned (.int .i64 m) ∧ m ≤ 1048576 ∧ xs.length ≤ 1048576 ∧ ∀ x ∈ xs, x.size ≤ 1048576) := by
  obtain ⟨a, cap, rfl⟩ := inS_sl hin
  have HIN := Lib.hid hin
  have HR := Lib.hid hr
  clear hin hr
  by_cases hbig : left < xs.length
  · have hb2 : (left : Int) - xs.length < 0 := by omega
    go_enter Try.func129, Try.ntmps129
    go_wp2
    go_ret
    exact ⟨rfl, .inl rfl⟩
  · have hb2 : ¬ (left : Int) < xs.length := by omega
    go_enter Try.func129, Try.ntmps129
    go_wp2
    go_loop [1, 5] (fun x i => ∃ k n : Nat, k ≤ xs.length ∧ i = .int .i64 k ∧ x = .int .i64 n ∧ n ≤ 1048576 ∧ ∀ j, j < k → (xs.getD j ⟨#[]⟩).size ≤ 1048576) (fun _ i => xs.length - (intOf i).toNat)
    case atStart => exact ⟨0, left - xs.length, by omega, rfl, by go_num, by omega, fun t ht => by omega⟩
    case round =>
      obtain ⟨k, n, hk, rfl, rfl, hn2, hall⟩ := hrel
      have HA := Lib.hid hall
      clear hall
      by_cases hlt : k < xs.length
      · obtain ⟨b, off, rfl, hbl, hc0⟩ := inS_at HIN.out hlt
        have hs1 : (xs.getD k ⟨#[]⟩).size ≤ 9223372036854775807 := HR.out _ (get_mem hlt)
        have HN : Hid (((xs.getD k ⟨#[]⟩).size ≤ 1048576) → ∀ j, j < k + 1 → (xs.getD j ⟨#[]⟩).size ≤ 1048576) := by
          intro h j hj
          by_cases he : j = k
          · subst he; exact h
          · exact HA.out j (by omega)
        have hin : ((k : Nat) : Int) < xs.length := by omega
        generalize xs.getD k ⟨#[]⟩ = x at *
        by_cases hneg : n < x.size
        · have hb3 : (n : Int) - x.size < 0 := by omega
          go_wp2
          go_ret
          exact ⟨rfl, .inl rfl⟩
        · have hb3 : ¬ (n : Int) < x.size := by omega
          obtain ⟨n2, hn2'⟩ : ∃ n2 : Nat, (n : Int) - x.size = n2 := ⟨n - x.size, by omega⟩
          have hle2 : n2 ≤ 1048576 := by omega
          have HN2 := Lib.hid (HN.out (by omega))
          have HN3 := Lib.hid hn2'
          clear hn2'
          go_wp2
          go_round
          case rel => exact ⟨k + 1, n2, by omega, by go_num, by rw [HN3.out], hle2, HN2.out⟩
          case measure => first | (simp [intOf]; done) | (simp [intOf]; omega)
      · have ek : k = xs.length := by omega
        have HF : Hid (∀ r ∈ xs, r.size ≤ 1048576) := by
          intro r hr
          obtain ⟨j, hj, rfl⟩ := List.getElem_of_mem hr
          have := HA.out j (by omega)
          rwa [List.getD, List.getElem?_eq_getElem hj] at this
        clear ek
        go_wp2
        go_ret
        exact ⟨rfl, .inr ⟨n, rfl, hn2, by omega, HF.out⟩⟩
theorem l_szStringSS (v : Value) (t : Ts) (left : Nat) (w : World) (hl : left ≤ 1048576) (hin : InU w v t) (hn : t.length ≤ 9223372036854775807) (hr : ∀ r ∈ t, r.length ≤ 9223372036854775807) (hs : ∀ r ∈ t, ∀ x ∈ r, x.size ≤ 9223372036854775807) :
    Calls Try.prog 79 #[v, .int .i64 left] w fun e w' => w = w' ∧ ((e = .returned (.int .i64 (-1))) ∨ ∃ m : Nat, e = .returned (.int .i64 m) ∧ m ≤ 1048576 ∧ t.length ≤ 1048576 ∧ (∀ r ∈ t, r.length ≤ 1048576) ∧ ∀ r ∈ t, ∀ x ∈ r, x.size ≤ 1048576) := by
  obtain ⟨a, cap, rfl⟩ := inU_sl hin
  have HIN := Lib.hid hin
  have HR := Lib.hid hr
  have HS := Lib.hid hs
  clear hin hr hs
  by_cases hbig : left < t.length
  · have hb2 : (left : Int) - t.length < 0 := by omega
    go_enter Try.func79, Try.ntmps79
    go_wp2
    go_ret
    exact ⟨rfl, .inl rfl⟩
  · have hb2 : ¬ (left : Int) < t.length := by omega
    go_enter Try.func79, Try.ntmps79
    go_wp2
    go_loop [1, 5] (fun x i => ∃ k n : Nat, k ≤ t.length ∧ i = .int .i64 k ∧ x = .int .i64 n ∧ n ≤ 1048576 ∧ ∀ j, j < k → (uA t j).length ≤ 1048576 ∧ ∀ x ∈ uA t j, x.size ≤ 1048576) (fun _ i => t.length - (intOf i).toNat)
    case atStart => exact ⟨0, left - t.length, by omega, rfl, by go_num, by omega, fun t ht => by omega⟩
    case round =>
      obtain ⟨k, n, hk, rfl, rfl, hn2, hall⟩ := hrel
      have HA := Lib.hid hall
      clear hall
      by_cases hlt : k < t.length
      · obtain ⟨b, off, r, c, rfl, hbl, hc0, hri⟩ := inU_at HIN.out hlt
        have HN : Hid (((uA t k).length ≤ 1048576 ∧ ∀ x ∈ uA t k, x.size ≤ 1048576) → ∀ j, j < k + 1 → (uA t j).length ≤ 1048576 ∧ ∀ x ∈ uA t j, x.size ≤ 1048576) := by
          intro h j hj
          by_cases he : j = k
          · subst he; exact h
          · exact HA.out j (by omega)
        have hin : ((k : Nat) : Int) < t.length := by omega
        have HZ := Lib.hid (l_szStringS _ _ n w hn2 hri (HR.out _ (uA_mem hlt)) (HS.out _ (uA_mem hlt)))
        clear hri
        generalize uA t k = rk at *
        go_wp2_with fail
        refine HZ.out.mono ?_
        rintro e w2 ⟨rfl, rfl | ⟨m2, rfl, hm2, hm3, hm4⟩⟩
        · go_wp2
          go_ret
          exact ⟨rfl, .inl rfl⟩
        · have HN2 := Lib.hid (HN.out ⟨hm3, hm4⟩)
          clear hm4
          go_wp2
          go_round
          case rel => exact ⟨k + 1, m2, by omega, by go_num, rfl, hm2, HN2.out⟩
          case measure => first | (simp [intOf]; done) | (simp [intOf]; omega)
      · have ek : k = t.length := by omega
        have HF : Hid ((∀ r ∈ t, r.length ≤ 1048576) ∧ ∀ r ∈ t, ∀ x ∈ r, x.size ≤ 1048576) := by
          constructor
          · intro r hr
            obtain ⟨j, hj, rfl⟩ := List.getElem_of_mem hr
            have := (HA.out j (by omega)).1
            rwa [uA, List.getD, List.getElem?_eq_getElem hj] at this
          · intro r hr
            obtain ⟨j, hj, rfl⟩ := List.getElem_of_mem hr
            have := (HA.out j (by omega)).2
            rwa [uA, List.getD, List.getElem?_eq_getElem hj] at this
        clear ek
        go_wp2
        go_ret
        exact ⟨rfl, .inr ⟨n, rfl, hn2, by omega, HF.out.1, HF.out.2⟩⟩
theorem l_szCoder (u1 u2 : Value) (a : Co) (left : Nat) (w : World) (hl : left ≤ 1048576) (h1 : InT w u1 a.nx) (h2 : InU w u2 a.ou) (hn : a.nx.length ≤ 9223372036854775807) (hr : ∀ r ∈ a.nx, r.length ≤ 9223372036854775807) (ho : a.ou.length ≤ 9223372036854775807) (hor : ∀ r ∈ a.ou, r.length ≤ 9223372036854775807) (hos : ∀ r ∈ a.ou, ∀ x ∈ r, x.size ≤ 9223372036854775807) :
    Calls Try.prog 28 #[.agg #[.int .i64 a.st, .int .i64 a.sa, u1, u2], .int .i64 left] w fun e w' => Below w.heap.size w w' ∧ ((e = .returned (.int .i64 (-1))) ∨ ∃ m : Nat, e = .returned (.int .i64 m) ∧ m ≤ 1048576 ∧ coSm a) := by
  obtain ⟨a1, c1, rfl⟩ := inT_sl h1
  obtain ⟨a2, c2, rfl⟩ := inU_sl h2
  have hb := (Below.refl w.heap.size w).alloc (Nat.le_refl _) (.cells #[.int .i64 a.st, .int .i64 a.sa, .slice a1 a.nx.length c1, .slice a2 a.ou.length c2] 39)
  have H1 := Lib.hid (l_szInt64SS (.slice a1 a.nx.length c1) a.nx left _ hl (inT_below h1 hb) hn hr)
  have H2 := Lib.hid (fun left w hl h => l_szStringSS (.slice a2 a.ou.length c2) a.ou left w hl h ho hor hos)
  have HT := Lib.hid (inU_below h2 hb)
  have HB := Lib.hid hb
  clear h1 h2 hn hr hb ho hor hos
  go_enter Try.func28, Try.ntmps28
  go_wp2_with fail
  refine H1.out.mono ?_
  rintro e w2 ⟨rfl, rfl | ⟨m2, rfl, hm2, hm3, hm3'⟩⟩
  · go_wp2
    go_ret
    exact ⟨HB.out, .inl rfl⟩
  · have HM3 := Lib.hid hm3'
    clear hm3'
    go_wp2_with fail
    refine (H2.out m2 _ hm2 HT.out).mono ?_
    rintro e w2 ⟨rfl, rfl | ⟨m4, rfl, hm4, hm5, hm6, hm7⟩⟩
    · go_wp2
      go_ret
      exact ⟨HB.out, .inl rfl⟩
    · have HH : Hid (coSm a) := ⟨⟨hm3, HM3.out⟩, hm5, hm6, hm7⟩
      clear hm6 hm7
      go_wp2
      go_ret
      exact ⟨HB.out, .inr ⟨m4, rfl, hm4, HH.out⟩⟩
end Go.Proofs.Ytefcdkgfabaffaa

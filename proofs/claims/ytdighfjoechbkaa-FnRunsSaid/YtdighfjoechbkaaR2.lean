/- RunsOf, of the program and of the reference, and its law. -/
import Derived.Test.YtdighfjoechbkaaR1
import Derived.Test.YtdighfjoechbkaaS2
namespace Go.Proofs.Ytdighfjoechbkaa
open Go.ChangeShapes Go.WideShapes Go.RowKit
set_option linter.unusedVariables false
set_option linter.unusedSimpArgs false
set_option maxHeartbeats 4000000
set_option maxRecDepth 100000
theorem info_run : (Try.prog.info? 66).map (fun i => (i.zero, i.size, i.bytes)) = some (some (.agg #[.string ⟨#[]⟩, .int .i64 0]), 2, 24) := by kernel_rfl
/-- one more in the last run -/
def bump (l : List (ByteArray × Int)) : List (ByteArray × Int) := match l.getLast? with | some r => l.dropLast ++ [(r.1, r.2 + 1)] | none => []
theorem bump_snoc (l : List (ByteArray × Int)) (a : ByteArray) (x : Int) : bump (l ++ [(a, x)]) = l ++ [(a, x + 1)] := by
  simp [bump]
/-- the runs of the first k letters -/
def rnTo (s : ByteArray) : Nat → List (ByteArray × Int)
  | 0 => []
  | k + 1 => if k ≠ 0 ∧ bt s k = bt s (k - 1) then bump (rnTo s k) else rnTo s k ++ [(s.extract k (k + 1), 1)]
theorem rnTo_new (s : ByteArray) (k : Nat) (h : ¬ (k ≠ 0 ∧ bt s k = bt s (k - 1))) : rnTo s (k + 1) = rnTo s k ++ [(s.extract k (k + 1), 1)] := by
  rw [rnTo, if_neg h]
theorem rnTo_more (s : ByteArray) (k : Nat) (h : bt s (k + 1) = bt s k) : rnTo s (k + 1 + 1) = bump (rnTo s (k + 1)) := by
  rw [rnTo, if_pos ⟨by omega, h⟩]
theorem rnV_append (l m : List (ByteArray × Int)) : rnV (l ++ m) = rnV l ++ rnV m := by simp [rnV]
theorem rnV_bump (l : List (ByteArray × Int)) (a : ByteArray) (x : Int) : (rnV (l ++ [(a, x)])).set (l.length * 2 + 1) (.int .i64 (x + 1)) = rnV (bump (l ++ [(a, x)])) := by
  rw [bump_snoc, rnV_append, rnV_append, List.set_append_right _ _ (by rw [rnV_len]; omega), rnV_len]
  rw [show l.length * 2 + 1 - l.length * 2 = 1 by omega]
  rfl
theorem rnTo_bd (s : ByteArray) : ∀ k, (rnTo s k).length ≤ k ∧ (k ≠ 0 → ∃ (l : List (ByteArray × Int)) (a : ByteArray) (x : Int), rnTo s k = l ++ [(a, x)] ∧ 1 ≤ x ∧ x ≤ k)
  | 0 => ⟨by simp [rnTo], fun h => absurd rfl h⟩
  | k + 1 => by
    have ih := rnTo_bd s k
    rw [rnTo]
    by_cases hc : k ≠ 0 ∧ bt s k = bt s (k - 1)
    · rw [if_pos hc]
      obtain ⟨l, a, x, hl, hx1, hx2⟩ := ih.2 hc.1
      rw [hl, bump_snoc]
      rw [hl] at ih
      have := ih.1
      refine ⟨by simp at *; omega, fun _ => ⟨l, a, x + 1, rfl, by omega, by omega⟩⟩
    · rw [if_neg hc]
      refine ⟨by simp; exact ih.1, fun _ => ⟨_, _, _, rfl, by omega, by omega⟩⟩
def ifR (b : Bool) (l : List (ByteArray × Int)) : List (ByteArray × Int) := if b then l else []
theorem keep1b {w w1 w2 w3 w4 : World} {e size : Nat} {v1 v2 : Value} {n m : Nat} {xs ys : List Value} (h1 : w1.ownsRow w.heap.size e size v1 n xs) (h2 : w2.ownsRow w1.heap.size e size v2 m ys) (hb : Below w1.heap.size w1 w2) (hq : Below w2.heap.size w2 w3) (hg : w3.grownBy w4 v2.ownBlock) : w4.ownsRow w.heap.size e size v1 n xs := by
  refine World.ownsRow.kept (owns_after (owns_after h1 hb) hq) hg ?_
  cases h : v1.ownBlock with
  | none => exact .inl rfl
  | some k =>
    right
    intro h'
    have a := (h1.lt k h).2
    have b := (h2.lt k h'.symm).1
    omega
theorem chainb {w w1 w2 w3 w4 w6 w7 : World} {e size : Nat} {v2 : Value} {m : Nat} {ys : List Value} (hb1 : Below w.heap.size w w1) (hb2 : Below w1.heap.size w1 w2) (hq3 : Below w2.heap.size w2 w3) (h2 : w2.ownsRow w1.heap.size e size v2 m ys) (hg : w3.grownBy w4 v2.ownBlock) (hb6 : Below w4.heap.size w4 w6) (hq7 : Below w6.heap.size w6 w7) : Below w.heap.size w w7 := by
  have s1 := hb1.size
  have s2 := hb2.size
  have s3 := hq3.size
  have s4 := hg.size
  have s6 := hb6.size
  have e1 : Below w.heap.size w w3 := (hb1.trans (hb2.mono s1)).trans (hq3.mono (by omega))
  have e2 : Below w.heap.size w w4 := e1.grown hg (by omega) (fun k hk => by have := (h2.lt k hk).1; omega)
  exact (e2.trans (hb6.mono (by omega))).trans (hq7.mono (by omega))
/-- a slice of runs of the call's own -/
def OwnR (w w' : World) (v : Value) (l : List (ByteArray × Int)) : Prop := w'.ownsRow w.heap.size 66 2 v l.length (rnV l) ∧ Below w.heap.size w w'
theorem ownR_nil {w w' : World} (hb : Below w.heap.size w w') : OwnR w w' (.slice none 0 0) [] := ⟨World.ownsRow_nil _ _ _ _, hb⟩
theorem ownR_empty (w : World) : OwnR w (w.alloc (.cells #[] 66)) (.slice (some ⟨w.heap.size, 0, none⟩) 0 0) [] :=
  ⟨World.ownsRow_made w #[] 0 (Nat.le_refl _) (by decide) (by simp), (Below.refl _ _).alloc (Nat.le_refl _) _⟩
theorem ownsR_some {w : World} {base e n : Nat} {v : Value} {xs : List Value} (h : w.ownsRow base e 2 v n xs) (hn : n ≠ 0) : ∃ g cap, v = .slice (some ⟨g, 0, none⟩) n cap := by
  rcases owns_cases2 h with ⟨_, h0, _⟩ | ⟨g, cap, rfl, _⟩
  · omega
  · exact ⟨g, cap, rfl⟩
theorem ownR_snoc {w : World} {base e : Nat} {v : Value} {l l' : List (ByteArray × Int)} {a : ByteArray} {x : Int} (h : w.ownsRow base e 2 v (l.length + 1) (rnV l ++ [.string a, .int .i64 x])) (e1 : l' = l ++ [(a, x)]) : w.ownsRow base e 2 v l'.length (rnV l') := by
  subst e1
  rw [rnV_append]
  simpa [rnV] using h
theorem s_l01Runs (s : ByteArray) (w : World) (hs : s.size ≤ 2000) : Calls Try.prog 66 #[.string s] w fun e w' => ∃ v, e = .returned v ∧ OwnR w w' v (rnTo s s.size) := by
  go_enter Try.func66, Try.ntmps66
  go_wp2
  -- 3, 4 slots; v i unused binder; - index binder order; tmps 34 41
  go_loopw [3, 4] (fun v i wr => Below w.heap.size w wr ∧ ∃ (k n g cap : Nat), k ≤ s.size ∧ n = (rnTo s k).length ∧ i = .int .i64 k ∧ v = .slice (some ⟨g, 0, none⟩) n cap ∧ wr.ownsRow w.heap.size 66 2 (.slice (some ⟨g, 0, none⟩) n cap) n (rnV (rnTo s k))) (fun v i _ => s.size - (intOf i).toNat)
  case atStart => exact ⟨(Below.refl _ _).alloc (Nat.le_refl _) _, 0, 0, _, _, by omega, rfl, rfl, rfl, World.ownsRow_made w #[] 0 (Nat.le_refl _) (by decide) (by simp)⟩
  case round =>
    obtain ⟨hb, k, n, g, cap, hk, hn, rfl, rfl, hown⟩ := hrel
    have hsz := hb.size
    obtain ⟨hlen, hlast⟩ := rnTo_bd s k
    have HL := Lib.hid hlast
    clear hlast
    by_cases hlt : k < s.size
    · cases k with
      | zero =>
        have HN := Lib.hid (rnTo_new s 0 (by simp))
        have hn0 : n = 0 := by rw [hn]; rfl
        subst hn0
        have e0 : rnTo s 0 = [] := rfl
        rw [e0] at hown HN
        clear hn e0 hlen HL
        have h00 : ¬ (0 : Nat) < 0 := by omega
        go_wp2
        go_quiet (fail)
        have hown1 := ownsRow_drewN hown nq
        go_wp2_with (at_builtin; refine app2 rfl (.tmp 34) (.tmp 41) 37 rfl w.heap.size 66 (.agg #[.string ⟨#[]⟩, .int .i64 0]) 2 24 Try.underlying37 info_run rfl (by decide) _ _ _ _ _ rfl hown1 [.string (s.extract 0 1), .int .i64 1] rfl (by simp [Value.oneCell']) rfl (by simp) (by omega) (by decide) (by simpa using hsz) ?_; intro v' w3 ho3 hg3 hk3)
        go_roundw
        case rel =>
          obtain ⟨g3, cap3, hv3⟩ := ownsR_some ho3 (by omega)
          refine ⟨(below_drewN hb _).trans (below_of_grown hg3 (by simpa using hsz) (fun t ht => (hown1.lt t ht).1)), 1, 1, g3, cap3, by omega, by rw [HN.out]; rfl, rfl, hv3, ?_⟩
          rw [← hv3, HN.out]
          exact ho3
        case measure => first | (simp [intOf]; done) | (simp [intOf]; omega)
      | succ k =>
        have hkk : k < s.size := by omega
        have ea := bt_eq s (k + 1) hlt
        have eb := bt_eq s k hkk
        have hpos : 0 < k + 1 := by omega
        have hin : (((k + 1 : Nat)) : Int) < s.size := by omega
        have hin2 : (k : Int) + 1 < s.size := by omega
        have hin3 : (0 : Int) ≤ ((k + 1 : Nat) : Int) := by omega
        have hin4 : (0 : Int) ≤ (k : Int) + 1 := by omega
        obtain ⟨l, a, x, hl, hx1, hx2⟩ := HL.out (by omega)
        rw [hl] at hn
        simp only [List.length_append, List.length_cons, List.length_nil, Nat.zero_add] at hn
        subst hn
        have hnz : (((l.length + 1 : Nat) : Int) == 0) = false := by rw [beq_eq_false_iff_ne]; omega
        have hnz2 : (((l.length : Nat) : Int) + 1 == 0) = false := by rw [beq_eq_false_iff_ne]; omega
        have hl2 : l.length ≤ 4000 := by rw [hl] at hlen; simp at hlen; omega
        have HLL := Lib.hid hl
        clear HL
        by_cases heq : s[k + 1] = s[k]
        · have HM := Lib.hid (rnTo_more s k (by rw [ea, eb, heq]))
          rw [hl] at hown
          have hcell : wr.cell? ⟨g, l.length * 2 + 1, none⟩ = some (.int .i64 x) := by
            rw [hown.cellAt (l.length * 2 + 1) (by omega), rnV_append, List.getElem?_append_right (by rw [rnV_len]; omega), rnV_len, show l.length * 2 + 1 - l.length * 2 = 1 by omega]
            rfl
          have hfro : wr.frozen? ⟨g, l.length * 2 + 1, none⟩ = false := hown.frozenAt _
          have hst := (hown.stored (l.length * 2 + 1) (.int .i64 (x + 1)))
          rw [rnV_bump] at hst
          have HST := Lib.hid hst
          have HO := Lib.hid hown
          clear hst hown ea eb hl hlen
          go_wp2
          go_quiet (fail)
          go_wp2
          go_roundw
          case rel =>
            refine ⟨?_, k + 1 + 1, l.length + 1, g, cap, by omega, by rw [HM.out, HLL.out, bump_snoc]; simp, by go_num, rfl, ?_⟩
            · exact below_drewN (hb.setCell (p := ⟨g, l.length * 2 + 1, none⟩) (HO.out.lt g rfl).1 _) _
            · rw [HM.out, HLL.out]
              exact owns_qt HST.out.1 ((Qt.refl _).drewN _)
          case measure => first | (simp [intOf]; done) | (simp [intOf]; omega)
        · have HN := Lib.hid (rnTo_new s (k + 1) (by rw [Nat.add_sub_cancel, ea, eb]; intro h; exact heq (UInt8.toNat_inj.1 h.2)))
          have hb3 := byte_ne heq
          skip
          clear ea eb hl hlen
          go_wp2
          go_quiet (fail)
          have hown1 := ownsRow_drewN hown nq
          go_wp2_with (at_builtin; refine app2 rfl (.tmp 34) (.tmp 41) 37 rfl w.heap.size 66 (.agg #[.string ⟨#[]⟩, .int .i64 0]) 2 24 Try.underlying37 info_run rfl (by decide) _ _ _ _ _ rfl hown1 [.string (s.extract (k + 1) (k + 1 + 1)), .int .i64 1] rfl (by simp [Value.oneCell']) rfl (by simp) (by omega) (by decide) (by simpa using hsz) ?_; intro v' w3 ho3 hg3 hk3)
          go_roundw
          case rel =>
            obtain ⟨g3, cap3, hv3⟩ := ownsR_some ho3 (by omega)
            refine ⟨(below_drewN hb _).trans (below_of_grown hg3 (by simpa using hsz) (fun t ht => (hown1.lt t ht).1)), k + 1 + 1, l.length + 1 + 1, g3, cap3, by omega, by rw [HN.out, HLL.out]; simp, by go_num, hv3, ?_⟩
            rw [← hv3, HN.out, rnV_append]
            exact ho3
          case measure => first | (simp [intOf]; done) | (simp [intOf]; omega)
    · have ek : k = s.size := by omega
      have HX : Hid (rnTo s k = rnTo s s.size) := by show _ = _; rw [ek]
      clear ek
      have HO := Lib.hid hown
      have HNN := Lib.hid hn
      clear hown hn
      go_wp2
      go_ret
      exact ⟨_, rfl, by rw [← HX.out, ← HNN.out]; exact HO.out, hb⟩
theorem i_RunsOf_ok (s : ByteArray) (w : World) (hs : s.size ≤ maxLen) (h1 : validB s = true) : Calls Try.prog 33 #[.string s] w fun e w' => ∃ g cap, e = .returned (.tuple #[.slice (some ⟨g, 0, none⟩) (rnTo s s.size).length cap, .int .i64 0]) ∧ OwnR w w' (.slice (some ⟨g, 0, none⟩) (rnTo s s.size).length cap) (rnTo s s.size) := by
  have hs0 := validB_le h1
  have hov := i_ValidWord s
  rw [h1] at hov
  have HOV := Lib.hid hov
  clear hov h1
  go_enter Try.func33, Try.ntmps33
  go_wp2_with (go_at_call 60; refine (HOV.out _ (by assumption)).mono ?_; rintro e w' ⟨rfl, rfl⟩)
  -- 4, 5, 6, 13 slots; v _ _ i unused binder; - index binder order; tmps 30 37
  go_loopw [4, 5, 6, 13] (fun v _ _ i wr => Below w.heap.size w wr ∧ ∃ (k n g cap : Nat), k ≤ s.size ∧ n = (rnTo s k).length ∧ i = .int .i64 k ∧ v = .slice (some ⟨g, 0, none⟩) n cap ∧ wr.ownsRow w.heap.size 66 2 (.slice (some ⟨g, 0, none⟩) n cap) n (rnV (rnTo s k))) (fun v _ _ i _ => s.size - (intOf i).toNat)
  case atStart => exact ⟨(Below.refl _ _).alloc (Nat.le_refl _) _, 0, 0, _, _, by omega, rfl, rfl, rfl, World.ownsRow_made w #[] 0 (Nat.le_refl _) (by decide) (by simp)⟩
  case round =>
    obtain ⟨hb, k, n, g, cap, hk, hn, rfl, rfl, hown⟩ := hrel
    have hsz := hb.size
    obtain ⟨hlen, hlast⟩ := rnTo_bd s k
    have HL := Lib.hid hlast
    clear hlast
    by_cases hlt : k < s.size
    · cases k with
      | zero =>
        have HN := Lib.hid (rnTo_new s 0 (by simp))
        have hn0 : n = 0 := by rw [hn]; rfl
        subst hn0
        have e0 : rnTo s 0 = [] := rfl
        rw [e0] at hown HN
        clear hn e0 hlen HL
        have h00 : ¬ (0 : Nat) < 0 := by omega
        go_wp2
        go_quiet (fail)
        have hown1 := ownsRow_drewN hown nq
        go_wp2_with (at_builtin; refine app2 rfl (.tmp 30) (.tmp 37) 37 rfl w.heap.size 66 (.agg #[.string ⟨#[]⟩, .int .i64 0]) 2 24 Try.underlying37 info_run rfl (by decide) _ _ _ _ _ rfl hown1 [.string (s.extract 0 1), .int .i64 1] rfl (by simp [Value.oneCell']) rfl (by simp) (by omega) (by decide) (by simpa using hsz) ?_; intro v' w3 ho3 hg3 hk3)
        go_roundw
        case rel =>
          obtain ⟨g3, cap3, hv3⟩ := ownsR_some ho3 (by omega)
          refine ⟨(below_drewN hb _).trans (below_of_grown hg3 (by simpa using hsz) (fun t ht => (hown1.lt t ht).1)), 1, 1, g3, cap3, by omega, by rw [HN.out]; rfl, rfl, hv3, ?_⟩
          rw [← hv3, HN.out]
          exact ho3
        case measure => first | (simp [intOf]; done) | (simp [intOf]; omega)
      | succ k =>
        have hkk : k < s.size := by omega
        have ea := bt_eq s (k + 1) hlt
        have eb := bt_eq s k hkk
        have hpos : 0 < k + 1 := by omega
        have hin : (((k + 1 : Nat)) : Int) < s.size := by omega
        have hin2 : (k : Int) + 1 < s.size := by omega
        have hin3 : (0 : Int) ≤ ((k + 1 : Nat) : Int) := by omega
        have hin4 : (0 : Int) ≤ (k : Int) + 1 := by omega
        obtain ⟨l, a, x, hl, hx1, hx2⟩ := HL.out (by omega)
        rw [hl] at hn
        simp only [List.length_append, List.length_cons, List.length_nil, Nat.zero_add] at hn
        subst hn
        have hnz : (((l.length + 1 : Nat) : Int) == 0) = false := by rw [beq_eq_false_iff_ne]; omega
        have hnz2 : (((l.length : Nat) : Int) + 1 == 0) = false := by rw [beq_eq_false_iff_ne]; omega
        have hl2 : l.length ≤ 4000 := by rw [hl] at hlen; simp at hlen; omega
        have HLL := Lib.hid hl
        clear HL
        by_cases heq : s[k + 1] = s[k]
        · have HM := Lib.hid (rnTo_more s k (by rw [ea, eb, heq]))
          rw [hl] at hown
          have hcell : wr.cell? ⟨g, l.length * 2 + 1, none⟩ = some (.int .i64 x) := by
            rw [hown.cellAt (l.length * 2 + 1) (by omega), rnV_append, List.getElem?_append_right (by rw [rnV_len]; omega), rnV_len, show l.length * 2 + 1 - l.length * 2 = 1 by omega]
            rfl
          have hfro : wr.frozen? ⟨g, l.length * 2 + 1, none⟩ = false := hown.frozenAt _
          have hst := (hown.stored (l.length * 2 + 1) (.int .i64 (x + 1)))
          rw [rnV_bump] at hst
          have HST := Lib.hid hst
          have HO := Lib.hid hown
          clear hst hown ea eb hl hlen
          go_wp2
          go_quiet (fail)
          go_wp2
          go_roundw
          case rel =>
            refine ⟨?_, k + 1 + 1, l.length + 1, g, cap, by omega, by rw [HM.out, HLL.out, bump_snoc]; simp, by go_num, rfl, ?_⟩
            · exact below_drewN (hb.setCell (p := ⟨g, l.length * 2 + 1, none⟩) (HO.out.lt g rfl).1 _) _
            · rw [HM.out, HLL.out]
              exact owns_qt HST.out.1 ((Qt.refl _).drewN _)
          case measure => first | (simp [intOf]; done) | (simp [intOf]; omega)
        · have HN := Lib.hid (rnTo_new s (k + 1) (by rw [Nat.add_sub_cancel, ea, eb]; intro h; exact heq (UInt8.toNat_inj.1 h.2)))
          have hb3 := byte_ne heq
          have hb4 : ((s[k + 1].toNat : Int) != (s[k].toNat : Int)) = true := by simp only [bne, hb3]; rfl
          clear ea eb hl hlen
          go_wp2
          go_quiet (fail)
          have hown1 := ownsRow_drewN hown nq
          go_wp2_with (at_builtin; refine app2 rfl (.tmp 30) (.tmp 37) 37 rfl w.heap.size 66 (.agg #[.string ⟨#[]⟩, .int .i64 0]) 2 24 Try.underlying37 info_run rfl (by decide) _ _ _ _ _ rfl hown1 [.string (s.extract (k + 1) (k + 1 + 1)), .int .i64 1] rfl (by simp [Value.oneCell']) rfl (by simp) (by omega) (by decide) (by simpa using hsz) ?_; intro v' w3 ho3 hg3 hk3)
          go_roundw
          case rel =>
            obtain ⟨g3, cap3, hv3⟩ := ownsR_some ho3 (by omega)
            refine ⟨(below_drewN hb _).trans (below_of_grown hg3 (by simpa using hsz) (fun t ht => (hown1.lt t ht).1)), k + 1 + 1, l.length + 1 + 1, g3, cap3, by omega, by rw [HN.out, HLL.out]; simp, by go_num, hv3, ?_⟩
            rw [← hv3, HN.out, rnV_append]
            exact ho3
          case measure => first | (simp [intOf]; done) | (simp [intOf]; omega)
    · have ek : k = s.size := by omega
      have HX : Hid (rnTo s k = rnTo s s.size) := by show _ = _; rw [ek]
      have HNN : Hid (n = (rnTo s s.size).length) := by show _ = _; rw [hn, ek]
      clear ek
      have HO := Lib.hid hown
      clear hown hn
      go_wp2
      go_ret2
      refine ⟨g, cap, by rw [← HNN.out]; rfl, ?_, hb⟩
      rw [← HX.out]
      rw [← HX.out] at HNN
      rw [← HNN.out]
      exact HO.out
theorem i_RunsOf (s : ByteArray) (w : World) (hs : s.size ≤ maxLen) : Calls Try.prog 33 #[.string s] w fun e w' => ∃ v, e = .returned (.tuple #[v, .int .i64 (okc (validB s))]) ∧ OwnR w w' v (ifR (validB s) (rnTo s s.size)) := by
  cases h1 : validB s
  · go_enter Try.func33, Try.ntmps33
    go_wp2_with (go_at_call 60; refine (i_ValidWord _ _ (by assumption)).mono ?_; rintro e w' ⟨rfl, rfl⟩)
    go_ret2
    exact ⟨_, rfl, ownR_nil (Below.refl _ _)⟩
  · refine (i_RunsOf_ok s w hs h1).mono ?_
    rintro e w' ⟨g, cap, rfl, ho⟩
    exact ⟨_, rfl, ho⟩
theorem s_RunsOf (s : ByteArray) (w : World) (hs : s.size ≤ maxLen) : Calls Try.prog 32 #[.string s] w fun e w' => ∃ v, e = .returned (.tuple #[v, .int .i64 (okc (validB s))]) ∧ OwnR w w' v (ifR (validB s) (rnTo s s.size)) := by
  cases h1 : validB s
  · go_enter Try.func32, Try.ntmps32
    go_wp2_with (go_at_call 58; refine (s_l01Ok _ _ (by assumption)).mono ?_; rintro e w' ⟨rfl, rfl⟩)
    go_ret2
    exact ⟨_, rfl, ownR_empty _⟩
  · have hle := validB_le h1
    go_enter Try.func32, Try.ntmps32
    go_wp2_with (first | (go_at_call 58; refine (s_l01Ok _ _ (by assumption)).mono ?_; rintro e w' ⟨rfl, rfl⟩) | (go_at_call 66; refine (s_l01Runs _ _ (by omega)).mono ?_; rintro e w' ⟨v, rfl, ho⟩))
    go_ret2
    exact ⟨_, rfl, ho⟩
theorem walk_FnExactRunsOf (s : ByteArray) (hs : s.size ≤ maxLen) (w : World) : Calls Try.prog 7 #[.string s] w fun e w' => e = .returned (.bool true) ∧ Below w.heap.size w w' := by
  have hs' : s.size ≤ 9223372036854775807 := by unfold maxLen at hs; omega
  by_cases hbig : 1048576 < s.size
  · go_enter Try.func7, Try.ntmps7
    go_wp2
    go_ret
    exact ⟨rfl, Below.refl _ _⟩
  have hlen : (ifR (validB s) (rnTo s s.size)).length ≤ 1048577 := by
    have := (rnTo_bd s s.size).1
    unfold ifR; split <;> simp <;> omega
  -- FnExactRunsOf: the law; s w hs: args of the contracts, w the world; okc (validB s): the code; ifR (validB s) (rnTo s s.size): the list; s_RunsOf i_RunsOf: the contracts
  have hS := fun w => s_RunsOf s w hs
  have hI := fun w => i_RunsOf s w hs
  generalize okc (validB s) = c at hS hI
  generalize ifR (validB s) (rnTo s s.size) = l at hS hI hlen
  have HS := Lib.hid hS
  have HI := Lib.hid hI
  clear hS hI
  go_enter Try.func7, Try.ntmps7
  go_wp2_with fail
  refine (HS.out _).mono ?_
  rintro e w1 ⟨v1, rfl, ho1, hb1⟩
  go_wp2_with fail
  refine (HI.out _).mono ?_
  rintro e w2 ⟨v2, rfl, ho2, hb2⟩
  go_wp2_with fail
  refine (l_eqRunS _ _ l _ _ _ ho2 (owns_after ho1 hb2) (by omega)).mono ?_
  rintro e w3 ⟨rfl, hq3⟩
  go_wp2_with fail
  refine (l_markR1 _ l.length _ _ _ (by omega) (owns_after ho2 hq3)).mono ?_
  rintro e w4 ⟨rfl, ho4, hg4⟩
  go_wp2_with fail
  refine (l_heldR1 _ l.length _ _ (by omega) ho4).mono ?_
  rintro e w5 ⟨rfl, hb5⟩
  go_wp2_with fail
  refine (HI.out _).mono ?_
  rintro e w6 ⟨v6, rfl, ho6, hb6⟩
  have hk1 := keep1b ho1 ho2 hb2 hq3 hg4
  have hb6' := hb5.trans (hb6.mono hb5.size)
  go_wp2_with fail
  refine (l_eqRunS _ _ l _ _ _ ho6 (owns_after hk1 hb6') (by omega)).mono ?_
  rintro e w7 ⟨rfl, hq7⟩
  go_wp2_with fail
  refine (l_heldR1 _ l.length _ _ (by omega) (owns_after (owns_after ho4 hb6') hq7)).mono ?_
  rintro e w8 ⟨rfl, hb8⟩
  go_wp2
  go_ret
  have hch := chainb hb1 hb2 hq3 ho2 hg4 hb6' hq7
  exact ⟨rfl, hch.trans (hb8.mono hch.size)⟩
end Go.Proofs.Ytdighfjoechbkaa

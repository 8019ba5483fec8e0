/- Lists of texts and tables of texts that come in: how they read, their sizes, their copies; coders. -/
import Derived.Test.YtefcdkgfabaffaaHF
namespace Go.Proofs.Ytefcdkgfabaffaa
open Go.ChangeShapes Go.WideShapes Go.RowKit
set_option linter.unusedVariables false
set_option linter.unusedSimpArgs false
set_option maxHeartbeats 4000000
set_option maxRecDepth 100000
def sv (xs : List ByteArray) : List Value := xs.map (Value.string)
/-- a list of integers that lies somewhere -/
def InS (w : World) (v : Value) (xs : List ByteArray) : Prop := InRow w v xs.length 1 (sv xs)
theorem inS_sl {w : World} {v : Value} {xs : List ByteArray} (h : InS w v xs) : ∃ a cap, v = .slice a xs.length cap := by
  rcases h with ⟨h0, _, a, cap, rfl⟩ | ⟨b, off, cap, rfl, _⟩
  · exact ⟨a, cap, by rw [h0]⟩
  · exact ⟨_, _, rfl⟩
theorem inS_below {w w' : World} {v : Value} {xs : List ByteArray} (h : InS w v xs) (hb : Below w.heap.size w w') : InS w' v xs := inRow_below h hb
theorem inS_at {w : World} {a : Option Addr} {cap : Nat} {xs : List ByteArray} (h : InS w (.slice a xs.length cap) xs) {k : Nat} (hk : k < xs.length) :
    ∃ b off, a = some ⟨b, off, none⟩ ∧ b < w.heap.size ∧ w.cell? ⟨b, off + k, none⟩ = some (.string (xs.getD k ⟨#[]⟩)) := by
  rcases h with ⟨h0, _, _⟩ | ⟨b, off, cap', hv, hb, _, _, hc⟩
  · omega
  · injection hv with h1 h2 h3
    subst h1
    refine ⟨b, off, rfl, hb, ?_⟩
    rw [hc k (by omega)]
    simp [sv, List.getD, hk]
theorem inS_own {w : World} {base : Nat} {v : Value} {xs : List ByteArray} (h : w.ownsRow base 9 1 v xs.length (sv xs)) : InS w v xs := by
  rcases owns_cases h with ⟨rfl, h0, hx⟩ | ⟨g, cap, rfl, _, hg, hc, hm, _⟩
  · exact .inl ⟨h0, hx, _, _, by rfl⟩
  · refine .inr ⟨g, 0, cap, rfl, hg, hc, hm, fun j hj => ?_⟩
    rw [Nat.zero_add]; exact h.cellAt j (by omega)
abbrev Ts := List (List ByteArray)
def uA (t : Ts) (k : Nat) : List ByteArray := t.getD k []
theorem uA_mem {t : Ts} {k : Nat} (h : k < t.length) : uA t k ∈ t := by
  rw [uA, List.getD, List.getElem?_eq_getElem h]; exact List.getElem_mem h
/-- a table that lies somewhere -/
def InU (w : World) (v : Value) (t : Ts) : Prop := ∃ vs : List Value, vs.length = t.length ∧ InRow w v t.length 1 vs ∧ ∀ k, k < t.length → InS w (vs.getD k undef) (uA t k)
theorem inU_sl {w : World} {v : Value} {t : Ts} (h : InU w v t) : ∃ a cap, v = .slice a t.length cap := by
  obtain ⟨vs, hl, h, _⟩ := h
  rcases h with ⟨h0, _, a, cap, rfl⟩ | ⟨b, off, cap, rfl, _⟩
  · exact ⟨a, cap, by rw [h0]⟩
  · exact ⟨_, _, rfl⟩
theorem inU_below {w w' : World} {v : Value} {t : Ts} (h : InU w v t) (hb : Below w.heap.size w w') : InU w' v t := by
  obtain ⟨vs, hl, h, hr⟩ := h
  exact ⟨vs, hl, inRow_below h hb, fun k hk => inS_below (hr k hk) hb⟩
theorem inU_at {w : World} {a : Option Addr} {cap : Nat} {t : Ts} (h : InU w (.slice a t.length cap) t) {k : Nat} (hk : k < t.length) :
    ∃ b off r c, a = some ⟨b, off, none⟩ ∧ b < w.heap.size ∧ w.cell? ⟨b, off + k, none⟩ = some (.slice r (uA t k).length c) ∧ InS w (.slice r (uA t k).length c) (uA t k) := by
  obtain ⟨vs, hl, h, hr⟩ := h
  have h9 := hr k hk
  obtain ⟨r, c, e⟩ := inS_sl h9
  rw [e] at h9
  rcases h with ⟨h0, _, _⟩ | ⟨b, off, cap', hv, hb, _, _, hc⟩
  · omega
  · injection hv with h1 h2 h3
    subst h1
    refine ⟨b, off, r, c, rfl, hb, ?_, h9⟩
    rw [hc k (by omega), ← e]
    simp [List.getD, show k < vs.length by omega]
/-- a table of the call's own: each row in memory of its own -/
def OwnU (base : Nat) (w : World) (v : Value) (t : Ts) : Prop := ∃ vs : List Value, vs.length = t.length ∧ w.ownsRow base 96 1 v t.length vs ∧ (∀ k, k < t.length → w.ownsRow base 9 1 (vs.getD k undef) (uA t k).length (sv (uA t k))) ∧ (∀ i j, i < j → j < t.length → ∀ b, (vs.getD i undef).ownBlock = some b → (vs.getD j undef).ownBlock ≠ some b) ∧ (∀ i b, i < t.length → (vs.getD i undef).ownBlock = some b → v.ownBlock ≠ some b)
theorem ownU_in {base : Nat} {w : World} {v : Value} {t : Ts} (h : OwnU base w v t) : InU w v t := by
  obtain ⟨vs, hl, h, hr, _⟩ := h
  refine ⟨vs, hl, ?_, fun k hk => inS_own (hr k hk)⟩
  rcases owns_cases h with ⟨rfl, h0, hx⟩ | ⟨g, cap, rfl, _, hg, hc, hm, _⟩
  · exact .inl ⟨h0, hx, _, _, by rfl⟩
  · refine .inr ⟨g, 0, cap, rfl, hg, hc, hm, fun j hj => ?_⟩
    rw [Nat.zero_add]; exact h.cellAt j (by omega)
theorem ownU_after {base : Nat} {w w' : World} {v : Value} {t : Ts} (h : OwnU base w v t) (hb : Below w.heap.size w w') : OwnU base w' v t := by
  obtain ⟨vs, hl, h, hr, h2⟩ := h
  exact ⟨vs, hl, owns_after h hb, fun k hk => owns_after (hr k hk) hb, h2⟩
/-- a coder -/
structure Co where
  st : Int
  sa : Int
  nx : Tb
  ou : Ts
def InCo (w : World) (v : Value) (a : Co) : Prop := ∃ u1 u2, v = .agg #[.int .i64 a.st, .int .i64 a.sa, u1, u2] ∧ InT w u1 a.nx ∧ InU w u2 a.ou
def coSm (a : Co) : Prop := (a.nx.length ≤ 1048576 ∧ ∀ r ∈ a.nx, r.length ≤ 1048576) ∧ a.ou.length ≤ 1048576 ∧ (∀ r ∈ a.ou, r.length ≤ 1048576) ∧ ∀ r ∈ a.ou, ∀ x ∈ r, x.size ≤ 1048576
theorem get_mem {xs : List ByteArray} {k : Nat} (h : k < xs.length) : xs.getD k ⟨#[]⟩ ∈ xs := by
  rw [List.getD, List.getElem?_eq_getElem h]; exact List.getElem_mem h
end Go.Proofs.Ytefcdkgfabaffaa

/- Coders that come in: sizes and copies. -/
namespace Go.Proofs.Ytefcdkgfabaffaa
open Go.ChangeShapes Go.WideShapes Go.RowKit
set_option linter.unusedVariables false
set_option linter.unusedSimpArgs false
set_option maxHeartbeats 4000000
set_option maxRecDepth 100000
theorem l_szStringS (v : Value) (xs : List ByteArray) (left : Nat) (w : World) (hl : left ≤ 1048576) (hin : InS w v xs) (hn : xs.length ≤ 9223372036854775807) (hr : ∀ x ∈ xs, x.size ≤ 9223372036854775807) :
    Calls Try.prog 129 #[v, .int .i64 left] w fun e w' => w = w' ∧ ((e = .returned (.int .i64 (-1))) ∨ ∃ m : Nat, e = .returned (.int .i64 m) ∧ m ≤ 1048576 ∧ xs.length ≤ 1048576 ∧ ∀ x ∈ xs, x.size ≤ 1048576) := by
  obtain ⟨a, cap, rfl⟩ := inS_sl hin
  have HIN := Lib.hid hin
  have HR := Lib.hid hr
  clear hin hr
  by_cases hbig : left < xs.length
  · have hb2 : (left : Int) - xs.length < 0 := by omega
    go_enter Try.func129, Try.ntmps129
    go_wp2
    go_ret
    exact ⟨rfl, .inl rfl⟩
  · have hb2 : ¬ (left : Int) < xs.length := by omega
    go_enter Try.func129, Try.ntmps129
    go_wp2
    go_loop [1, 5] (fun x i => ∃ k n : Nat, k ≤ xs.length ∧ i = .int .i64 k ∧ x = .int .i64 n ∧ n ≤ 1048576 ∧ ∀ j, j < k → (xs.getD j ⟨#[]⟩).size ≤ 1048576) (fun _ i => xs.length - (intOf i).toNat)
    case atStart => exact ⟨0, left - xs.length, by omega, rfl, by go_num, by omega, fun t ht => by omega⟩
    case round =>
      obtain ⟨k, n, hk, rfl, rfl, hn2, hall⟩ := hrel
      have HA := Lib.hid hall
      clear hall
      by_cases hlt : k < xs.length
      · obtain ⟨b, off, rfl, hbl, hc0⟩ := inS_at HIN.out hlt
        have hs1 : (xs.getD k ⟨#[]⟩).size ≤ 9223372036854775807 := HR.out _ (get_mem hlt)
        have HN : Hid (((xs.getD k ⟨#[]⟩).size ≤ 1048576) → ∀ j, j < k + 1 → (xs.getD j ⟨#[]⟩).size ≤ 1048576) := by
          intro h j hj
          by_cases he : j = k
          · subst he; exact h
          · exact HA.out j (by omega)
        have hin : ((k : Nat) : Int) < xs.length := by omega
        generalize xs.getD k ⟨#[]⟩ = x at *
        by_cases hneg : n < x.size
        · have hb3 : (n : Int) - x.size < 0 := by omega
          go_wp2
          go_ret
          exact ⟨rfl, .inl rfl⟩
        · have hb3 : ¬ (n : Int) < x.size := by omega
          obtain ⟨n2, hn2'⟩ : ∃ n2 : Nat, (n : Int) - x.size = n2 := ⟨n - x.size, by omega⟩
          have hle2 : n2 ≤ 1048576 := by omega
          have HN2 := Lib.hid (HN.out (by omega))
          have HN3 := Lib.hid hn2'
          clear hn2'
          go_wp2
          go_round
          case rel => exact ⟨k + 1, n2, by omega, by go_num, by rw [HN3.out], hle2, HN2.out⟩
          case measure => first | (simp [intOf]; done) | (simp [intOf]; omega)
      · have ek : k = xs.length := by omega
        have HF : Hid (∀ r ∈ xs, r.size ≤ 1048576) := by
          intro r hr
          obtain ⟨j, hj, rfl⟩ := List.getElem_of_mem hr
          have := HA.out j (by omega)
          rwa [List.getD, List.getElem?_eq_getElem hj] at this
        clear ek
        go_wp2
        go_ret
        exact ⟨rfl, .inr ⟨n, rfl, hn2, by omega, HF.out⟩⟩
theorem l_szStringSS (v : Value) (t : Ts) (left : Nat) (w : World) (hl : left ≤ 1048576) (hin : InU w v t) (hn : t.length ≤ 9223372036854775807) (hr : ∀ r ∈ t, r.length ≤ 9223372036854775807) (hs : ∀ r ∈ t, ∀ x ∈ r, x.size ≤ 9223372036854775807) :
    Calls Try.prog 79 #[v, .int .i64 left] w fun e w' => w = w' ∧ ((e = .returned (.int .i64 (-1))) ∨ ∃ m : Nat, e = .returned (.int .i64 m) ∧ m ≤ 1048576 ∧ t.length ≤ 1048576 ∧ (∀ r ∈ t, r.length ≤ 1048576) ∧ ∀ r ∈ t, ∀ x ∈ r, x.size ≤ 1048576) := by
  obtain ⟨a, cap, rfl⟩ := inU_sl hin
  have HIN := Lib.hid hin
  have HR := Lib.hid hr
  have HS := Lib.hid hs
  clear hin hr hs
  by_cases hbig : left < t.length
  · have hb2 : (left : Int) - t.length < 0 := by omega
    go_enter Try.func79, Try.ntmps79
    go_wp2
    go_ret
    exact ⟨rfl, .inl rfl⟩
  · have hb2 : ¬ (left : Int) < t.length := by omega
    go_enter Try.func79, Try.ntmps79
    go_wp2
    go_loop [1, 5] (fun x i => ∃ k n : Nat, k ≤ t.length ∧ i = .int .i64 k ∧ x = .int .i64 n ∧ n ≤ 1048576 ∧ ∀ j, j < k → (uA t j).length ≤ 1048576 ∧ ∀ x ∈ uA t j, x.size ≤ 1048576) (fun _ i => t.length - (intOf i).toNat)
    case atStart => exact ⟨0, left - t.length, by omega, rfl, by go_num, by omega, fun t ht => by omega⟩
    case round =>
      obtain ⟨k, n, hk, rfl, rfl, hn2, hall⟩ := hrel
      have HA := Lib.hid hall
      clear hall
      by_cases hlt : k < t.length
      · obtain ⟨b, off, r, c, rfl, hbl, hc0, hri⟩ := inU_at HIN.out hlt
        have HN : Hid (((uA t k).length ≤ 1048576 ∧ ∀ x ∈ uA t k, x.size ≤ 1048576) → ∀ j, j < k + 1 → (uA t j).length ≤ 1048576 ∧ ∀ x ∈ uA t j, x.size ≤ 1048576) := by
          intro h j hj
          by_cases he : j = k
          · subst he; exact h
          · exact HA.out j (by omega)
        have hin : ((k : Nat) : Int) < t.length := by omega
        have HZ := Lib.hid (l_szStringS _ _ n w hn2 hri (HR.out _ (uA_mem hlt)) (HS.out _ (uA_mem hlt)))
        clear hri
        generalize uA t k = rk at *
        go_wp2_with fail
        refine HZ.out.mono ?_
        rintro e w2 ⟨rfl, rfl | ⟨m2, rfl, hm2, hm3, hm4⟩⟩
        · go_wp2
          go_ret
          exact ⟨rfl, .inl rfl⟩
        · have HN2 := Lib.hid (HN.out ⟨hm3, hm4⟩)
          clear hm4
          go_wp2
          go_round
          case rel => exact ⟨k + 1, m2, by omega, by go_num, rfl, hm2, HN2.out⟩
          case measure => first | (simp [intOf]; done) | (simp [intOf]; omega)
      · have ek : k = t.length := by omega
        have HF : Hid ((∀ r ∈ t, r.length ≤ 1048576) ∧ ∀ r ∈ t, ∀ x ∈ r, x.size ≤ 1048576) := by
          constructor
          · intro r hr
            obtain ⟨j, hj, rfl⟩ := List.getElem_of_mem hr
            have := (HA.out j (by omega)).1
            rwa [uA, List.getD, List.getElem?_eq_getElem hj] at this
          · intro r hr
            obtain ⟨j, hj, rfl⟩ := List.getElem_of_mem hr
            have := (HA.out j (by omega)).2
            rwa [uA, List.getD, List.getElem?_eq_getElem hj] at this
        clear ek
        go_wp2
        go_ret
        exact ⟨rfl, .inr ⟨n, rfl, hn2, by omega, HF.out.1, HF.out.2⟩⟩
theorem l_szCoder (u1 u2 : Value) (a : Co) (left : Nat) (w : World) (hl : left ≤ 1048576) (h1 : InT w u1 a.nx) (h2 : InU w u2 a.ou) (hn : a.nx.length ≤ 9223372036854775807) (hr : ∀ r ∈ a.nx, r.length ≤ 9223372036854775807) (ho : a.ou.length ≤ 9223372036854775807) (hor : ∀ r ∈ a.ou, r.length ≤ 9223372036854775807) (hos : ∀ r ∈ a.ou, ∀ x ∈ r, x.size ≤ 9223372036854775807) :
    Calls Try.prog 28 #[.agg #[.int .i64 a.st, .int .i64 a.sa, u1, u2], .int .i64 left] w fun e w' => Below w.heap.size w w' ∧ ((e = .returned (.int .i64 (-1))) ∨ ∃ m : Nat, e = .returned (.int .i64 m) ∧ m ≤ 1048576 ∧ coSm a) := by
  obtain ⟨a1, c1, rfl⟩ := inT_sl h1
  obtain ⟨a2, c2, rfl⟩ := inU_sl h2
  have hb := (Below.refl w.heap.size w).alloc (Nat.le_refl _) (.cells #[.int .i64 a.st, .int .i64 a.sa, .slice a1 a.nx.length c1, .slice a2 a.ou.length c2] 39)
  have H1 := Lib.hid (l_szInt64SS (.slice a1 a.nx.length c1) a.nx left _ hl (inT_below h1 hb) hn hr)
  have H2 := Lib.hid (fun left w hl h => l_szStringSS (.slice a2 a.ou.length c2) a.ou left w hl h ho hor hos)
  have HT := Lib.hid (inU_below h2 hb)
  have HB := Lib.hid hb
  clear h1 h2 hn hr hb ho hor hos
  go_enter Try.func28, Try.ntmps28
  go_wp2_with fail
  refine H1.out.mono ?_
  rintro e w2 ⟨rfl, rfl | ⟨m2, rfl, hm2, hm3, hm3'⟩⟩
  · go_wp2
    go_ret
    exact ⟨HB.out, .inl rfl⟩
  · have HM3 := Lib.hid hm3'
    clear hm3'
    go_wp2_with fail
    refine (H2.out m2 _ hm2 HT.out).mono ?_
    rintro e w2 ⟨rfl, rfl | ⟨m4, rfl, hm4, hm5, hm6, hm7⟩⟩
    · go_wp2
      go_ret
      exact ⟨HB.out, .inl rfl⟩
    · have HH : Hid (coSm a) := ⟨⟨hm3, HM3.out⟩, hm5, hm6, hm7⟩
      clear hm6 hm7
      go_wp2
      go_ret
      exact ⟨HB.out, .inr ⟨m4, rfl, hm4, HH.out⟩⟩
end Go.Proofs.Ytefcdkgfabaffaa

/- Coders that come in: copies, comparisons. -/
namespace Go.Proofs.Ytefcdkgfabaffaa
open Go.ChangeShapes Go.WideShapes Go.RowKit
set_option linter.unusedVariables false
set_option linter.unusedSimpArgs false
set_option maxHeartbeats 4000000
set_option maxRecDepth 100000
theorem info_strb : (Try.prog.info? 9).map (fun i => (i.zero, i.size, i.bytes)) = some (some (.string ⟨#[]⟩), 1, 16) := by kernel_rfl
theorem makeS {ops : Array Oper} {rest : List Oper} {o : Oper} {a : Act} {Q : Exit → Act → World → Prop} (w : World) (hg : o.guard = none) (l c : Operand) (hop : o.op = Op.makeSlice 96 l c) (base : Nat) (hbase : base ≤ w.heap.size) (n : Nat) (hl : a.eval l = .int .i64 n) (hc : a.eval c = .int .i64 n) (hn : n ≤ 1048576)
    (hK : ∀ w', w'.ownsRow base 9 1 (.slice (some ⟨w.heap.size, 0, none⟩) n n) n ((List.replicate n (⟨#[]⟩ : ByteArray)).map Value.string) → Below w.heap.size w w' → wpList Try.prog ops Q rest (a.put o.dst (.slice (some ⟨w.heap.size, 0, none⟩) n n)) w') :
    wpList Try.prog ops Q (o :: rest) a w := by
  obtain ⟨ii, hi, hz0, hz1, hz2⟩ := info_parts info_strb
  refine wpList_make_full w hg l c _ hop base 9 ii (.string ⟨#[]⟩) 1 Try.underlying96 hi hz0 hz1 .i64 .i64 _ _ n hl hc rfl rfl (by rw [hz2]; omega) (by unfold maxLen; omega) hbase ?_
  intro w1 ho1 hg1
  refine hK w1 ?_ (below_of_grown hg1 (Nat.le_refl _) (fun k hk => by cases hk))
  rw [Nat.mul_one] at ho1
  have := toList_madeCells_one (.string ⟨#[]⟩) n
  rw [show (Value.string ⟨#[]⟩).cells = #[.string ⟨#[]⟩] from rfl, this] at ho1
  simpa using ho1
theorem own_setS {w : World} {base e : Nat} {g n cap : Nat} {xs : List ByteArray} (h : w.ownsRow base e 1 (.slice (some ⟨g, 0, none⟩) n cap) n (xs.map Value.string)) (k : Nat) (x : ByteArray) :
    (w.setCell ⟨g, k, none⟩ (.string x)).ownsRow base e 1 (.slice (some ⟨g, 0, none⟩) n cap) n ((xs.set k x).map Value.string) := by
  have := (h.stored k (.string x)).1
  rwa [← List.map_set] at this
theorem own_getS {w : World} {base e : Nat} {g n cap : Nat} {xs : List ByteArray} (h : w.ownsRow base e 1 (.slice (some ⟨g, 0, none⟩) n cap) n (xs.map Value.string)) (hl : xs.length = n) {k : Nat} (hk : k < n) : w.cell? ⟨g, k, none⟩ = some (.string (xs.getD k ⟨#[]⟩)) := by
  rw [h.cellAt k (by omega)]; simp [List.getD, show k < xs.length by omega]
theorem l_toStringS (v : Value) (xs : List ByteArray) (w : World) (hn : xs.length ≤ 1048576) (hin : InS w v xs) :
    Calls Try.prog 130 #[v] w fun e w' => ∃ g, e = .returned (.slice (some ⟨g, 0, none⟩) xs.length xs.length) ∧ w'.ownsRow w.heap.size 9 1 (.slice (some ⟨g, 0, none⟩) xs.length xs.length) xs.length (sv xs) ∧ Below w.heap.size w w' := by
  obtain ⟨a, cap, rfl⟩ := inS_sl hin
  have HIN := Lib.hid hin
  clear hin
  go_enter Try.func130, Try.ntmps130
  go_wp2_with (at_make; refine makeS _ rfl _ _ rfl w.heap.size (Nat.le_refl _) xs.length rfl rfl hn ?_; intro w1 ho1 hb1)
  have HO := Lib.hid ho1
  clear ho1
  go_loopw [4] (fun i wr => Below w.heap.size w wr ∧ ∃ (k : Nat) (zs : List ByteArray), k ≤ xs.length ∧ i = .int .i64 k ∧ zs.length = xs.length ∧ wr.ownsRow w.heap.size 9 1 (.slice (some ⟨w.heap.size, 0, none⟩) xs.length xs.length) xs.length (zs.map (Value.string)) ∧ ∀ t, t < k → zs.getD t ⟨#[]⟩ = xs.getD t ⟨#[]⟩) (fun i _ => xs.length - (intOf i).toNat)
  case atStart => exact ⟨hb1, 0, _, by omega, rfl, by simp, HO.out, fun t ht => by omega⟩
  case round =>
    obtain ⟨hb2, k, zs, hk, rfl, hzl, hzs, hall⟩ := hrel
    have HA := Lib.hid hall
    clear hall
    by_cases hlt : k < xs.length
    · obtain ⟨b, off, rfl, hbl, hc0⟩ := inS_at (inS_below HIN.out hb2) hlt
      have hcz := own_getS hzs hzl hlt
      have hfz : wr.frozen? ⟨w.heap.size, k, none⟩ = false := hzs.frozenAt k
      have HST := Lib.hid (own_setS hzs k (xs.getD k ⟨#[]⟩))
      have HB2 := Lib.hid hb2
      have HZL := Lib.hid hzl
      have hin : ((k : Nat) : Int) < xs.length := by omega
      clear hzs hb2 hzl
      generalize hx : xs.getD k ⟨#[]⟩ = x at *
      have HX := Lib.hid hx
      clear hx
      go_wp2
      go_roundw
      case rel =>
        refine ⟨HB2.out.setCell (p := ⟨w.heap.size, k, none⟩) (Nat.le_refl _) _, k + 1, zs.set k x, by omega, by go_num, by rw [List.length_set]; exact HZL.out, HST.out, fun t ht => ?_⟩
        have hl := HZL.out
        by_cases he : t = k
        · subst he
          rw [HX.out, List.getD, List.getElem?_set_self (by omega)]; rfl
        · rw [List.getD, List.getElem?_set_ne (by omega)]; exact HA.out t (by omega)
      case measure => first | (simp [intOf]; done) | (simp [intOf]; omega)
    · have ek : k = xs.length := by omega
      have hfin : zs = xs := by
        apply List.ext_getElem hzl
        intro j h1 h2
        have := HA.out j (by omega)
        rwa [List.getD, List.getD, List.getElem?_eq_getElem h1, List.getElem?_eq_getElem h2] at this
      rw [hfin] at hzs
      clear ek hfin
      go_wp2
      go_ret
      exact ⟨_, rfl, hzs, hb2⟩
theorem info_rowS : (Try.prog.info? 96).map (fun i => (i.zero, i.size, i.bytes)) = some (some (.slice none 0 0), 1, 24) := by kernel_rfl
theorem l_toStringSS (v : Value) (t : Ts) (w : World) (hn : t.length ≤ 1048576) (hr : ∀ r ∈ t, r.length ≤ 1048576) (hin : InU w v t) :
    Calls Try.prog 81 #[v] w fun e w' => ∃ g, e = .returned (.slice (some ⟨g, 0, none⟩) t.length t.length) ∧ OwnU w.heap.size w' (.slice (some ⟨g, 0, none⟩) t.length t.length) t ∧ Below w.heap.size w w' := by
  obtain ⟨i0, hi, hz0, hz1, hz2⟩ := info_parts info_rowS
  obtain ⟨a, cap, rfl⟩ := inU_sl hin
  have HIN := Lib.hid hin
  have HR := Lib.hid hr
  clear hin hr
  go_enter Try.func81, Try.ntmps81
  go_wp2_with (at_make; refine wpList_make_full _ rfl _ _ 37 rfl w.heap.size 96 i0 (.slice none 0 0) 1 Try.underlying37 hi hz0 hz1 .i64 .i64 _ _ t.length rfl rfl rfl rfl (by rw [hz2]; omega) (by unfold maxLen; omega) (Nat.le_refl _) ?_; intro w1 ho1 hg1)
  have hb1 : Below w.heap.size w w1 := below_of_grown hg1 (Nat.le_refl _) (fun k hk => by cases hk)
  have hgl : w.heap.size < w1.heap.size := (ho1.lt _ rfl).2
  have HO := Lib.hid ho1
  clear ho1 hg1
  go_loopw [4] (fun i wr => Below w.heap.size w wr ∧ w.heap.size < wr.heap.size ∧ ∃ (k : Nat) (vs : List Value), k ≤ t.length ∧ i = .int .i64 k ∧ wr.ownsRow w.heap.size 96 1 (.slice (some ⟨w.heap.size, 0, none⟩) t.length t.length) t.length vs ∧ (∀ j, j < k → wr.ownsRow (w.heap.size + 1) 9 1 (vs.getD j undef) (uA t j).length (sv (uA t j))) ∧ ∀ i j, i < j → j < k → ∀ b, (vs.getD i undef).ownBlock = some b → (vs.getD j undef).ownBlock ≠ some b) (fun i _ => t.length - (intOf i).toNat)
  case atStart => exact ⟨hb1, hgl, 0, _, by omega, rfl, HO.out, fun t ht => by omega, fun i j _ h => by omega⟩
  case round =>
    obtain ⟨hb2, hgs, k, vs, hk, rfl, hvs, hrows, hdis⟩ := hrel
    have hvl : vs.length = t.length := by have := hvs.1; omega
    by_cases hlt : k < t.length
    · obtain ⟨b, off, r, c, rfl, hbl, hc0, hri⟩ := inU_at (inU_below HIN.out hb2) hlt
      have hin : ((k : Nat) : Int) < t.length := by omega
      have HT := Lib.hid (l_toStringS (.slice r (uA t k).length c) (uA t k) wr (HR.out _ (uA_mem hlt)) hri)
      have HVS := Lib.hid hvs
      have HROWS := Lib.hid hrows
      have HDIS := Lib.hid hdis
      have HB2 := Lib.hid hb2
      have HVL := Lib.hid hvl
      clear hri hvs hrows hdis hb2 hvl
      generalize hrk : uA t k = rk at *
      have HRK := Lib.hid hrk
      clear hrk
      go_wp2_with fail
      refine HT.out.mono ?_
      rintro e w2 ⟨g, rfl, ho2, hb3⟩
      have hvs2 := owns_after HVS.out hb3
      obtain ⟨z0, hz0'⟩ : ∃ z, vs[k]? = some z := ⟨_, List.getElem?_eq_getElem (by have := HVL.out; omega)⟩
      have hcell : w2.cell? ⟨w.heap.size, k, none⟩ = some z0 := by rw [hvs2.cellAt k (by omega)]; exact hz0'
      have hfro : w2.frozen? ⟨w.heap.size, k, none⟩ = false := hvs2.frozenAt k
      have HST := Lib.hid (hvs2.stored k (.slice (some ⟨g, 0, none⟩) rk.length rk.length)).1
      have HB3 := Lib.hid hb3
      have HO2 := Lib.hid ho2
      have hgw : wr.heap.size ≤ g := (ho2.lt g rfl).1
      clear hvs2 hz0' hb3 ho2 HT
      go_wp2
      go_roundw
      case rel =>
        have hl := HVL.out
        have hB := HB2.out.trans (HB3.out.mono HB2.out.size)
        have hs3 := HB3.out.size
        refine ⟨hB.setCell (p := ⟨w.heap.size, k, none⟩) (Nat.le_refl _) _, by simp; omega, k + 1, _, by omega, by go_num, HST.out, fun j hj => ?_, fun i j hij hj b0 => ?_⟩
        · by_cases he : j = k
          · subst he
            rw [List.getD, List.getElem?_set_self (by omega), HRK.out]
            exact ownsRow_setCell_below (owns_weak HO2.out (show w.heap.size + 1 ≤ wr.heap.size by omega)) (a := ⟨w.heap.size, j, none⟩) (by simp) _
          · rw [List.getD, List.getElem?_set_ne (by omega)]
            exact ownsRow_setCell_below (owns_after (HROWS.out j (by omega)) HB3.out) (a := ⟨w.heap.size, k, none⟩) (by simp) _
        · have hne : i ≠ k := by omega
          rw [List.getD, List.getElem?_set_ne (by omega)]
          by_cases he : j = k
          · subst he
            rw [List.getD, List.getElem?_set_self (by omega)]
            intro h1 h2
            have e2 : g = b0 := by injection h2
            have := ((HROWS.out i (by omega)).lt b0 h1).2
            omega
          · rw [List.getD, List.getElem?_set_ne (by omega)]
            exact HDIS.out i j hij (by omega) b0
      case measure => first | (simp [intOf]; done) | (simp [intOf]; omega)
    · have ek : k = t.length := by omega
      subst ek
      have HF : Hid (OwnU w.heap.size wr (.slice (some ⟨w.heap.size, 0, none⟩) t.length t.length) t) :=
        ⟨vs, hvl, hvs, fun j hj => owns_weak (hrows j hj) (by omega), hdis, fun i b hi h1 h2 => by
          have := ((hrows i hi).lt b h1).1
          have e2 : w.heap.size = b := by injection h2
          omega⟩
      clear hvs hrows hdis hvl
      go_wp2
      go_ret
      exact ⟨_, rfl, HF.out, hb2⟩
theorem ownU_st {base : Nat} {w : World} {v : Value} {t : Ts} (h : OwnU base w v t) {b o : Nat} (hb : b < base) (u : Value) : OwnU base (w.setCell ⟨b, o, none⟩ u) v t := by
  obtain ⟨vs, hl, h, hr, h2⟩ := h
  exact ⟨vs, hl, ownsRow_setCell_below h (a := ⟨b, o, none⟩) hb u, fun k hk => ownsRow_setCell_below (hr k hk) (a := ⟨b, o, none⟩) hb u, h2⟩
theorem ownU_weak {base base' : Nat} {w : World} {v : Value} {t : Ts} (h : OwnU base w v t) (hb : base' ≤ base) : OwnU base' w v t := by
  obtain ⟨vs, hl, h, hr, h2⟩ := h
  exact ⟨vs, hl, owns_weak h hb, fun k hk => owns_weak (hr k hk) hb, h2⟩
theorem l_toCoder (u1 u2 : Value) (a : Co) (w : World) (hs : coSm a) (h1 : InT w u1 a.nx) (h2 : InU w u2 a.ou) :
    Calls Try.prog 30 #[.agg #[.int .i64 a.st, .int .i64 a.sa, u1, u2]] w fun e w' => ∃ g1 g2, e = .returned (.agg #[.int .i64 a.st, .int .i64 a.sa, .slice (some ⟨g1, 0, none⟩) a.nx.length a.nx.length, .slice (some ⟨g2, 0, none⟩) a.ou.length a.ou.length]) ∧ OwnT w.heap.size w' (.slice (some ⟨g1, 0, none⟩) a.nx.length a.nx.length) a.nx ∧ OwnU w.heap.size w' (.slice (some ⟨g2, 0, none⟩) a.ou.length a.ou.length) a.ou ∧ g1 ≠ g2 ∧ Below w.heap.size w w' := by
  obtain ⟨⟨hs1, hs1'⟩, hs2, hs3, hs4⟩ := hs
  have H1 := Lib.hid (fun w h => l_toInt64SS u1 a.nx w hs1 hs1' h)
  have H2 := Lib.hid (fun w h => l_toStringSS u2 a.ou w hs2 hs3 h)
  have HI1 := Lib.hid h1
  have HI2 := Lib.hid h2
  clear h1 h2 hs1 hs1' hs2 hs3 hs4
  go_enter Try.func30, Try.ntmps30
  have hbA := (((Below.refl w.heap.size w).alloc (Nat.le_refl _) (.cells #[.int .i64 a.st, .int .i64 a.sa, u1, u2] 39)).alloc (by simp) (.cells #[.int .i64 0, .int .i64 0, .slice none 0 0, .slice none 0 0] 42)).alloc (by first | (simp; done) | (simp; omega)) (.cells #[.int .i64 a.st, .int .i64 a.sa, .slice none 0 0, .slice none 0 0] 42)
  have i1 := inT_below HI1.out hbA
  have HBA := Lib.hid hbA
  clear hbA
  go_wp2_with fail
  refine (H1.out _ i1).mono ?_
  rintro e w2 ⟨g1, rfl, ho1, hb1⟩
  have B1 := HBA.out.trans (hb1.mono HBA.out.size)
  have c3 : w2.cell? ⟨w.heap.size, 3, none⟩ = some u2 := by rw [hb1.cell (by first | (simp; done) | (simp; omega))]; simp [go_sem]
  have k0 : w2.cell? ⟨w.heap.size + 1 + 1, 0, none⟩ = some (.int .i64 a.st) := by rw [hb1.cell (by simp)]; simp [go_sem]
  have k1 : w2.cell? ⟨w.heap.size + 1 + 1, 1, none⟩ = some (.int .i64 a.sa) := by rw [hb1.cell (by simp)]; simp [go_sem]
  have k2 : w2.cell? ⟨w.heap.size + 1 + 1, 2, none⟩ = some (.slice none 0 0) := by rw [hb1.cell (by simp)]; simp [go_sem]
  have k3 : w2.cell? ⟨w.heap.size + 1 + 1, 3, none⟩ = some (.slice none 0 0) := by rw [hb1.cell (by simp)]; simp [go_sem]
  have z0 : w2.cell? ⟨w.heap.size + 1, 0, none⟩ = some (.int .i64 0) := by rw [hb1.cell (by first | (simp; done) | (simp; omega))]; simp [go_sem]
  have z1 : w2.cell? ⟨w.heap.size + 1, 1, none⟩ = some (.int .i64 0) := by rw [hb1.cell (by first | (simp; done) | (simp; omega))]; simp [go_sem]
  have z2 : w2.cell? ⟨w.heap.size + 1, 2, none⟩ = some (.slice none 0 0) := by rw [hb1.cell (by first | (simp; done) | (simp; omega))]; simp [go_sem]
  have z3 : w2.cell? ⟨w.heap.size + 1, 3, none⟩ = some (.slice none 0 0) := by rw [hb1.cell (by first | (simp; done) | (simp; omega))]; simp [go_sem]
  have f2 : w2.frozen? ⟨w.heap.size + 1 + 1, 2, none⟩ = false := by rw [hb1.frozen (by simp)]; simp [go_sem]
  have f3 : ∀ j, w2.frozen? ⟨w.heap.size + 1 + 1, j, none⟩ = false := fun j => by rw [hb1.frozen (by simp)]; simp [go_sem]
  have fz : ∀ j, w2.frozen? ⟨w.heap.size + 1, j, none⟩ = false := fun j => by rw [hb1.frozen (by first | (simp; done) | (simp; omega))]; simp [go_sem]
  have hg1 : w.heap.size + 1 + 1 < g1 := by
    obtain ⟨vs, _, h, _⟩ := ho1
    have := (h.lt g1 rfl).1
    simp at this; omega
  have HO1 := Lib.hid ho1
  have HB1 := Lib.hid B1
  have HK := Lib.hid k3
  have HZ : Hid (w2.cell? ⟨w.heap.size + 1, 0, none⟩ = some (.int .i64 0) ∧ w2.cell? ⟨w.heap.size + 1, 1, none⟩ = some (.int .i64 0) ∧ w2.cell? ⟨w.heap.size + 1, 2, none⟩ = some (.slice none 0 0) ∧ w2.cell? ⟨w.heap.size + 1, 3, none⟩ = some (.slice none 0 0)) := ⟨z0, z1, z2, z3⟩
  have HK01 : Hid (w2.cell? ⟨w.heap.size + 1 + 1, 0, none⟩ = some (.int .i64 a.st) ∧ w2.cell? ⟨w.heap.size + 1 + 1, 1, none⟩ = some (.int .i64 a.sa)) := ⟨k0, k1⟩
  have HFZ := Lib.hid fz
  have HF3 := Lib.hid f3
  have hw2 : w.heap.size + 1 + 1 < w2.heap.size := World.block_lt_of_cell? _ _ k0
  have HK2 := Lib.hid k2
  clear ho1 hb1 B1 i1 k0 k1 k3 z0 z1 z2 z3 fz f3
  have c3' : (w2.setCell ⟨w.heap.size + 1 + 1, 2, none⟩ (.slice (some ⟨g1, 0, none⟩) a.nx.length a.nx.length)).cell? ⟨w.heap.size, 3, none⟩ = some u2 := by
    rw [cell_st_ne _ (by show w.heap.size + 1 + 1 ≠ w.heap.size; omega)]; exact c3
  go_wp2_with fail
  refine (H2.out _ (inU_below HI2.out (HB1.out.setCell (p := ⟨w.heap.size + 1 + 1, 2, none⟩) (by first | (simp; done) | (simp; omega)) _))).mono ?_
  rintro e w3 ⟨g2, rfl, ho2, hb2⟩
  have e0 : w3.cell? ⟨w.heap.size + 1 + 1, 0, none⟩ = some (.int .i64 a.st) := by rw [hb2.cell (by first | (simp; done) | (simp; omega)), World.cell?_setCell_other (h := by simp)]; exact HK01.out.1
  have e1 : w3.cell? ⟨w.heap.size + 1 + 1, 1, none⟩ = some (.int .i64 a.sa) := by rw [hb2.cell (by first | (simp; done) | (simp; omega)), World.cell?_setCell_other (h := by simp)]; exact HK01.out.2
  have e2 : w3.cell? ⟨w.heap.size + 1 + 1, 2, none⟩ = some (.slice (some ⟨g1, 0, none⟩) a.nx.length a.nx.length) := by rw [hb2.cell (by first | (simp; done) | (simp; omega))]; exact cell_st_same _ HK2.out
  have e3 : w3.cell? ⟨w.heap.size + 1 + 1, 3, none⟩ = some (.slice none 0 0) := by rw [hb2.cell (by first | (simp; done) | (simp; omega)), World.cell?_setCell_other (h := by simp)]; exact HK.out
  have y : ∀ j v, w2.cell? ⟨w.heap.size + 1, j, none⟩ = some v → w3.cell? ⟨w.heap.size + 1, j, none⟩ = some v := fun j v h => by rw [hb2.cell (by first | (simp; done) | (simp; omega)), cell_st_ne _ (by show w.heap.size + 1 + 1 ≠ w.heap.size + 1; omega)]; exact h
  have y0 := y _ _ HZ.out.1
  have y1 := y _ _ HZ.out.2.1
  have y2 := y _ _ HZ.out.2.2.1
  have y3 := y _ _ HZ.out.2.2.2
  have f5 : w3.frozen? ⟨w.heap.size + 1 + 1, 3, none⟩ = false := by rw [hb2.frozen (by first | (simp; done) | (simp; omega))]; simpa using HF3.out 3
  have fy : ∀ j, w3.frozen? ⟨w.heap.size + 1, j, none⟩ = false := fun j => by rw [hb2.frozen (by first | (simp; done) | (simp; omega))]; simpa using HFZ.out j
  clear y
  have f30 := fy 0
  have f31 := fy 1
  have f32 := fy 2
  have f33 := fy 3
  have hg2 : g1 < g2 := by
    have a1 : g1 < w2.heap.size := by
      obtain ⟨vs, _, h, _⟩ := HO1.out
      exact (h.lt g1 rfl).2
    obtain ⟨vs, _, h, _⟩ := ho2
    have := (h.lt g2 rfl).1
    simp at this; omega
  have HO2 := Lib.hid ho2
  have HB2 := Lib.hid hb2
  clear ho2 hb2 c3 c3' k2 f2 fy
  have hne : ∀ j, (w3.setCell ⟨w.heap.size + 1 + 1, 3, none⟩ (.slice (some ⟨g2, 0, none⟩) a.ou.length a.ou.length)).cell? ⟨w.heap.size + 1, j, none⟩ = w3.cell? ⟨w.heap.size + 1, j, none⟩ := fun j => cell_st_ne _ (by show w.heap.size + 1 + 1 ≠ w.heap.size + 1; omega)
  have HP := Lib.hid (put4 (w := w3.setCell ⟨w.heap.size + 1 + 1, 3, none⟩ (.slice (some ⟨g2, 0, none⟩) a.ou.length a.ou.length)) (b := w.heap.size + 1) (.int .i64 a.st) (.int .i64 a.sa) (.slice (some ⟨g1, 0, none⟩) a.nx.length a.nx.length) (.slice (some ⟨g2, 0, none⟩) a.ou.length a.ou.length) (by rw [hne]; exact y0) (by rw [hne]; exact y1) (by rw [hne]; exact y2) (by rw [hne]; exact y3))
  clear hne
  go_wp2
  have hP := HP.out
  refine bodyPost_ret (v := .agg #[.int .i64 a.st, .int .i64 a.sa, .slice (some ⟨g1, 0, none⟩) a.nx.length a.nx.length, .slice (some ⟨g2, 0, none⟩) a.ou.length a.ou.length]) (by simp [results, Try.results30, go_sem, hP.1, hP.2.1, hP.2.2.1, hP.2.2.2]) rfl ⟨g1, g2, rfl, ?_, ?_, by omega, ?_⟩
  · have h9 := ownT_after (ownT_st HO1.out (b := w.heap.size + 1 + 1) (o := 2) (by simp) (.slice (some ⟨g1, 0, none⟩) a.nx.length a.nx.length)) HB2.out
    exact ownT_weak (ownT_st (ownT_st (ownT_st (ownT_st (ownT_st h9 (b := w.heap.size + 1 + 1) (by simp) _) (b := w.heap.size + 1) (by first | (simp; done) | (simp; omega)) _) (b := w.heap.size + 1) (by first | (simp; done) | (simp; omega)) _) (b := w.heap.size + 1) (by first | (simp; done) | (simp; omega)) _) (b := w.heap.size + 1) (by first | (simp; done) | (simp; omega)) _) (by first | (simp; done) | (simp; omega))
  · exact ownU_weak (ownU_st (ownU_st (ownU_st (ownU_st (ownU_st HO2.out (b := w.heap.size + 1 + 1) (by simpa using hw2) _) (b := w.heap.size + 1) (by simp; omega) _) (b := w.heap.size + 1) (by simp; omega) _) (b := w.heap.size + 1) (by simp; omega) _) (b := w.heap.size + 1) (by simp; omega) _) (by simp; omega)
  · have hB := (HB1.out.setCell (p := ⟨w.heap.size + 1 + 1, 2, none⟩) (by first | (simp; done) | (simp; omega)) (.slice (some ⟨g1, 0, none⟩) a.nx.length a.nx.length))
    exact (((((hB.trans (HB2.out.mono hB.size)).setCell (p := ⟨w.heap.size + 1 + 1, 3, none⟩) (by first | (simp; done) | (simp; omega)) _).setCell (p := ⟨w.heap.size + 1, 0, none⟩) (by first | (simp; done) | (simp; omega)) _).setCell (p := ⟨w.heap.size + 1, 1, none⟩) (by first | (simp; done) | (simp; omega)) _).setCell (p := ⟨w.heap.size + 1, 2, none⟩) (by first | (simp; done) | (simp; omega)) _).setCell (p := ⟨w.heap.size + 1, 3, none⟩) (by first | (simp; done) | (simp; omega)) _
theorem l_eqS (va vb : Value) (xs ys : List ByteArray) (w : World) (ha : InS w va xs) (hb : InS w vb ys) (hx : xs.length ≤ 1048576) (hy : ys.length ≤ 1048576) :
    Calls Try.prog 133 #[va, vb] w fun e w' => e = .returned (.bool (decide (xs = ys))) ∧ Qt w w' := by
  obtain ⟨a, cap, rfl⟩ := inS_sl ha
  obtain ⟨a1, cap1, rfl⟩ := inS_sl hb
  have HA := Lib.hid ha
  have HB := Lib.hid hb
  clear ha hb
  by_cases hlen : xs.length = ys.length
  · have hle : ((xs.length : Int) != ys.length) = false := by simp [hlen]
    have HLEN := Lib.hid hlen
    clear hlen
    go_enter Try.func133, Try.ntmps133
    go_wp2
    go_loopw [5] (fun i wr => Qt w wr ∧ ∃ k : Nat, k ≤ xs.length ∧ i = .int .i64 k ∧ ∀ t, t < k → xs.getD t ⟨#[]⟩ = ys.getD t ⟨#[]⟩) (fun i _ => xs.length - (intOf i).toNat)
    case atStart => exact ⟨Qt.refl _, 0, by omega, rfl, fun t ht => by omega⟩
    case round =>
      obtain ⟨hq, k, hk, rfl, hall⟩ := hrel
      have HALL := Lib.hid hall
      clear hall
      by_cases hlt : k < xs.length
      · have hbl : Below w.heap.size w wr := by obtain ⟨q0, rfl⟩ := hq; exact below_drewN (Below.refl _ _) _
        obtain ⟨g, off, rfl, hg, hx1⟩ := inS_at (inS_below HA.out hbl) hlt
        obtain ⟨g1, off1, rfl, hg1, hy1⟩ := inS_at (inS_below HB.out hbl) (show k < ys.length by have := HLEN.out; omega)
        have hin : ((k : Nat) : Int) < xs.length := by omega
        have hin2 : ((k : Nat) : Int) < ys.length := by have := HLEN.out; omega
        have HEQ : Hid (xs.getD k ⟨#[]⟩ = ys.getD k ⟨#[]⟩ → ∀ t, t < k + 1 → xs.getD t ⟨#[]⟩ = ys.getD t ⟨#[]⟩) := by
          intro e t ht
          by_cases he : t = k
          · subst he; exact e
          · exact HALL.out t (by omega)
        have HNE : Hid (¬ xs.getD k ⟨#[]⟩ = ys.getD k ⟨#[]⟩ → decide (xs = ys) = false) := by
          intro h
          rw [decide_eq_false_iff_not]
          rintro rfl
          exact h rfl
        clear hbl
        generalize xs.getD k ⟨#[]⟩ = x1 at *
        generalize ys.getD k ⟨#[]⟩ = y1 at *
        by_cases heq : x1 = y1
        · have HALL2 := Lib.hid (HEQ.out heq)
          subst heq
          go_wp2
          go_big_quiet (fail)
          go_wp2
          go_roundw
          case rel => exact ⟨hq.drewN _, k + 1, by omega, by go_num, HALL2.out⟩
          case measure => first | (simp [intOf]; done) | (simp [intOf]; omega)
        · have HF := Lib.hid (HNE.out heq)
          have hne0 : (x1.toList == y1.toList) = false := by
            rw [beq_eq_false_iff_ne, ne_eq, ByteArray.toList_eq, ByteArray.toList_eq, Array.toList_inj, ← ByteArray.ext_iff]
            exact heq
          clear heq
          go_wp2
          go_big_quiet (fail)
          go_wp2
          go_ret
          exact ⟨ret_bool HF.out.symm, hq.drewN _⟩
      · have ek : k = xs.length := by omega
        subst ek
        have HF : Hid (decide (xs = ys) = true) := by
          show _ = _
          rw [decide_eq_true_iff]
          apply List.ext_getElem HLEN.out
          intro j h1 h2
          have := HALL.out j h1
          rwa [List.getD, List.getD, List.getElem?_eq_getElem h1, List.getElem?_eq_getElem h2] at this
        have hk' : ¬ (xs.length : Int) < xs.length := by omega
        go_wp2
        go_ret
        exact ⟨ret_bool HF.out.symm, hq⟩
  · have hle : ((xs.length : Int) != ys.length) = true := by simp only [bne_iff_ne, ne_eq]; omega
    have HF : Hid (decide (xs = ys) = false) := by show _ = _; rw [decide_eq_false_iff_not]; rintro rfl; exact hlen rfl
    go_enter Try.func133, Try.ntmps133
    go_wp2
    go_ret
    exact ⟨ret_bool HF.out.symm, Qt.refl _⟩
theorem l_eqU (va vb : Value) (xs ys : Ts) (w : World) (ha : InU w va xs) (hb : InU w vb ys) (hx : xs.length ≤ 1048576) (hy : ys.length ≤ 1048576) (hxr : ∀ r ∈ xs, r.length ≤ 1048576) (hyr : ∀ r ∈ ys, r.length ≤ 1048576) :
    Calls Try.prog 86 #[va, vb] w fun e w' => e = .returned (.bool (decide (xs = ys))) ∧ Qt w w' := by
  obtain ⟨a, cap, rfl⟩ := inU_sl ha
  obtain ⟨a1, cap1, rfl⟩ := inU_sl hb
  have HA := Lib.hid ha
  have HB := Lib.hid hb
  have HXR := Lib.hid hxr
  have HYR := Lib.hid hyr
  clear ha hb hxr hyr
  skip
  by_cases hlen : xs.length = ys.length
  · have hle : ((xs.length : Int) != ys.length) = false := by simp [hlen]
    have HLEN := Lib.hid hlen
    clear hlen
    go_enter Try.func86, Try.ntmps86
    go_wp2
    go_loopw [5] (fun i wr => Qt w wr ∧ ∃ k : Nat, k ≤ xs.length ∧ i = .int .i64 k ∧ ∀ t, t < k → uA xs t = uA ys t) (fun i _ => xs.length - (intOf i).toNat)
    case atStart => exact ⟨Qt.refl _, 0, by omega, rfl, fun t ht => by omega⟩
    case round =>
      obtain ⟨hq, k, hk, rfl, hall⟩ := hrel
      have HALL := Lib.hid hall
      clear hall
      by_cases hlt : k < xs.length
      · have hbl : Below w.heap.size w wr := by obtain ⟨q0, rfl⟩ := hq; exact below_drewN (Below.refl _ _) _
        obtain ⟨g, off, r0, c0, rfl, hg, hx1, hi1⟩ := inU_at (inU_below HA.out hbl) hlt
        obtain ⟨g1, off1, r1, c1, rfl, hg1, hy1, hi2⟩ := inU_at (inU_below HB.out hbl) (show k < ys.length by have := HLEN.out; omega)
        have hin : ((k : Nat) : Int) < xs.length := by omega
        have hin2 : ((k : Nat) : Int) < ys.length := by have := HLEN.out; omega
        have HEQ : Hid (uA xs k = uA ys k → ∀ t, t < k + 1 → uA xs t = uA ys t) := by
          intro e t ht
          by_cases he : t = k
          · subst he; exact e
          · exact HALL.out t (by omega)
        have HNE : Hid (¬ uA xs k = uA ys k → decide (xs = ys) = false) := by
          intro h
          rw [decide_eq_false_iff_not]
          rintro rfl
          exact h rfl
        have hl1 := HXR.out _ (uA_mem hlt)
        have hl2 := HYR.out _ (uA_mem (show k < ys.length by have := HLEN.out; omega))
        clear hbl
        generalize uA xs k = x1 at *
        generalize uA ys k = y1 at *
        have HS : Hid (∀ q, Calls Try.prog 133 #[.slice r0 x1.length c0, .slice r1 y1.length c1] (wr.drewN q) fun e w' => e = .returned (.bool (decide (x1 = y1))) ∧ Qt (wr.drewN q) w') := fun q => by
          have e1 : InS (wr.drewN q) (.slice r0 x1.length c0) x1 := inS_below hi1 (below_drewN (Below.refl _ _) q)
          have e2 : InS (wr.drewN q) (.slice r1 y1.length c1) y1 := inS_below hi2 (below_drewN (Below.refl _ _) q)
          exact l_eqS _ _ _ _ _ e1 e2 hl1 hl2
        clear hi1 hi2
        by_cases heq : x1 = y1
        · have HALL2 := Lib.hid (HEQ.out heq)
          have hd : decide (x1 = y1) = true := by simp [heq]
          rw [hd] at HS
          clear heq hd
          go_wp2
          go_big_quiet ((go_at_call 133; exact Calls.quiet_of (HS.out _)))
          go_wp2
          go_roundw
          case rel => exact ⟨hq.drewN _, k + 1, by omega, by go_num, HALL2.out⟩
          case measure => first | (simp [intOf]; done) | (simp [intOf]; omega)
        · have HF := Lib.hid (HNE.out heq)
          have hd : decide (x1 = y1) = false := by simp [heq]
          rw [hd] at HS
          clear heq hd
          go_wp2
          go_big_quiet ((go_at_call 133; exact Calls.quiet_of (HS.out _)))
          go_wp2
          go_ret
          exact ⟨ret_bool HF.out.symm, hq.drewN _⟩
      · have ek : k = xs.length := by omega
        subst ek
        have HF : Hid (decide (xs = ys) = true) := by
          show _ = _
          rw [decide_eq_true_iff]
          apply List.ext_getElem HLEN.out
          intro j h1 h2
          have := HALL.out j h1
          rwa [uA, uA, List.getD, List.getD, List.getElem?_eq_getElem h1, List.getElem?_eq_getElem h2] at this
        have hk' : ¬ (xs.length : Int) < xs.length := by omega
        go_wp2
        go_ret
        exact ⟨ret_bool HF.out.symm, hq⟩
  · have hle : ((xs.length : Int) != ys.length) = true := by simp only [bne_iff_ne, ne_eq]; omega
    have HF : Hid (decide (xs = ys) = false) := by show _ = _; rw [decide_eq_false_iff_not]; rintro rfl; exact hlen rfl
    go_enter Try.func86, Try.ntmps86
    go_wp2
    go_ret
    exact ⟨ret_bool HF.out.symm, Qt.refl _⟩
theorem l_eqCoder (u1 u2 x1 x2 : Value) (a : Co) (w : World) (ha : coSm a) (h1 : InT w u1 a.nx) (h2 : InU w u2 a.ou) (h3 : InT w x1 a.nx) (h4 : InU w x2 a.ou) :
    Calls Try.prog 32 #[.agg #[.int .i64 a.st, .int .i64 a.sa, u1, u2], .agg #[.int .i64 a.st, .int .i64 a.sa, x1, x2]] w fun e w' => e = .returned (.bool true) ∧ Below w.heap.size w w' := by
  have hbx := ((Below.refl w.heap.size w).alloc (Nat.le_refl _) (.cells #[.int .i64 a.st, .int .i64 a.sa, u1, u2] 42)).alloc (by simp) (.cells #[.int .i64 a.st, .int .i64 a.sa, x1, x2] 42)
  have HI := Lib.hid (fun w h h' => l_eqT u1 x1 a.nx a.nx w h h' ha.1.1 ha.1.1 ha.1.2 ha.1.2)
  have HT := Lib.hid (fun w h h' => l_eqU u2 x2 a.ou a.ou w h h' ha.2.1 ha.2.1 ha.2.2.1 ha.2.2.1)
  have d1 : decide (a.nx = a.nx) = true := by simp
  have d2 : decide (a.ou = a.ou) = true := by simp
  rw [d1] at HI
  rw [d2] at HT
  have H1 := Lib.hid (inT_below h1 hbx)
  have H2 := Lib.hid (inU_below h2 hbx)
  have H3 := Lib.hid (inT_below h3 hbx)
  have H4 := Lib.hid (inU_below h4 hbx)
  have HBX := Lib.hid hbx
  clear ha h1 h2 h3 h4 hbx d1 d2
  have b1 : ∀ x : Int, (x != x) = false := fun x => by simp
  go_enter Try.func32, Try.ntmps32
  go_wp2_with fail
  refine (HI.out _ H1.out H3.out).mono ?_
  rintro e w2 ⟨rfl, q2, rfl⟩
  go_wp2_with fail
  refine (HT.out _ (inU_below H2.out (below_drewN (Below.refl _ _) q2)) (inU_below H4.out (below_drewN (Below.refl _ _) q2))).mono ?_
  rintro e w2 ⟨rfl, q3, rfl⟩
  go_wp2
  go_ret
  exact ⟨rfl, by first | exact below_drewN (below_drewN HBX.out _) _ | exact below_drewN HBX.out _⟩
end Go.Proofs.Ytefcdkgfabaffaa

/- ValidCoder, of the program and of the reference, and its law. -/
namespace Go.Proofs.Ytefcdkgfabaffaa
open Go.ChangeShapes Go.WideShapes Go.RowKit
set_option linter.unusedVariables false
set_option linter.unusedSimpArgs false
set_option maxHeartbeats 2000000
set_option maxRecDepth 100000
def okS (x : ByteArray) : Bool := decide (x.size ≤ 6) && validB x
def ouP (r : List ByteArray) : Prop := r.length = 4 ∧ ∀ l, l < 4 → okS (r.getD l ⟨#[]⟩) = true
instance (r : List ByteArray) : Decidable (ouP r) := by unfold ouP; infer_instance
def ouOk (t : Ts) : Bool := decide (∀ s, s < t.length → ouP (uA t s))
theorem ouOk_t {t : Ts} (h : ∀ s, s < t.length → ouP (uA t s)) : ouOk t = true := by unfold ouOk; exact decide_eq_true h
theorem ouOk_f {t : Ts} {k : Nat} (hk : k < t.length) (h : ¬ ouP (uA t k)) : ouOk t = false := by unfold ouOk; exact decide_eq_false (fun g => h (g k hk))
def coOk (a : Co) : Bool := maOk a.st a.sa a.nx && decide ((a.ou.length : Int) = a.st) && ouOk a.ou
def alS (xs : List ByteArray) : Bool := decide (∀ l, l < xs.length → okS (xs.getD l ⟨#[]⟩) = true)
theorem alS_t {xs : List ByteArray} (h : ∀ l, l < xs.length → okS (xs.getD l ⟨#[]⟩) = true) : alS xs = true := decide_eq_true h
theorem alS_f {xs : List ByteArray} {k : Nat} (hk : k < xs.length) (h : ¬ okS (xs.getD k ⟨#[]⟩) = true) : alS xs = false := decide_eq_false (fun g => h (g k hk))
theorem i_vc2 (x : ByteArray) (w : World) (hx : x.size ≤ 1048576) :
    Calls Try.prog 85 #[.string x] w fun e w' => e = .returned (.bool (!(okS x))) ∧ w = w' := by
  have HV := Lib.hid (fun w => i_ValidWord x w (by unfold maxLen; omega))
  cases hv : validB x
  · have hr : okS x = false := by simp [okS, hv]
    rw [hv] at HV
    rw [hr]
    clear hr hv
    go_enter Try.func85, Try.ntmps85
    go_wp2_with fail
    refine (HV.out _).mono ?_
    rintro e w3 ⟨rfl, rfl⟩
    go_wp2
    go_ret
    exact ⟨rfl, rfl⟩
  · rw [hv] at HV
    by_cases h6 : x.size ≤ 6
    · have hr : okS x = true := by simp [okS, hv, h6]
      have h6b : ¬ (6 : Int) < x.size := by omega
      rw [hr]
      clear hr hv h6
      go_enter Try.func85, Try.ntmps85
      go_wp2_with fail
      refine (HV.out _).mono ?_
      rintro e w3 ⟨rfl, rfl⟩
      go_wp2
      go_ret
      exact ⟨by simp [h6b], rfl⟩
    · have hr : okS x = false := by simp [okS, h6]
      have h6b : (6 : Int) < x.size := by omega
      rw [hr]
      clear hr hv h6
      go_enter Try.func85, Try.ntmps85
      go_wp2_with fail
      refine (HV.out _).mono ?_
      rintro e w3 ⟨rfl, rfl⟩
      go_wp2
      go_ret
      exact ⟨by simp [h6b], rfl⟩
theorem sl_indexS (v : Value) (xs : List ByteArray) (w : World) (hx : xs.length ≤ 1048576) (hr : ∀ x ∈ xs, x.size ≤ 1048576) (hin : InS w v xs) :
    Calls Try.prog 132 #[v, .func (.func 85) #[] #[]] w fun e w' => (∃ r : Int, e = .returned (.int .i64 r) ∧ decide (0 ≤ r) = !(alS xs)) ∧ w = w' := by
  obtain ⟨a, cap, rfl⟩ := inS_sl hin
  have HIN := Lib.hid hin
  have HR := Lib.hid hr
  have eF : ∀ args w, (callFunc 85 args).run Try.prog w = .ok (.enter 85 args) w := enters_of Try.func85 (by kernel_rfl) rfl
  clear hin hr
  go_enter Try.func132, Try.ntmps132
  go_wp2
  go_loop [5, 8] (fun _ i => ∃ k : Nat, k ≤ xs.length ∧ i = .int .i64 k ∧ ∀ t, t < k → okS (xs.getD t ⟨#[]⟩) = true) (fun _ i => xs.length - (intOf i).toNat)
  case atStart => exact ⟨0, by omega, rfl, fun t ht => by omega⟩
  case round =>
    obtain ⟨k, hk, rfl, hall⟩ := hrel
    have HALL := Lib.hid hall
    clear hall
    by_cases hlt : k < xs.length
    · obtain ⟨g, off, rfl, hg, hx1⟩ := inS_at HIN.out hlt
      have hin : ((k : Nat) : Int) < xs.length := by omega
      have HC := Lib.hid (fun w => i_vc2 (xs.getD k ⟨#[]⟩) w (HR.out _ (get_mem hlt)))
      cases hrr : okS (xs.getD k ⟨#[]⟩)
      · have H2 := Lib.hid (alS_f hlt (by rw [hrr]; decide))
        rw [hrr] at HC
        clear hrr
        generalize xs.getD k ⟨#[]⟩ = x at *
        go_wp2_with fail
        refine (HC.out _).mono ?_
        rintro e w3 ⟨rfl, rfl⟩
        go_wp2
        go_ret
        exact ⟨⟨_, rfl, by rw [H2.out]; simp⟩, rfl⟩
      · have H2 : Hid (∀ t, t < k + 1 → okS (xs.getD t ⟨#[]⟩) = true) := by
          intro q hq
          by_cases he : q = k
          · subst he; exact hrr
          · exact HALL.out q (by omega)
        rw [hrr] at HC
        clear hrr
        generalize xs.getD k ⟨#[]⟩ = x at *
        go_wp2_with fail
        refine (HC.out _).mono ?_
        rintro e w3 ⟨rfl, rfl⟩
        go_wp2
        go_round
        case rel => exact ⟨k + 1, by omega, by go_num, H2.out⟩
        case measure => first | (simp [intOf]; done) | (simp [intOf]; omega)
    · have ek : k = xs.length := by omega
      subst ek
      have HF := Lib.hid (alS_t HALL.out)
      have hk' : ¬ (xs.length : Int) < xs.length := by omega
      go_wp2
      go_ret
      exact ⟨⟨_, rfl, by rw [HF.out]; simp⟩, rfl⟩
theorem sl_containsS (v : Value) (xs : List ByteArray) (w : World) (hx : xs.length ≤ 1048576) (hr : ∀ x ∈ xs, x.size ≤ 1048576) (hin : InS w v xs) :
    Calls Try.prog 84 #[v, .func (.func 85) #[] #[]] w fun e w' => e = .returned (.bool (!(alS xs))) ∧ w = w' := by
  have H := Lib.hid (sl_indexS v xs w hx hr hin)
  clear hin hr
  generalize alS xs = al at *
  go_enter Try.func84, Try.ntmps84
  go_wp2_with fail
  refine H.out.mono ?_
  rintro e w3 ⟨⟨r, rfl, hr⟩, rfl⟩
  have HRR := Lib.hid hr
  clear hr
  go_wp2
  go_ret
  exact ⟨ret_bool HRR.out, rfl⟩
def ouB (r : List ByteArray) : Bool := decide (r.length = 4) && alS r
theorem ouB_iff (r : List ByteArray) : ouB r = true ↔ ouP r := by
  unfold ouB ouP alS
  rw [Bool.and_eq_true, decide_eq_true_iff, decide_eq_true_iff]
  constructor
  · rintro ⟨h1, h2⟩; exact ⟨h1, fun l hl => h2 l (by omega)⟩
  · rintro ⟨h1, h2⟩; exact ⟨h1, fun l hl => h2 l (by omega)⟩
theorem i_vc1 (v : Value) (xs : List ByteArray) (w : World) (hx : xs.length ≤ 1048576) (hr : ∀ x ∈ xs, x.size ≤ 1048576) (hin : InS w v xs) :
    Calls Try.prog 83 #[v] w fun e w' => e = .returned (.bool (!(ouB xs))) ∧ w = w' := by
  obtain ⟨a, cap, rfl⟩ := inS_sl hin
  have H := Lib.hid (sl_containsS _ xs w hx hr hin)
  clear hin hr
  by_cases h4 : xs.length = 4
  · have hr : ouB xs = alS xs := by simp [ouB, h4]
    have h4b : ((xs.length : Int) != 4) = false := by simp [h4]
    rw [hr]
    clear hr h4
    generalize alS xs = al at *
    go_enter Try.func83, Try.ntmps83
    go_wp2_with fail
    refine H.out.mono ?_
    rintro e w3 ⟨rfl, rfl⟩
    go_wp2
    go_ret
    exact ⟨rfl, rfl⟩
  · have hr : ouB xs = false := by simp [ouB, h4]
    have h4b : ((xs.length : Int) != 4) = true := by simp only [bne_iff_ne, ne_eq]; omega
    rw [hr]
    clear hr h4
    go_enter Try.func83, Try.ntmps83
    go_wp2
    go_ret
    exact ⟨rfl, rfl⟩
theorem sl_indexU (v : Value) (t : Ts) (w : World) (hx : t.length ≤ 1048576) (hr : ∀ r ∈ t, r.length ≤ 1048576) (hs : ∀ r ∈ t, ∀ x ∈ r, x.size ≤ 1048576) (hin : InU w v t) :
    Calls Try.prog 131 #[v, .func (.func 83) #[] #[]] w fun e w' => (∃ r : Int, e = .returned (.int .i64 r) ∧ decide (0 ≤ r) = !(ouOk t)) ∧ w = w' := by
  obtain ⟨a, cap, rfl⟩ := inU_sl hin
  have HIN := Lib.hid hin
  have HR := Lib.hid hr
  have HS := Lib.hid hs
  have eF : ∀ args w, (callFunc 83 args).run Try.prog w = .ok (.enter 83 args) w := enters_of Try.func83 (by kernel_rfl) rfl
  clear hin hr hs
  go_enter Try.func131, Try.ntmps131
  go_wp2
  go_loop [5, 8] (fun _ i => ∃ k : Nat, k ≤ t.length ∧ i = .int .i64 k ∧ ∀ s, s < k → ouP (uA t s)) (fun _ i => t.length - (intOf i).toNat)
  case atStart => exact ⟨0, by omega, rfl, fun t ht => by omega⟩
  case round =>
    obtain ⟨k, hk, rfl, hall⟩ := hrel
    have HALL := Lib.hid hall
    clear hall
    by_cases hlt : k < t.length
    · obtain ⟨b, off, r, c, rfl, hbl, hc0, hri⟩ := inU_at HIN.out hlt
      have hin : ((k : Nat) : Int) < t.length := by omega
      have HC := Lib.hid (i_vc1 _ _ w (HR.out _ (uA_mem hlt)) (HS.out _ (uA_mem hlt)) hri)
      clear hri
      by_cases hrr : ouP (uA t k)
      · have e1 := (ouB_iff (uA t k)).2 hrr
        rw [e1] at HC
        have H2 : Hid (∀ s, s < k + 1 → ouP (uA t s)) := by
          intro q hq
          by_cases he : q = k
          · subst he; exact hrr
          · exact HALL.out q (by omega)
        clear hrr e1
        generalize (uA t k).length = m at *
        go_wp2_with fail
        refine HC.out.mono ?_
        rintro e w3 ⟨rfl, rfl⟩
        go_wp2
        go_round
        case rel => exact ⟨k + 1, by omega, by go_num, H2.out⟩
        case measure => first | (simp [intOf]; done) | (simp [intOf]; omega)
      · have e1 : ouB (uA t k) = false := by
          cases h : ouB (uA t k)
          · rfl
          · exact absurd ((ouB_iff _).1 h) hrr
        rw [e1] at HC
        have H2 := Lib.hid (ouOk_f hlt hrr)
        clear hrr e1
        generalize (uA t k).length = m at *
        go_wp2_with fail
        refine HC.out.mono ?_
        rintro e w3 ⟨rfl, rfl⟩
        go_wp2
        go_ret
        exact ⟨⟨_, rfl, by rw [H2.out]; simp⟩, rfl⟩
    · have ek : k = t.length := by omega
      subst ek
      have HF := Lib.hid (ouOk_t HALL.out)
      have hk' : ¬ (t.length : Int) < t.length := by omega
      go_wp2
      go_ret
      exact ⟨⟨_, rfl, by rw [HF.out]; simp⟩, rfl⟩
theorem sl_containsU (v : Value) (t : Ts) (w : World) (hx : t.length ≤ 1048576) (hr : ∀ r ∈ t, r.length ≤ 1048576) (hs : ∀ r ∈ t, ∀ x ∈ r, x.size ≤ 1048576) (hin : InU w v t) :
    Calls Try.prog 82 #[v, .func (.func 83) #[] #[]] w fun e w' => e = .returned (.bool (!(ouOk t))) ∧ w = w' := by
  have H := Lib.hid (sl_indexU v t w hx hr hs hin)
  clear hin hr hs
  generalize ouOk t = al at *
  go_enter Try.func82, Try.ntmps82
  go_wp2_with fail
  refine H.out.mono ?_
  rintro e w3 ⟨⟨r, rfl, hr⟩, rfl⟩
  have HRR := Lib.hid hr
  clear hr
  go_wp2
  go_ret
  exact ⟨ret_bool HRR.out, rfl⟩
theorem i_ValidCoder (uF uT : Value) (a : Co) (w : World) (hs : coSm a) (h1 : InT w uF a.nx) (h2 : InU w uT a.ou) :
    Calls Try.prog 31 #[.agg #[.int .i64 a.st, .int .i64 a.sa, uF, uT]] w fun e w' => e = .returned (.bool (coOk a)) ∧ Below w.heap.size w w' := by
  obtain ⟨a2, c2, rfl⟩ := inU_sl h2
  have hbx := (Below.refl w.heap.size w).alloc (Nat.le_refl _) (.cells #[.int .i64 a.st, .int .i64 a.sa, uF, .slice a2 a.ou.length c2] 42)
  have HM := Lib.hid (i_isMachine a.st a.sa uF a.nx _ hs.1.1 hs.1.2 (inT_below h1 hbx))
  have HC := Lib.hid (fun w h => sl_containsU (.slice a2 a.ou.length c2) a.ou w hs.2.1 hs.2.2.1 hs.2.2.2 h)
  have HU := Lib.hid (inU_below h2 hbx)
  have HBX := Lib.hid hbx
  have e0 : (w.alloc (.cells #[.int .i64 a.st, .int .i64 a.sa, uF, .slice a2 a.ou.length c2] 42)).cell? ⟨w.heap.size, 0, none⟩ = some (.int .i64 a.st) := by simp [go_sem]
  have e3 : (w.alloc (.cells #[.int .i64 a.st, .int .i64 a.sa, uF, .slice a2 a.ou.length c2] 42)).cell? ⟨w.heap.size, 3, none⟩ = some (.slice a2 a.ou.length c2) := by simp [go_sem]
  have HE : Hid (coOk a = (maOk a.st a.sa a.nx && decide ((a.ou.length : Int) = a.st) && ouOk a.ou)) := rfl
  have hlen := hs.2.1
  clear h1 h2 hs hbx
  generalize coOk a = r at *
  generalize ouOk a.ou = oo at *
  cases hmo : maOk a.st a.sa a.nx
  · have HF : Hid (r = false) := by show _ = _; rw [HE.out, hmo]; rfl
    rw [hmo] at HM
    clear hmo HE
    generalize a.st = st at *
    generalize a.sa = sa at *
    generalize a.ou.length = n at *
    go_enter Try.func31, Try.ntmps31
    go_wp2_with fail
    refine HM.out.mono ?_
    rintro e w3 ⟨rfl, hb3⟩
    have hB := HBX.out.trans (hb3.mono HBX.out.size)
    clear hb3 e0 e3
    go_wp2
    go_ret
    exact ⟨ret_bool HF.out.symm, hB⟩
  · rw [hmo] at HM
    by_cases hl : (a.ou.length : Int) = a.st
    · have hlb : ((a.ou.length : Int) == a.st) = true := by simpa using hl
      have HF : Hid (r = oo) := by show _ = _; rw [HE.out, hmo]; simp [hl]
      clear hmo HE hl
      generalize a.st = st at *
      generalize a.sa = sa at *
      go_enter Try.func31, Try.ntmps31
      go_wp2_with fail
      refine HM.out.mono ?_
      rintro e w3 ⟨rfl, hb3⟩
      have hB := HBX.out.trans (hb3.mono HBX.out.size)
      have f0 := cell_later hb3 e0
      have f3 := cell_later hb3 e3
      have HC3 := Lib.hid (HC.out w3 (inU_below HU.out hb3))
      clear hb3 e0 e3
      go_wp2_with fail
      refine HC3.out.mono ?_
      rintro e w4 ⟨rfl, rfl⟩
      go_wp2
      go_ret
      exact ⟨by rw [HF.out]; simp, hB⟩
    · have hlb : ((a.ou.length : Int) == a.st) = false := by simpa using hl
      have HF : Hid (r = false) := by show _ = _; rw [HE.out]; simp [hl]
      clear hmo HE hl
      generalize a.st = st at *
      generalize a.sa = sa at *
      generalize a.ou.length = n at *
      go_enter Try.func31, Try.ntmps31
      go_wp2_with fail
      refine HM.out.mono ?_
      rintro e w3 ⟨rfl, hb3⟩
      have hB := HBX.out.trans (hb3.mono HBX.out.size)
      have f0 := cell_later hb3 e0
      have f3 := cell_later hb3 e3
      clear hb3 e0 e3
      go_wp2
      go_ret
      exact ⟨ret_bool HF.out.symm, hB⟩
theorem coOk_ma {a : Co} (h : maOk a.st a.sa a.nx = false) : coOk a = false := by simp only [coOk, h, Bool.false_and]
theorem maOk_st {st sa : Int} {t : Tb} (h : ¬ (1 ≤ st ∧ st ≤ 24)) : maOk st sa t = false := by simp only [maOk, h, decide_false, Bool.false_and]
theorem maOk_sa {st sa : Int} {t : Tb} (h : ¬ (0 ≤ sa ∧ sa ≤ st - 1)) : maOk st sa t = false := by simp only [maOk, h, decide_false, Bool.and_false, Bool.false_and]
theorem maOk_nx {st sa : Int} {t : Tb} (h1 : 1 ≤ st ∧ st ≤ 24) (h2 : 0 ≤ sa ∧ sa ≤ st - 1) : maOk st sa t = (nxOk (st - 1) t && decide ((t.length : Int) = st)) := by simp only [maOk, h1, h2, and_self, decide_true, Bool.true_and]
theorem s_l04Coder (bq oq : Nat) (uF uT : Value) (a : Co) (w : World) (hs : coSm a) (c0 : w.cell? ⟨bq, oq, none⟩ = some (.int .i64 a.st)) (c1 : w.cell? ⟨bq, oq + 1, none⟩ = some (.int .i64 a.sa)) (c2 : w.cell? ⟨bq, oq + 2, none⟩ = some uF) (c3 : w.cell? ⟨bq, oq + 3, none⟩ = some uT) (h1 : InT w uF a.nx) (h2 : InU w uT a.ou) :
    Calls Try.prog 80 #[.pointer (some ⟨bq, oq, none⟩)] w fun e w' => e = .returned (.bool (coOk a)) ∧ Qt w w' := by
  obtain ⟨a2, cap2, rfl⟩ := inU_sl h2
  by_cases hst : 1 ≤ a.st ∧ a.st ≤ 24
  · have HW1 := Lib.hid (fun w => s_l00In_r a.st 1 24 true (in_t hst) w)
    by_cases hsa : 0 ≤ a.sa ∧ a.sa ≤ a.st - 1
    · have HW2 := Lib.hid (fun w => s_l00In_r a.sa 0 (a.st - 1) true (in_t hsa) w)
      have HN := Lib.hid (fun w h => s_l04Next uF a.nx a.st w hst.1 hst.2 hs.1.1 hs.1.2 h)
      have HI1 := Lib.hid h1
      have hma := maOk_nx (t := a.nx) hst hsa
      cases hnx : (nxOk (a.st - 1) a.nx && decide ((a.nx.length : Int) = a.st))
      · have HF := Lib.hid (coOk_ma (a := a) (by rw [hma]; exact hnx))
        rw [hnx] at HN
        clear h1 h2 hs hsa hma hnx
        generalize a.ou.length = n at *
        generalize a.st = st at *
        generalize a.sa = sa at *
        obtain ⟨hst1, hst2⟩ := hst
        go_enter Try.func80, Try.ntmps80
        go_wp2
        go_big_quiet (first | (go_at_call 112; first | with_reducible exact (HW1.out _).mono (fun e w'' h => ⟨h.1, _, h.2.symm⟩) | with_reducible exact (HW2.out _).mono (fun e w'' h => ⟨h.1, _, h.2.symm⟩)) | (go_at_call 121; exact (HN.out _ (inT_below HI1.out (below_drewN (Below.refl _ _) _))).mono (fun e w'' h => ⟨h.1, _, h.2.symm⟩)))
        go_wp2
        go_ret
        exact ⟨ret_bool HF.out.symm, ⟨_, rfl⟩⟩
      · rw [hnx] at HN hma
        have HE : Hid (coOk a = (decide ((a.ou.length : Int) = a.st) && ouOk a.ou)) := by show _ = _; simp only [coOk, hma, Bool.true_and]
        have HIU := Lib.hid h2
        have HL := Lib.hid (fun (x : ByteArray) (hx : x.size ≤ 1048576) (w : World) => s_l01Ok x w (by unfold maxLen; omega))
        have HOS := Lib.hid hs.2.2.2
        have hol := hs.2.1
        clear h1 h2 hs hsa hma hnx
        generalize a.nx = nx at *
        generalize a.st = st at *
        generalize a.sa = sa at *
        obtain ⟨hst1, hst2⟩ := hst
        by_cases hl : (a.ou.length : Int) = st
        · have hlb : ((a.ou.length : Int) != st) = false := by simpa using hl
          have HE2 : Hid (coOk a = ouOk a.ou) := by show _ = _; rw [HE.out]; simp [hl]
          clear hl HE
          generalize coOk a = r at *
          generalize a.ou = t at *
          go_enter Try.func80, Try.ntmps80
          go_wp2
          go_big_quiet (first | (go_at_call 112; first | with_reducible exact (HW1.out _).mono (fun e w'' h => ⟨h.1, _, h.2.symm⟩) | with_reducible exact (HW2.out _).mono (fun e w'' h => ⟨h.1, _, h.2.symm⟩)) | (go_at_call 121; exact (HN.out _ (inT_below HI1.out (below_drewN (Below.refl _ _) _))).mono (fun e w'' h => ⟨h.1, _, h.2.symm⟩)))
          have d3 : (w.drewN nq).cell? ⟨bq, oq + 3, none⟩ = some (.slice a2 t.length cap2) := by simpa using c3
          have HIU2 := Lib.hid (inU_below HIU.out (below_drewN (Below.refl _ _) nq))
          have HQ : Hid (Qt w (w.drewN nq)) := ⟨_, rfl⟩
          generalize w.drewN nq = w9 at *
          go_wp2
          go_loop [3, 4] (fun i _ => ∃ k : Nat, k ≤ t.length ∧ i = .int .i64 k ∧ ∀ s, s < k → ouP (uA t s)) (fun i _ => t.length - (intOf i).toNat)
          case atStart => exact ⟨0, by omega, rfl, fun t ht => by omega⟩
          case round =>
            obtain ⟨k, hk, rfl, hall⟩ := hrel
            have HALL := Lib.hid hall
            clear hall
            by_cases hlt : k < t.length
            · obtain ⟨b, off, r9, c9, rfl, hbl, hc0, hri⟩ := inU_at HIU2.out hlt
              have hin : ((k : Nat) : Int) < t.length := by omega
              have HF := Lib.hid (fun h => ouOk_f hlt h)
              have HT : Hid (ouP (uA t k) → ∀ s, s < k + 1 → ouP (uA t s)) := by
                intro h s hs
                by_cases he : s = k
                · subst he; exact h
                · exact HALL.out s (by omega)
              have HRI := Lib.hid hri
              have HSZ := Lib.hid (HOS.out _ (uA_mem hlt))
              clear hri
              generalize uA t k = rw' at *
              by_cases h4 : rw'.length = 4
              · have h4b : ((rw'.length : Int) != 4) = false := by simp [h4]
                have H4 := Lib.hid h4
                clear h4
                go_wp2
                go_loop [4] (fun i => ∃ l : Nat, l ≤ 4 ∧ i = .int .i64 l ∧ ∀ q, q < l → okS (rw'.getD q ⟨#[]⟩) = true) (fun i => 4 - (intOf i).toNat)
                case atStart => exact ⟨0, by omega, rfl, fun q hq => by omega⟩
                case round =>
                  obtain ⟨l, hl, rfl, hin4⟩ := hrel
                  have HIN4 := Lib.hid hin4
                  clear hin4
                  by_cases hl4 : l < 4
                  · obtain ⟨b2, off2, rfl, hb2, hcx⟩ := inS_at HRI.out (show l < rw'.length by have := H4.out; omega)
                    have hlI : (l : Int) < rw'.length := by have := H4.out; omega
                    have hxs := HSZ.out _ (get_mem (show l < rw'.length by have := H4.out; omega))
                    have HLX := Lib.hid (HL.out (rw'.getD l ⟨#[]⟩) hxs)
                    have HOK : Hid (okS (rw'.getD l ⟨#[]⟩) = (decide ((rw'.getD l ⟨#[]⟩).size ≤ 6) && validB (rw'.getD l ⟨#[]⟩))) := rfl
                    have H2 : Hid (okS (rw'.getD l ⟨#[]⟩) = true → ∀ q, q < l + 1 → okS (rw'.getD q ⟨#[]⟩) = true) := by
                      intro h q hq
                      by_cases he : q = l
                      · subst he; exact h
                      · exact HIN4.out q (by omega)
                    have H3 : Hid (okS (rw'.getD l ⟨#[]⟩) = false → ouOk t = false) := fun h => HF.out (fun g => by have := g.2 l hl4; rw [h] at this; cases this)
                    generalize rw'.getD l ⟨#[]⟩ = x at *
                    by_cases h6 : x.size ≤ 6
                    · have h6b : ¬ (6 : Int) < x.size := by omega
                      cases hv : validB x
                      · have H5 := Lib.hid (H3.out (by rw [HOK.out, hv]; simp))
                        rw [hv] at HLX
                        clear hv h6
                        go_wp2_with fail
                        refine (HLX.out _).mono ?_
                        rintro e w3 ⟨rfl, rfl⟩
                        go_wp2
                        go_ret
                        exact ⟨ret_bool (by rw [HE2.out, H5.out]), HQ.out⟩
                      · have H5 := Lib.hid (H2.out (by rw [HOK.out, hv]; simp [h6]))
                        rw [hv] at HLX
                        clear hv h6
                        go_wp2_with fail
                        refine (HLX.out _).mono ?_
                        rintro e w3 ⟨rfl, rfl⟩
                        go_wp2
                        go_round
                        case rel => exact ⟨l + 1, by omega, by go_num, H5.out⟩
                        case measure => first | (simp [intOf]; done) | (simp [intOf]; omega)
                    · have h6b : (6 : Int) < x.size := by omega
                      have H5 := Lib.hid (H3.out (by rw [HOK.out]; simp [h6]))
                      clear h6
                      go_wp2
                      go_ret
                      exact ⟨ret_bool (by rw [HE2.out, H5.out]), HQ.out⟩
                  · have el : l = 4 := by omega
                    subst el
                    have H2 := Lib.hid (HT.out ⟨H4.out, HIN4.out⟩)
                    go_wp2
                    go_round
                    case rel => exact ⟨k + 1, by omega, by go_num, H2.out⟩
                    case measure => first | (simp [intOf]; done) | (simp [intOf]; omega)
              · have h4b : ((rw'.length : Int) != 4) = true := by simp only [bne_iff_ne, ne_eq]; omega
                have H2 := Lib.hid (HF.out (fun h => h4 h.1))
                clear h4
                go_wp2
                go_ret
                exact ⟨ret_bool (by rw [HE2.out, H2.out]), HQ.out⟩
            · have ek : k = t.length := by omega
              subst ek
              have HF := Lib.hid (ouOk_t HALL.out)
              have hk' : ¬ (t.length : Int) < t.length := by omega
              go_wp2
              go_ret
              exact ⟨ret_bool (by rw [HE2.out, HF.out]), HQ.out⟩
        · have hlb : ((a.ou.length : Int) != st) = true := by simpa using hl
          have HF : Hid (coOk a = false) := by show _ = _; rw [HE.out]; simp [hl]
          clear hl HE
          generalize a.ou.length = n at *
          go_enter Try.func80, Try.ntmps80
          go_wp2
          go_big_quiet (first | (go_at_call 112; first | with_reducible exact (HW1.out _).mono (fun e w'' h => ⟨h.1, _, h.2.symm⟩) | with_reducible exact (HW2.out _).mono (fun e w'' h => ⟨h.1, _, h.2.symm⟩)) | (go_at_call 121; exact (HN.out _ (inT_below HI1.out (below_drewN (Below.refl _ _) _))).mono (fun e w'' h => ⟨h.1, _, h.2.symm⟩)))
          go_wp2
          go_ret
          exact ⟨ret_bool HF.out.symm, ⟨_, rfl⟩⟩
    · have HW2 := Lib.hid (fun w => s_l00In_r a.sa 0 (a.st - 1) false (in_f hsa) w)
      have HF := Lib.hid (coOk_ma (a := a) (maOk_sa hsa))
      clear h1 h2 hs hsa
      generalize a.ou.length = n at *
      generalize a.st = st at *
      generalize a.sa = sa at *
      obtain ⟨hst1, hst2⟩ := hst
      go_enter Try.func80, Try.ntmps80
      go_wp2
      go_big_quiet ((go_at_call 112; first | with_reducible exact (HW1.out _).mono (fun e w'' h => ⟨h.1, _, h.2.symm⟩) | with_reducible exact (HW2.out _).mono (fun e w'' h => ⟨h.1, _, h.2.symm⟩)))
      go_wp2
      go_ret
      exact ⟨ret_bool HF.out.symm, ⟨_, rfl⟩⟩
  · have HW1 := Lib.hid (fun w => s_l00In_r a.st 1 24 false (in_f hst) w)
    have HF := Lib.hid (coOk_ma (a := a) (maOk_st hst))
    clear h1 h2 hs hst
    generalize a.ou.length = n at *
    generalize a.st = st at *
    generalize a.sa = sa at *
    go_enter Try.func80, Try.ntmps80
    go_wp2
    go_big_quiet ((go_at_call 112; exact (HW1.out _).mono (fun e w'' h => ⟨h.1, _, h.2.symm⟩)))
    go_wp2
    go_ret
    exact ⟨ret_bool HF.out.symm, ⟨_, rfl⟩⟩
theorem s_ValidCoder (uF uT : Value) (a : Co) (w : World) (hs : coSm a) (h1 : InT w uF a.nx) (h2 : InU w uT a.ou) :
    Calls Try.prog 29 #[.agg #[.int .i64 a.st, .int .i64 a.sa, uF, uT]] w fun e w' => e = .returned (.bool (coOk a)) ∧ Below w.heap.size w w' := by
  have hbx := (Below.refl w.heap.size w).alloc (Nat.le_refl _) (.cells #[.int .i64 a.st, .int .i64 a.sa, uF, uT] 42)
  have H := Lib.hid (s_l04Coder w.heap.size 0 uF uT a _ hs (by simp [go_sem]) (by simp [go_sem]) (by simp [go_sem]) (by simp [go_sem]) (inT_below h1 hbx) (inU_below h2 hbx))
  have HBX := Lib.hid hbx
  clear h1 h2 hs hbx
  generalize coOk a = r at *
  go_enter Try.func29, Try.ntmps29
  go_wp2_with fail
  refine H.out.mono ?_
  rintro e w2 ⟨rfl, q, rfl⟩
  go_wp2
  go_ret
  exact ⟨rfl, below_drewN HBX.out _⟩
end Go.Proofs.Ytefcdkgfabaffaa

/- The law of ValidCoder. -/
namespace Go.Proofs.Ytefcdkgfabaffaa
open Go.ChangeShapes Go.WideShapes Go.RowKit
set_option linter.unusedVariables false
set_option linter.unusedSimpArgs false
set_option maxHeartbeats 4000000
set_option maxRecDepth 100000
theorem l_toCoder2 (u1 u2 : Value) (a : Co) (w : World) (hs : coSm a) (h1 : InT w u1 a.nx) (h2 : InU w u2 a.ou) :
    Calls Try.prog 30 #[.agg #[.int .i64 a.st, .int .i64 a.sa, u1, u2]] w fun e w' => ∃ g1 g2, e = .returned (.agg #[.int .i64 a.st, .int .i64 a.sa, .slice (some ⟨g1, 0, none⟩) a.nx.length a.nx.length, .slice (some ⟨g2, 0, none⟩) a.ou.length a.ou.length]) ∧ InT w' (.slice (some ⟨g1, 0, none⟩) a.nx.length a.nx.length) a.nx ∧ InU w' (.slice (some ⟨g2, 0, none⟩) a.ou.length a.ou.length) a.ou ∧ Below w.heap.size w w' := by
  refine (l_toCoder u1 u2 a w hs h1 h2).mono ?_
  rintro e w' ⟨g1, g2, rfl, h3, h4, _, hb⟩
  exact ⟨_, _, rfl, ownT_in h3, ownU_in h4, hb⟩
theorem walk_FnExactValidCoder (v : Value) (a : Co) (w : World) (h0 : InCo w v a) (h0b : a.nx.length ≤ 9223372036854775807 ∧ ∀ r ∈ a.nx, r.length ≤ 9223372036854775807) (h0c : a.ou.length ≤ 9223372036854775807 ∧ (∀ r ∈ a.ou, r.length ≤ 9223372036854775807) ∧ ∀ r ∈ a.ou, ∀ x ∈ r, x.size ≤ 9223372036854775807) :
    Calls Try.prog 6 #[v] w fun e w' => e = .returned (.bool true) ∧ Below w.heap.size w w' := by
  obtain ⟨u1, u2, rfl, hi1, hi2⟩ := h0
  have HS := Lib.hid (fun (u1 u2 : Value) w hs h1 h2 => s_ValidCoder u1 u2 a w hs h1 h2)
  have HI := Lib.hid (fun (u1 u2 : Value) w hs h1 h2 => i_ValidCoder u1 u2 a w hs h1 h2)
  have hbx := (Below.refl w.heap.size w).alloc (Nat.le_refl _) (.cells #[.int .i64 a.st, .int .i64 a.sa, u1, u2] 39)
  have b0 : (w.alloc (.cells #[.int .i64 a.st, .int .i64 a.sa, u1, u2] 39)).cell? ⟨w.heap.size, 0, none⟩ = some (.int .i64 a.st) := by simp [go_sem]
  have b1 : (w.alloc (.cells #[.int .i64 a.st, .int .i64 a.sa, u1, u2] 39)).cell? ⟨w.heap.size, 1, none⟩ = some (.int .i64 a.sa) := by simp [go_sem]
  have b2 : (w.alloc (.cells #[.int .i64 a.st, .int .i64 a.sa, u1, u2] 39)).cell? ⟨w.heap.size, 2, none⟩ = some (u1) := by simp [go_sem]
  have b3 : (w.alloc (.cells #[.int .i64 a.st, .int .i64 a.sa, u1, u2] 39)).cell? ⟨w.heap.size, 3, none⟩ = some (u2) := by simp [go_sem]
  have i1 := inT_below hi1 hbx
  have i2 := inU_below hi2 hbx
  have HBX : Hid (∀ w', Below (w.alloc (.cells #[.int .i64 a.st, .int .i64 a.sa, u1, u2] 39)).heap.size (w.alloc (.cells #[.int .i64 a.st, .int .i64 a.sa, u1, u2] 39)) w' → Below w.heap.size w w') := fun w' h => below_box h
  clear hi1 hi2 hbx
  go_enter Try.func6, Try.ntmps6
  go_wp2_with fail
  refine (l_szCoder u1 u2 a 1048576 _ (by omega) i1 i2 h0b.1 h0b.2 h0c.1 h0c.2.1 h0c.2.2).mono ?_
  rintro e w1 ⟨hb1, rfl | ⟨m1, rfl, hm1, hsa⟩⟩
  · clear h0b h0c b0 b1 b2 b3 i1 i2 HS HI
    have hbb := HBX.out _ hb1
    clear hb1
    go_wp2
    go_ret
    exact ⟨rfl, hbb⟩
  · have HSA := Lib.hid hsa
    have e0 := cell_later hb1 b0
    have e1 := cell_later hb1 b1
    have e2 := cell_later hb1 b2
    have e3 := cell_later hb1 b3
    have j1 := inT_below i1 hb1
    have j2 := inU_below i2 hb1
    clear h0b h0c hsa
    go_wp2_with fail
    refine (l_toCoder2 u1 u2 a w1 HSA.out j1 j2).mono ?_
    rintro e w2 ⟨p2, q2, rfl, p2i, q2t, hb2⟩
    have B2 := hb1.trans (hb2.mono hb1.size)
    have f0 := cell_later B2 b0
    have f1 := cell_later B2 b1
    have f2 := cell_later B2 b2
    have f3 := cell_later B2 b3
    clear e0 e1 e2 e3 j1 j2 hb1 hb2
    go_wp2_with fail
    refine (HS.out _ _ w2 HSA.out p2i q2t).mono ?_
    rintro e w3 ⟨rfl, hb3⟩
    have B3 := B2.trans (hb3.mono B2.size)
    have g0 := cell_later B3 b0
    have g1 := cell_later B3 b1
    have g2 := cell_later B3 b2
    have g3 := cell_later B3 b3
    have k1 := inT_below i1 B3
    have k2 := inU_below i2 B3
    clear f0 f1 f2 f3 p2i q2t hb3 B2
    go_wp2_with fail
    refine (l_toCoder2 u1 u2 a w3 HSA.out k1 k2).mono ?_
    rintro e w4 ⟨p3, q3, rfl, p3i, q3t, hb4⟩
    have B4 := B3.trans (hb4.mono B3.size)
    have a4 := (Below.refl _ w4).alloc (Nat.le_refl _) (.cells #[.int .i64 a.st, .int .i64 a.sa, .slice (some ⟨p3, 0, none⟩) a.nx.length a.nx.length, .slice (some ⟨q3, 0, none⟩) a.ou.length a.ou.length] 42)
    have B4' := B4.alloc B4.size (.cells #[.int .i64 a.st, .int .i64 a.sa, .slice (some ⟨p3, 0, none⟩) a.nx.length a.nx.length, .slice (some ⟨q3, 0, none⟩) a.ou.length a.ou.length] 42)
    have h0 := cell_later B4' b0
    have h1 := cell_later B4' b1
    have h2 := cell_later B4' b2
    have h3 := cell_later B4' b3
    have x0 : (w4.alloc (.cells #[.int .i64 a.st, .int .i64 a.sa, .slice (some ⟨p3, 0, none⟩) a.nx.length a.nx.length, .slice (some ⟨q3, 0, none⟩) a.ou.length a.ou.length] 42)).cell? ⟨w4.heap.size, 0, none⟩ = some (.int .i64 a.st) := by simp [go_sem]
    have x1 : (w4.alloc (.cells #[.int .i64 a.st, .int .i64 a.sa, .slice (some ⟨p3, 0, none⟩) a.nx.length a.nx.length, .slice (some ⟨q3, 0, none⟩) a.ou.length a.ou.length] 42)).cell? ⟨w4.heap.size, 1, none⟩ = some (.int .i64 a.sa) := by simp [go_sem]
    have x2 : (w4.alloc (.cells #[.int .i64 a.st, .int .i64 a.sa, .slice (some ⟨p3, 0, none⟩) a.nx.length a.nx.length, .slice (some ⟨q3, 0, none⟩) a.ou.length a.ou.length] 42)).cell? ⟨w4.heap.size, 2, none⟩ = some (.slice (some ⟨p3, 0, none⟩) a.nx.length a.nx.length) := by simp [go_sem]
    have x3 : (w4.alloc (.cells #[.int .i64 a.st, .int .i64 a.sa, .slice (some ⟨p3, 0, none⟩) a.nx.length a.nx.length, .slice (some ⟨q3, 0, none⟩) a.ou.length a.ou.length] 42)).cell? ⟨w4.heap.size, 3, none⟩ = some (.slice (some ⟨q3, 0, none⟩) a.ou.length a.ou.length) := by simp [go_sem]
    have xi := inT_below p3i a4
    have xt := inU_below q3t a4
    clear hb4 B4 B3 g0 g1 g2 g3 k1 k2 p3i q3t a4
    go_wp2_with fail
    refine (HI.out _ _ _ HSA.out xi xt).mono ?_
    rintro e w5 ⟨rfl, hb5⟩
    have B5 := B4'.trans (hb5.mono B4'.size)
    have c0 := cell_later B5 b0
    have z0 := cell_later hb5 x0
    have c1 := cell_later B5 b1
    have z1 := cell_later hb5 x1
    have c2 := cell_later B5 b2
    have z2 := cell_later hb5 x2
    have c3 := cell_later B5 b3
    have z3 := cell_later hb5 x3
    have k1 := inT_below i1 B5
    have k2 := inU_below i2 B5
    have zi := inT_below xi hb5
    have zt := inU_below xt hb5
    clear hb5 B4' h0 h1 h2 h3 x0 x1 x2 x3 xi xt
    generalize coOk a = rr at *
    have hrr : (rr != rr) = false := by simp
    go_wp2
    go_region_held3 (fun w' => Below w5.heap.size w5 w' ∧ w'.cell? ⟨w.heap.size, 0, none⟩ = some (.int .i64 a.st) ∧ w'.cell? ⟨w.heap.size, 1, none⟩ = some (.int .i64 a.sa) ∧ w'.cell? ⟨w.heap.size, 2, none⟩ = some (u1) ∧ w'.cell? ⟨w.heap.size, 3, none⟩ = some (u2) ∧ w'.cell? ⟨w4.heap.size, 0, none⟩ = some (.int .i64 a.st) ∧ w'.cell? ⟨w4.heap.size, 1, none⟩ = some (.int .i64 a.sa) ∧ w'.cell? ⟨w4.heap.size, 2, none⟩ = some (.slice (some ⟨p3, 0, none⟩) a.nx.length a.nx.length) ∧ w'.cell? ⟨w4.heap.size, 3, none⟩ = some (.slice (some ⟨q3, 0, none⟩) a.ou.length a.ou.length) ∧ InT w' u1 a.nx ∧ InU w' u2 a.ou ∧ InT w' (.slice (some ⟨p3, 0, none⟩) a.nx.length a.nx.length) a.nx ∧ InU w' (.slice (some ⟨q3, 0, none⟩) a.ou.length a.ou.length) a.ou) ((first | (go_split_ands; (repeat' apply And.intro) <;> first | assumption | exact Below.drew (Below.refl _ _) | exact Below.drew (by assumption) | exact inT_below (by assumption) (Below.drew (Below.refl _ _)) | exact inU_below (by assumption) (Below.drew (Below.refl _ _)) | exact cell_later hbA (by assumption) | exact inT_below (by assumption) hbA | exact inU_below (by assumption) hbA | exact Below.trans ‹Below w5.heap.size w5 _› (hbA.mono (Below.size ‹Below w5.heap.size w5 _›)) | exact cell_later hbF (by assumption) | exact inT_below (by assumption) hbF | exact inU_below (by assumption) hbF | exact Below.trans ‹Below w5.heap.size w5 _› (hbF.mono (Below.size ‹Below w5.heap.size w5 _›)) | (simp; assumption)))) (first | (go_at_call 30; with_reducible refine (l_toCoder2 u1 u2 a _ HSA.out (by first | assumption | (go_split_ands; assumption)) (by first | assumption | (go_split_ands; assumption))).mono ?_; rintro e wA ⟨pA, qA, rfl, iA, tA', hbA⟩) | (go_at_call 32; with_reducible refine (l_eqCoder _ _ _ _ a _ HSA.out (by first | exact zi | exact inT_below zi (Below.drew (Below.refl _ _)) | exact inT_below zi hbA | exact inT_below (inT_below zi hbA) (Below.drew (Below.refl _ _)) | exact inT_below (inT_below zi (Below.drew (Below.refl _ _))) hbA | exact inT_below (inT_below (inT_below zi (Below.drew (Below.refl _ _))) hbA) (Below.drew (Below.refl _ _))) (by first | exact zt | exact inU_below zt (Below.drew (Below.refl _ _)) | exact inU_below zt hbA | exact inU_below (inU_below zt hbA) (Below.drew (Below.refl _ _)) | exact inU_below (inU_below zt (Below.drew (Below.refl _ _))) hbA | exact inU_below (inU_below (inU_below zt (Below.drew (Below.refl _ _))) hbA) (Below.drew (Below.refl _ _))) (by first | exact iA | exact inT_below iA (Below.drew (Below.refl _ _))) (by first | exact tA' | exact inU_below tA' (Below.drew (Below.refl _ _)))).mono ?_; rintro e wF ⟨rfl, hbF⟩))
    rename_i hS
    have BF := HBX.out _ (B5.trans (hS.1.mono B5.size))
    clear hS hbF hbA iA tA' c0 c1 c2 c3 z0 z1 z2 z3 k1 k2 zi zt B5
    go_wp2
    go_ret
    exact ⟨rfl, BF⟩
end Go.Proofs.Ytefcdkgfabaffaa

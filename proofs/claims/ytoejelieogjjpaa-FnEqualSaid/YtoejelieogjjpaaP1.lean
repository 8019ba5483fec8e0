/- The drawing of words: l00Src, A2Word. -/
import Derived.Test.YtoejelieogjjpaaY1
import Derived.Test.YtoejelieogjjpaaB1
import Derived.Deep.AppendLies
namespace Go.Proofs.Ytoejelieogjjpaa
open Go.ChangeShapes Go.WideShapes Go.RowKit
set_option linter.unusedVariables false
set_option linter.unusedSimpArgs false
set_option maxHeartbeats 4000000
set_option maxRecDepth 100000
/-- the bytes that a source reads lie ahead of block g -/
def CodeAt (w : World) (g : Nat) (v : Value) (l : List UInt8) : Prop :=
  (l = [] ∧ ∃ a cap, v = .slice a 0 cap) ∨ ∃ b off cap, v = .slice (some ⟨b, off, none⟩) l.length cap ∧ b < g ∧ ∀ j x, l[j]? = some x → w.cell? ⟨b, off + j, none⟩ = some (.int .u8 (x.toNat : Int))
structure Src (w : World) (g : Nat) (l : List UInt8) (B : Nat) : Prop where
  lt : g < w.heap.size
  big : l.length ≤ 1048576
  ex : ∃ (v : Value) (t : Nat) (sd : Int), w.cell? ⟨g, 0, none⟩ = some v ∧ w.cell? ⟨g, 1, none⟩ = some (.int .i64 t) ∧ w.cell? ⟨g, 2, none⟩ = some (.int .u64 sd) ∧ w.frozen? ⟨g, 1, none⟩ = false ∧ w.frozen? ⟨g, 2, none⟩ = false ∧ t ≤ B ∧ CodeAt w g v l
theorem CodeAt.kept {w w' : World} {g : Nat} {v : Value} {l : List UInt8} {row : Option Nat} (h : CodeAt w g v l) (hg : w.grownBy w' row) (hlt : g ≤ w.heap.size) (hr : ∀ r, row = some r → g ≤ r) : CodeAt w' g v l := by
  rcases h with h | ⟨b, off, cap, h1, h2, h3⟩
  · exact .inl h
  · refine .inr ⟨b, off, cap, h1, h2, fun j x hx => ?_⟩
    rw [hg.cell_far _ (by show b < _; omega) (by intro e; have := hr b e.symm; omega)]
    exact h3 j x hx
theorem Src.kept {w w' : World} {g B : Nat} {l : List UInt8} {row : Option Nat} (h : Src w g l B) (hg : w.grownBy w' row) (hr : ∀ r, row = some r → g < r) : Src w' g l B := by
  obtain ⟨v, t, sd, h0, h1, h2, h3, h4, h5, h6⟩ := h.ex
  have hne : some g ≠ row := by intro e; have := hr g e.symm; omega
  refine ⟨Nat.lt_of_lt_of_le h.lt hg.size, h.big, v, t, sd, ?_, ?_, ?_, ?_, ?_, h5, h6.kept hg (Nat.le_of_lt h.lt) (fun r e => Nat.le_of_lt (hr r e))⟩
  · rw [hg.cell_far _ h.lt hne]; exact h0
  · rw [hg.cell_far _ h.lt hne]; exact h1
  · rw [hg.cell_far _ h.lt hne]; exact h2
  · rw [hg.frozen_far _ h.lt hne]; exact h3
  · rw [hg.frozen_far _ h.lt hne]; exact h4
theorem Src.more {w : World} {g B B' : Nat} {l : List UInt8} (h : Src w g l B) (hb : B ≤ B') : Src w g l B' := by
  obtain ⟨v, t, sd, h0, h1, h2, h3, h4, h5, h6⟩ := h.ex
  exact ⟨h.lt, h.big, v, t, sd, h0, h1, h2, h3, h4, by omega, h6⟩
theorem grownBy_set (w : World) (a : Addr) (u : Value) : w.grownBy (w.setCell a u) (some a.block) :=
  ⟨rfl, rfl, rfl, ((Below.refl 0 w).setCell (Nat.zero_le _) _).size, fun k _ hk => Below.heap_setCell _ _ _ k (fun e => hk (by rw [e]))⟩
theorem src_step {w : World} {g t q : Nat} {v : Value} {sd s2 : Int} (hlt : g < w.heap.size) (h0 : w.cell? ⟨g, 0, none⟩ = some v) (h1 : w.cell? ⟨g, 1, none⟩ = some (.int .i64 t)) (h2 : w.cell? ⟨g, 2, none⟩ = some (.int .u64 sd))
    (h3 : w.frozen? ⟨g, 1, none⟩ = false) (h4 : w.frozen? ⟨g, 2, none⟩ = false) :
    let w2 := ((w.drewN q).setCell ⟨g, 1, none⟩ (.int .i64 (t + 1))).setCell ⟨g, 2, none⟩ (.int .u64 s2)
    w2.cell? ⟨g, 0, none⟩ = some v ∧ w2.cell? ⟨g, 1, none⟩ = some (.int .i64 ((t : Int) + 1)) ∧ w2.cell? ⟨g, 2, none⟩ = some (.int .u64 s2) ∧ w2.frozen? ⟨g, 1, none⟩ = false ∧ w2.frozen? ⟨g, 2, none⟩ = false ∧ w.grownBy w2 (some g) := by
  intro w2
  have a1 : (w.drewN q).cell? ⟨g, 1, none⟩ = some (.int .i64 t) := by simpa using h1
  have a2 : ((w.drewN q).setCell ⟨g, 1, none⟩ (.int .i64 (t + 1))).cell? ⟨g, 2, none⟩ = some (.int .u64 sd) := by
    rw [World.cell?_setCell_other (h := by intro h; injection h with _ h _; cases h)]; simpa using h2
  refine ⟨?_, ?_, ?_, ?_, ?_, ?_⟩
  · show (World.setCell _ _ _).cell? _ = _
    rw [World.cell?_setCell_other (h := by intro h; injection h with _ h _; cases h), World.cell?_setCell_other (h := by intro h; injection h with _ h _; cases h)]; simpa using h0
  · show (World.setCell _ _ _).cell? _ = _
    rw [World.cell?_setCell_other (h := by intro h; injection h with _ h _; cases h), World.cell?_setCell_same (h := a1)]
  · show (World.setCell _ _ _).cell? _ = _
    rw [World.cell?_setCell_same (h := a2)]
  · simpa [w2] using h3
  · simpa [w2] using h4
  · have g0 : w.grownBy (w.drewN q) (some g) := ⟨rfl, rfl, rfl, Nat.le_refl _, fun _ _ _ => rfl⟩
    exact (g0.trans (grownBy_set _ _ _)).trans (grownBy_set _ _ _)
theorem gen_world {c : Code} {Q : Exit → Act → World → Prop} {a : Act} {w' : World} (P : World → Prop) (h : P w') (k : ∀ w2, P w2 → Code.wp Try.prog c Q a w2) : Code.wp Try.prog c Q a w' := k w' h
theorem low8 (a : Int) : ∃ x : Nat, wrap64 (bits .and .u64 a 255) = (x : Int) ∧ x < 256 := by
  have h : bits .and .u64 a 255 = IntKind.u64.wrap ((BitVec.ofInt 64 a &&& BitVec.ofInt 64 255).toNat : Int) := rfl
  have h2 : (BitVec.ofInt 64 a &&& BitVec.ofInt 64 255).toNat ≤ 255 := by rw [BitVec.toNat_and]; exact Nat.and_le_right
  generalize (BitVec.ofInt 64 a &&& BitVec.ofInt 64 255).toNat = n at *
  refine ⟨n, ?_, by omega⟩
  rw [h, IntKind.wrap_u64]
  unfold wrap64
  omega
theorem src_end {w w2 w3 : World} {g B t : Nat} {l : List UInt8} {v : Value} {s2 : Int} (hs : Src w g l B) (e3 : ∃ n, w3 = w2.drewN n) (hv : CodeAt w g v l) (k0 : w2.cell? ⟨g, 0, none⟩ = some v) (k1 : w2.cell? ⟨g, 1, none⟩ = some (.int .i64 ((t : Int) + 1))) (k2 : w2.cell? ⟨g, 2, none⟩ = some (.int .u64 s2))
    (k3 : w2.frozen? ⟨g, 1, none⟩ = false) (k4 : w2.frozen? ⟨g, 2, none⟩ = false) (kg : w.grownBy w2 (some g)) (ht : t ≤ B) : w.grownBy w3 (some g) ∧ Src w3 g l (B + 1) := by
  obtain ⟨n, rfl⟩ := e3
  have g0 : w.grownBy (w2.drewN n) (some g) := kg.trans ⟨rfl, rfl, rfl, Nat.le_refl _, fun _ _ _ => rfl⟩
  refine ⟨g0, Nat.lt_of_lt_of_le hs.lt g0.size, hs.big, v, t + 1, s2, k0, k1, k2, k3, k4, by omega, hv.kept g0 (Nat.le_of_lt hs.lt) (fun r e => by injection e with e; omega)⟩
theorem s_next (g B : Nat) (l : List UInt8) (w : World) (hB : B ≤ 1048576) (hs : Src w g l B) :
    Calls Try.prog 52 #[.pointer (some ⟨g, 0, none⟩)] w fun e w' => ∃ x : Nat, e = .returned (.int .i64 x) ∧ x < 256 ∧ w.grownBy w' (some g) ∧ Src w' g l (B + 1) := by
  obtain ⟨v, t, sd, h0, h1, h2, h3, h4, h5, h6⟩ := hs.ex
  have hlt := hs.lt
  have hbig := hs.big
  have HS := Lib.hid hs
  have H6 := Lib.hid h6
  have HSTEP := Lib.hid (fun q s2 => src_step (q := q) (s2 := s2) hlt h0 h1 h2 h3 h4)
  clear hs
  rcases h6 with ⟨rfl, a, cap, rfl⟩ | ⟨b, off, cap, rfl, hb, hc⟩
  · go_enter Try.func52, Try.ntmps52
    go_wp2
    go_quiet (fail)
    go_wp2
    refine gen_world (fun w2 => w2.cell? ⟨g, 0, none⟩ = some (.slice a 0 cap) ∧ w2.cell? ⟨g, 1, none⟩ = some (.int .i64 ((t : Int) + 1)) ∧ (∃ s2, w2.cell? ⟨g, 2, none⟩ = some (.int .u64 s2)) ∧ w2.frozen? ⟨g, 1, none⟩ = false ∧ w2.frozen? ⟨g, 2, none⟩ = false ∧ w.grownBy w2 (some g)) ?_ ?_
    · have h := HSTEP.out
      exact ⟨(h _ _).1, (h _ _).2.1, ⟨_, (h _ _).2.2.1⟩, (h _ _).2.2.2⟩
    · rintro w2 ⟨k0, k1, ⟨s2, k2⟩, k3, k4, kg⟩
      clear h0 h1 h2 h3 h4
      have hx : ¬ (t : Int) + 1 ≤ 0 := by omega
      go_quiet (fail)
      go_wp2
      obtain ⟨x, e8, hx8⟩ := low8 (s2 / 1099511627776)
      go_ret
      exact ⟨x, by rw [e8]; rfl, hx8, src_end HS.out ⟨_, rfl⟩ H6.out k0 k1 k2 k3 k4 kg h5⟩
  · by_cases hin : t < l.length
    · have hcell := hc t _ (List.getElem?_eq_getElem hin)
      have hx8 : (l[t]'hin).toNat < 256 := UInt8.toNat_lt _
      have hin2 : (t : Int) < (l.length : Int) := by omega
      clear hc
      generalize (l[t]'hin).toNat = x at *
      go_enter Try.func52, Try.ntmps52
      go_wp2
      go_quiet (fail)
      go_wp2
      go_quiet (fail)
      go_wp2
      refine gen_world (fun w2 => w2.cell? ⟨g, 0, none⟩ = some (.slice (some ⟨b, off, none⟩) l.length cap) ∧ w2.cell? ⟨g, 1, none⟩ = some (.int .i64 ((t : Int) + 1)) ∧ (∃ s2, w2.cell? ⟨g, 2, none⟩ = some (.int .u64 s2)) ∧ w2.frozen? ⟨g, 1, none⟩ = false ∧ w2.frozen? ⟨g, 2, none⟩ = false ∧ w.grownBy w2 (some g)) ?_ ?_
      · have h := HSTEP.out
        exact ⟨(h _ _).1, (h _ _).2.1, ⟨_, (h _ _).2.2.1⟩, (h _ _).2.2.2⟩
      · rintro w2 ⟨k0, k1, ⟨s2, k2⟩, k3, k4, kg⟩
        clear h0 h1 h2 h3 h4 hcell
        have hx : (t : Int) + 1 ≤ l.length := by omega
        go_quiet (fail)
        go_wp2
        go_ret
        exact ⟨x, rfl, hx8, src_end HS.out ⟨_, rfl⟩ H6.out k0 k1 k2 k3 k4 kg h5⟩
    · have hin2 : ¬ (t : Int) < (l.length : Int) := by omega
      clear hc
      go_enter Try.func52, Try.ntmps52
      go_wp2
      go_quiet (fail)
      go_wp2
      refine gen_world (fun w2 => w2.cell? ⟨g, 0, none⟩ = some (.slice (some ⟨b, off, none⟩) l.length cap) ∧ w2.cell? ⟨g, 1, none⟩ = some (.int .i64 ((t : Int) + 1)) ∧ (∃ s2, w2.cell? ⟨g, 2, none⟩ = some (.int .u64 s2)) ∧ w2.frozen? ⟨g, 1, none⟩ = false ∧ w2.frozen? ⟨g, 2, none⟩ = false ∧ w.grownBy w2 (some g)) ?_ ?_
      · have h := HSTEP.out
        exact ⟨(h _ _).1, (h _ _).2.1, ⟨_, (h _ _).2.2.1⟩, (h _ _).2.2.2⟩
      · rintro w2 ⟨k0, k1, ⟨s2, k2⟩, k3, k4, kg⟩
        clear h0 h1 h2 h3 h4
        have hx : ¬ (t : Int) + 1 ≤ l.length := by omega
        go_quiet (fail)
        go_wp2
        obtain ⟨x, e8, hx8⟩ := low8 (s2 / 1099511627776)
        go_ret
        exact ⟨x, by rw [e8]; rfl, hx8, src_end HS.out ⟨_, rfl⟩ H6.out k0 k1 k2 k3 k4 kg h5⟩
theorem mod_nat (x : Nat) {n : Int} (h : 1 < n) : ∃ y : Nat, (x : Int) % n = (y : Int) ∧ (y : Int) < n := by
  have h1 := Int.emod_nonneg (x : Int) (show n ≠ 0 by omega)
  have h2 := Int.emod_lt_of_pos (x : Int) (show 0 < n by omega)
  exact ⟨((x : Int) % n).toNat, by omega, by omega⟩
theorem s_pick (g B : Nat) (l : List UInt8) (n : Int) (w : World) (hn : n ≤ 1048576) (hB : B + 2 ≤ 1048576) (hs : Src w g l B) :
    Calls Try.prog 31 #[.pointer (some ⟨g, 0, none⟩), .int .i64 n] w fun e w' => ∃ x : Nat, e = .returned (.int .i64 x) ∧ (x = 0 ∨ (x : Int) < n) ∧ w.grownBy w' (some g) ∧ Src w' g l (B + 2) := by
  by_cases h1 : n ≤ 1
  · go_enter Try.func31, Try.ntmps31
    go_wp2
    go_ret
    exact ⟨0, rfl, .inl rfl, ⟨rfl, rfl, rfl, Nat.le_refl _, fun _ _ _ => rfl⟩, hs.more (by omega)⟩
  · by_cases h2 : n ≤ 200
    · go_enter Try.func31, Try.ntmps31
      go_wp2_with fail
      refine (s_next g B l w (by omega) hs).mono ?_
      rintro e w1 ⟨x, rfl, hx, hg, hs1⟩
      obtain ⟨y, hy, hyn⟩ := mod_nat x (show 1 < n by omega)
      have HY := Lib.hid hy
      clear hy
      go_wp2
      go_ret
      exact ⟨y, by rw [← HY.out]; rfl, .inr hyn, hg, hs1.more (by omega)⟩
    · go_enter Try.func31, Try.ntmps31
      go_wp2_with fail
      refine (s_next g B l w (by omega) hs).mono ?_
      rintro e w1 ⟨x, rfl, hx, hg, hs1⟩
      go_wp2_with fail
      refine (s_next g (B + 1) l w1 (by omega) hs1).mono ?_
      rintro e w2 ⟨x2, rfl, hx2, hg2, hs2⟩
      obtain ⟨y, hy, hyn⟩ := mod_nat (x * 256 + x2) (show 1 < n by omega)
      have HY := Lib.hid hy
      clear hy
      go_wp2
      go_ret
      exact ⟨y, by rw [← HY.out]; simp [Act.tmps], .inr hyn, hg.trans hg2, hs2⟩
theorem s_one (g B : Nat) (l : List UInt8) (n : Int) (w : World) (hn : n ≤ 1048576) (hB : B + 2 ≤ 1048576) (hs : Src w g l B) :
    Calls Try.prog 32 #[.pointer (some ⟨g, 0, none⟩), .int .i64 n] w fun e w' => ∃ b : Bool, e = .returned (.bool b) ∧ w.grownBy w' (some g) ∧ Src w' g l (B + 2) := by
  go_enter Try.func32, Try.ntmps32
  go_wp2_with fail
  refine (s_pick g B l n w hn hB hs).mono ?_
  rintro e w1 ⟨x, rfl, hx, hg, hs1⟩
  go_wp2
  go_ret
  exact ⟨_, rfl, hg, hs1⟩
/-- a new source over bytes that came in -/
theorem s_l00From (v : Value) (l : List UInt8) (w : World) (hl : l.length ≤ 1048576) (hin : InRow w v l.length 1 (u8s l)) :
    Calls Try.prog 20 #[v] w fun e w' => e = .returned (.pointer (some ⟨w.heap.size, 0, none⟩)) ∧ w.grownBy w' none ∧ Src w' w.heap.size l 0 := by
  obtain ⟨a, n, cap, rfl⟩ : ∃ a n cap, v = .slice a n cap := by
    rcases hin with ⟨_, _, a, cap, rfl⟩ | ⟨b, off, cap, rfl, _⟩
    · exact ⟨_, _, _, rfl⟩
    · exact ⟨_, _, _, rfl⟩
  have HIN := Lib.hid hin
  clear hin
  go_enter Try.func20, Try.ntmps20
  go_wp2
  go_ret
  refine ⟨rfl, World.grownBy_alloc _ _ _, by simp, hl, .slice a n cap, 0, 0, ?_, ?_, ?_, ?_, ?_, Nat.le_refl _, ?_⟩
  · rw [World.cell?_alloc_at _ _ _ _ rfl]; rfl
  · rw [World.cell?_alloc_at _ _ _ _ rfl]; rfl
  · rw [World.cell?_alloc_at _ _ _ _ rfl]; rfl
  · simp
  · simp
  · rcases HIN.out with ⟨h1, _, a2, cap2, h3⟩ | ⟨b, off, cap2, h3, h4, h5, h6, h7⟩
    · exact .inl ⟨List.eq_nil_of_length_eq_zero h1, _, _, h3⟩
    · refine .inr ⟨b, off, cap2, h3, h4, fun j x hx => ?_⟩
      have hj := (List.getElem?_eq_some_iff.1 hx).1
      rw [(World.grownBy_alloc w _ none).cell_far _ h4 (by simp), h7 j (by omega)]
      simp [u8s, hx]
end Go.Proofs.Ytoejelieogjjpaa

/- Slices of bytes: append of one byte, the text of bytes; l01Turn, turned, TurnWord, IsPalindrome. -/
import Derived.Test.YtdighfjoechbkaaA3
import Derived.RegionTactic
import Derived.ChangeAlike
namespace Go.Proofs.Ytdighfjoechbkaa
open Go.ChangeShapes Go.WideShapes Go.RowKit
set_option linter.unusedVariables false
set_option linter.unusedSimpArgs false
set_option maxHeartbeats 2000000
set_option maxRecDepth 100000
theorem info_u8 : (Try.prog.info? 5).map (fun i => (i.zero, i.size, i.bytes)) = some (some (.int .u8 0), 1, 1) := by kernel_rfl

def u8s (l : List UInt8) : List Value := l.map fun b => .int .u8 (b.toNat : Int)
theorem app_u8 {ops : Array Oper} {rest : List Oper} {o : Oper} {a : Act} {Q : Exit → Act → World → Prop} (hgd : o.guard = none) (s x : Operand)
    (ho : o.op = .call { callee := .builtin .append, args := #[s, x], argTypes := #[52, 52] })
    (base : Nat) (wr : World) (g : Nat) (v : Value) (n : Nat) (xs : List Value) (y : Int) (hs : a.eval s = v) (hown : wr.ownsRow base 5 1 v n xs)
    (hx : a.eval x = .slice (some ⟨g, 0, none⟩) 1 1) (hg : g = wr.heap.size) (hn : n + 1 ≤ 1099511627776) (hbase : base ≤ wr.heap.size)
    (h : ∀ v' w', w'.ownsRow base 5 1 v' (n + 1) (xs ++ [.int .u8 y]) → Below base wr w' → wr.heap.size ≤ w'.heap.size → wpList Try.prog ops Q rest (a.put o.dst v') w') :
    wpList Try.prog ops Q (o :: rest) a (wr.alloc (.cells #[.int .u8 y] 5)) := by
  subst hg
  obtain ⟨i0, hi, hz0, hz1, hz2⟩ := info_parts info_u8
  have hlt := hown.lt
  refine wpList_append_own _ hgd s x 52 ho base 5 i0 (.int .u8 0) 1 1 Try.underlying52 hi hz0 hz1 hz2 rfl (by decide) v n xs hs (hown.alloc _) ⟨wr.heap.size, 0, none⟩ 1 1 [.int .u8 y] hx rfl ?_ ?_ ?_ ?_ ?_ ?_
  · exact cell_one_new _ _ _
  · simp [Value.oneCell']
  · unfold maxLen; omega
  · omega
  · simp; omega
  · intro v' w1 ho1 hg _
    have hb : Below base wr w1 := by
      refine Below.grown ((Below.refl _ _).alloc hbase _) hg (by simp; omega) ?_
      intro k hk
      exact (hlt k hk).1
    exact h v' w1 ho1 hb hb.size
theorem owns8_snoc {w : World} {base e : Nat} {v : Value} {l l' : List UInt8} {y : UInt8} (h : w.ownsRow base e 1 v (l.length + 1) (u8s l ++ [.int .u8 (y.toNat : Int)])) (e1 : l' = l ++ [y]) : w.ownsRow base e 1 v l'.length (u8s l') := by
  subst e1; simpa [u8s] using h
/-- string(b), b a row of the call's own -/
theorem conv_own {w : World} {base cap g : Nat} {l : List UInt8} (h : w.ownsRow base 5 1 (.slice (some ⟨g, 0, none⟩) l.length cap) l.length (u8s l)) :
    (convert 52 9 (.slice (some ⟨g, 0, none⟩) l.length cap)).run Try.prog w = .ok (.string ⟨l.toArray⟩) w := by
  refine Go.run_convert_bytes_back w 52 9 5 ⟨g, 0, none⟩ cap l Try.underlying52 Try.underlying5 Try.underlying9 ?_
  intro j hj
  have := h.cellAt j (by omega)
  rw [show (⟨g, 0, none⟩ : Addr).add j = ⟨g, j, none⟩ by unfold Addr.add; split <;> simp_all]
  rw [this]
  simp [u8s, List.getElem?_eq_getElem hj]
theorem conv_any {w : World} {base : Nat} {v : Value} {l : List UInt8} (h : w.ownsRow base 5 1 v l.length (u8s l)) :
    (convert 52 9 v).run Try.prog w = .ok (.string ⟨l.toArray⟩) w := by
  rcases owns_cases h with ⟨rfl, h0, _⟩ | ⟨g, cap, rfl, _⟩
  · have e := List.eq_nil_of_length_eq_zero h0
    subst e
    rw [run_convert_bytes_string w 52 9 5 none 0 0 Try.underlying52 Try.underlying5 Try.underlying9]
    rfl
  · exact conv_own h
theorem rev_snoc (s : ByteArray) (k i : Nat) (h : i < s.size) (e : i + k + 1 = s.size) : s.data.toList.reverse.take (k + 1) = s.data.toList.reverse.take k ++ [s[i]] := by
  rw [List.take_succ_eq_append_getElem (by simp; omega)]
  simp only [List.getElem_reverse, Array.length_toList]
  have : s.data.size - 1 - k = i := by show s.size - 1 - k = i; omega
  simp only [this]
  rfl
/-- the word turned -/
def revS (s : ByteArray) : ByteArray := ⟨s.data.toList.reverse.toArray⟩
theorem s_l01Turn (s : ByteArray) (w : World) (hs : s.size ≤ 1048576) : Calls Try.prog 84 #[.string s] w fun e w' => e = .returned (.string (revS s)) ∧ Below w.heap.size w w' := by
  have hs' : s.size ≤ 9223372036854775807 := by omega
  go_enter Try.func84, Try.ntmps84
  go_wp2
  go_loopw [3, 4] (fun v i wr => Below w.heap.size w wr ∧ ∃ k : Nat, k ≤ s.size ∧ i = .int .i64 ((s.size : Int) - 1 - k) ∧ wr.ownsRow w.heap.size 5 1 v (s.data.toList.reverse.take k).length (u8s (s.data.toList.reverse.take k))) (fun _ i _ => (intOf i + 1).toNat)
  case atStart => exact ⟨(Below.refl _ _).alloc (Nat.le_refl _) _, 0, by omega, by go_num, World.ownsRow_made w #[] 0 (Nat.le_refl _) (by decide) (by simp)⟩
  case round =>
    obtain ⟨hb, k, hk, rfl, hown⟩ := hrel
    have hsz := hb.size
    have hlen : (s.data.toList.reverse.take k).length = k := by simp; omega
    by_cases hlt : k < s.size
    · obtain ⟨i, hi⟩ : ∃ i, i + k + 1 = s.size := ⟨s.size - 1 - k, by omega⟩
      have hi0 : i < s.size := by omega
      have HS := Lib.hid (rev_snoc s k i hi0 hi)
      have ei : ((s.size : Int) - 1 - k) = ((i : Nat) : Int) := by omega
      have HI : Hid ((i : Int) - 1 = (s.size : Int) - 1 - (k + 1 : Nat)) := by show _ = _; omega
      rw [ei]
      have HL := Lib.hid hlen
      have hl2 : (s.data.toList.reverse.take k).length ≤ 1048576 := by omega
      clear ei hlen hi
      generalize s.data.toList.reverse.take k = l at *
      go_wp2_with (at_builtin; refine app_u8 rfl (.tmp 13) (.tmp 17) rfl w.heap.size _ _ _ _ _ _ rfl hown rfl (by simp) (by omega) (by simpa using hsz) ?_; intro v' w1 ho1 hb1 hsz1)
      go_roundw
      case rel => exact ⟨hb.trans hb1, k + 1, by omega, by rw [HI.out], owns8_snoc ho1 HS.out⟩
      case measure => first | (simp [intOf]; done) | (simp [intOf]; omega)
    · have ek : k = s.size := by omega
      have HL : Hid (s.data.toList.reverse.take k = s.data.toList.reverse) := by
        show _ = _
        rw [List.take_of_length_le (by simp; omega)]
      have hcv := conv_any hown
      subst ek
      rw [HL.out] at hcv
      go_wp2
      go_ret
      exact ⟨rfl, hb⟩
/-- a row of cells that may be written -/
structure Rw (w : World) (g : Nat) (xs : List Value) : Prop where
  lt : g < w.heap.size
  cell : ∀ j, j < xs.length → w.cell? ⟨g, j, none⟩ = xs[j]?
  fro : ∀ j, j < xs.length → w.frozen? ⟨g, j, none⟩ = false
theorem byt_conv {w : World} {g n cap : Nat} {l : List UInt8} (hn : l.length = n) (h : Rw w g (u8s l)) : (convert 52 9 (.slice (some ⟨g, 0, none⟩) n cap)).run Try.prog w = .ok (.string ⟨l.toArray⟩) w := by
  subst hn
  refine Go.run_convert_bytes_back w 52 9 5 ⟨g, 0, none⟩ cap l Try.underlying52 Try.underlying5 Try.underlying9 ?_
  intro j hj
  rw [show (⟨g, 0, none⟩ : Addr).add j = ⟨g, j, none⟩ by unfold Addr.add; split <;> simp_all]
  rw [h.cell j (by simpa [u8s] using hj)]
  simp [u8s, List.getElem?_eq_getElem hj]
/-- the place from which the j-th cell comes after i exchanges -/
def rvAt (n i j : Nat) : Nat := if j < i ∨ n ≤ j + i then n - 1 - j else j
theorem rvAt_0 {n j : Nat} (h : j < n) : rvAt n 0 j = j := by unfold rvAt; rw [if_neg (by omega)]
theorem rvAt_lt {n i j : Nat} (h : j < n) : rvAt n i j < n := by unfold rvAt; split <;> omega
theorem grown_drew {w w' : World} {r : Option Nat} (h : w.grownBy w' r) : w.grownBy w'.drew r := ⟨h.os, h.tape, h.output, h.size, h.block⟩
theorem rv_step (kd : IntKind) {w : World} {g i m n : Nat} {xs : List Int} {x y : Int} (hm : m + i + 1 = n) (him : i < m)
    (hc : ∀ t, t < n → w.cell? ⟨g, t, none⟩ = some (.int kd (xs.getD (rvAt n i t) 0))) (hx : xs.getD (rvAt n i i) 0 = x) (hy : xs.getD (rvAt n i m) 0 = y) (t : Nat) (ht : t < n) :
    (((w.setCell ⟨g, i, none⟩ (.int kd y)).setCell ⟨g, m, none⟩ (.int kd x)).drew).cell? ⟨g, t, none⟩ = some (.int kd (xs.getD (rvAt n (i + 1) t) 0)) := by
  rw [World.cell?_drew]
  have ri : rvAt n i i = i := by unfold rvAt; rw [if_neg (by omega)]
  have rm : rvAt n i m = m := by unfold rvAt; rw [if_neg (by omega)]
  have ne : (⟨g, i, none⟩ : Addr) ≠ ⟨g, m, none⟩ := by intro h; injection h; omega
  by_cases h1 : t = m
  · subst h1
    have hold : (w.setCell ⟨g, i, none⟩ (.int kd y)).cell? ⟨g, t, none⟩ = some (.int kd (xs.getD (rvAt n i t) 0)) := by
      rw [World.cell?_setCell_other (h := ne)]; exact hc t ht
    rw [World.cell?_setCell_same (h := hold), ← hx, ri]
    have : rvAt n (i + 1) t = i := by unfold rvAt; rw [if_pos (by omega)]; omega
    rw [this]
  · rw [World.cell?_setCell_other (h := by intro h; injection h; omega)]
    by_cases h2 : t = i
    · subst h2
      rw [World.cell?_setCell_same (h := hc t ht), ← hy, rm]
      have : rvAt n (t + 1) t = m := by unfold rvAt; rw [if_pos (by omega)]; omega
      rw [this]
    · rw [World.cell?_setCell_other (h := by intro h; injection h; omega), hc t ht]
      have : rvAt n (i + 1) t = rvAt n i t := by
        unfold rvAt
        by_cases h3 : t < i ∨ n ≤ t + i
        · rw [if_pos h3, if_pos (by omega)]
        · rw [if_neg h3, if_neg (by omega)]
      rw [this]
theorem rv_end (kd : IntKind) {w : World} {g k : Nat} {xs : List Int} (hg : g < w.heap.size) (h1 : 2 * k ≤ xs.length + 1) (h2 : ¬ 2 * k + 1 < xs.length)
    (hc : ∀ t, t < xs.length → w.cell? ⟨g, t, none⟩ = some (.int kd (xs.getD (rvAt xs.length k t) 0))) (hf : ∀ t, t < xs.length → w.frozen? ⟨g, t, none⟩ = false) : Rw w g (xs.reverse.map (Value.int kd)) := by
  refine ⟨hg, fun j hj => ?_, fun j hj => hf j (by simpa using hj)⟩
  have hj' : j < xs.length := by simpa using hj
  have e : rvAt xs.length k j = xs.length - 1 - j := by unfold rvAt; split <;> omega
  rw [hc j hj', e]
  simp [hj', List.getElem?_reverse hj', List.getD, List.getElem?_eq_getElem (show xs.length - 1 - j < xs.length by omega)]
theorem f_Reverse_byte (g n cap : Nat) (xs : List Int) (w : World) (hn : xs.length = n) (hl : xs.length ≤ 1048576) (hB : Rw w g (xs.map (Value.int .u8))) :
    Calls Try.prog 100 #[.slice (some ⟨g, 0, none⟩) n cap] w fun e w' => e = .returned (.tuple #[]) ∧ Rw w' g (xs.reverse.map (Value.int .u8)) ∧ w.grownBy w' (some g) := by
  subst hn
  go_enter Try.func100, Try.ntmps100
  go_wp2
  go_loopw [2, 3] (fun i j wr => w.grownBy wr (some g) ∧ ∃ k : Nat, 2 * k ≤ xs.length + 1 ∧ i = .int .i64 k ∧ j = .int .i64 ((xs.length : Int) - 1 - k) ∧ (∀ t, t < xs.length → wr.cell? ⟨g, t, none⟩ = some (.int .u8 (xs.getD (rvAt xs.length k t) 0))) ∧ ∀ t, t < xs.length → wr.frozen? ⟨g, t, none⟩ = false) (fun i j _ => (intOf j - intOf i + 1).toNat)
  case atStart => exact ⟨World.grownBy.refl _ _, 0, by omega, rfl, by go_num, fun t ht => by rw [hB.cell t (by simpa using ht), rvAt_0 ht]; simp [List.getD, ht], fun t ht => hB.fro t (by simpa using ht)⟩
  case round =>
    obtain ⟨hg, k, hk, rfl, rfl, hc, hf⟩ := hrel
    have HC := Lib.hid hc
    have HF := Lib.hid hf
    have HG := Lib.hid hg
    have hlt0 := hB.lt
    clear hc hf hg hB
    by_cases hlt : 2 * k + 1 < xs.length
    · obtain ⟨m, hm⟩ : ∃ m, m + k + 1 = xs.length := ⟨xs.length - 1 - k, by omega⟩
      have em : ((xs.length : Int) - 1 - k) = (m : Int) := by omega
      have hkm : k < m := by omega
      have hne : ¬ k = m := by omega
      have hne2 : ¬ m = k := by omega
      have hml : m < xs.length := by omega
      have hkl : k < xs.length := by omega
      have hck := HC.out k hkl
      have hcm := HC.out m hml
      obtain ⟨x, hx⟩ : ∃ x, xs.getD (rvAt xs.length k k) 0 = x := ⟨_, rfl⟩
      obtain ⟨y, hy⟩ : ∃ y, xs.getD (rvAt xs.length k m) 0 = y := ⟨_, rfl⟩
      rw [hx] at hck
      rw [hy] at hcm
      have hfk := HF.out k hkl
      have hfm := HF.out m hml
      have HX := Lib.hid hx
      have HY := Lib.hid hy
      have HM := Lib.hid hm
      clear hx hy hm
      rw [em]
      clear em
      go_wp2
      go_region
      go_wp2
      go_roundw
      case rel => exact ⟨grown_drew (grown_set (grown_set HG.out _ _) _ _), k + 1, by omega, by go_num, by have := HM.out; congr 1; omega, fun t ht => rv_step .u8 HM.out hkm HC.out HX.out HY.out t ht, fun t ht => by simpa using HF.out t ht⟩
      case measure => have := HM.out; first | (simp [intOf]; done) | (simp [intOf]; omega)
    · go_wp2
      go_end0
      refine ⟨rfl, ?_, HG.out⟩
      exact rv_end .u8 (Nat.lt_of_lt_of_le hlt0 HG.out.size) (by omega) (by omega) HC.out HF.out
end Go.Proofs.Ytdighfjoechbkaa

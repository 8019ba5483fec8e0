/- FactorCount, of the program and of the reference, and its law. -/
import Derived.Test.YtdighfjoechbkaaW3
import Derived.Maps.OwnSet
import Derived.Maps.OwnOps
namespace Go.Proofs.Ytdighfjoechbkaa
open Go.ChangeShapes Go.WideShapes Go.RowKit
set_option linter.unusedVariables false
set_option linter.unusedSimpArgs false
set_option maxHeartbeats 2000000
set_option maxRecDepth 100000
theorem qt_sz {w w' : World} (h : Qt w w') : w'.heap.size = w.heap.size := by
  obtain ⟨q, rfl⟩ := h; simp
/-- the words of the length L at the places k and i are the same -/
def eqAt (s : ByteArray) (L i k : Nat) : Bool := (s.extract k (k + L)).toList == (s.extract i (i + L)).toList
/-- none of the first t words of the length L is the one at i -/
def frA (s : ByteArray) (L i : Nat) : Nat → Bool
  | 0 => true
  | t + 1 => frA s L i t && !(eqAt s L i t)
theorem frA_false {s : ByteArray} {L i t : Nat} (h : frA s L i t = false) : ∀ d, frA s L i (t + d) = false
  | 0 => h
  | d + 1 => by show (frA s L i (t + d) && _) = false; rw [frA_false h d]; rfl
/-- how many different words of the length L there are at the first i places -/
def fcN (s : ByteArray) (L : Nat) : Nat → Nat
  | 0 => 0
  | i + 1 => if frA s L i i = true then fcN s L i + 1 else fcN s L i
theorem fcN_le (s : ByteArray) (L : Nat) : ∀ i, fcN s L i ≤ i
  | 0 => Nat.le_refl _
  | i + 1 => by
    have := fcN_le s L i
    rw [fcN]; split <;> omega
def fcV (s : ByteArray) (n : Int) : Int := if validB s = true then if 0 ≤ n ∧ n ≤ s.size then (fcN s n.toNat (s.size + 1 - n.toNat) : Nat) else 0 else 0
def fcC (s : ByteArray) (n : Int) : Int := if validB s = true then if 0 ≤ n ∧ n ≤ s.size then 0 else 2 else 1
theorem fc_bad {s : ByteArray} (n : Int) (h : validB s = false) : fcV s n = 0 ∧ fcC s n = 1 := by simp [fcV, fcC, h]
theorem fc_out {s : ByteArray} {n : Int} (h : validB s = true) (h2 : ¬ (0 ≤ n ∧ n ≤ s.size)) : fcV s n = 0 ∧ fcC s n = 2 := by simp [fcV, fcC, h, h2]
theorem fc_in {s : ByteArray} {L : Nat} (h : validB s = true) (h2 : L ≤ s.size) : fcV s L = (fcN s L (s.size + 1 - L) : Nat) ∧ fcC s L = 0 := by
  have : 0 ≤ (L : Int) ∧ (L : Int) ≤ s.size := by omega
  simp [fcV, fcC, h, this]
open Go.Maps Go.WideMaps in
def kyAt (s : ByteArray) (L k : Nat) : Lit := .string (s.extract k (k + L)).data.toList
open Go.Maps Go.WideMaps in
def kys (s : ByteArray) (L k : Nat) : List Lit := (List.range k).map (kyAt s L)
open Go.Maps Go.WideMaps in
def kyM (s : ByteArray) (L k : Nat) : DataW Unit := setOf (.lit (.bool true)) (kys s L k)
open Go.Maps Go.WideMaps in
theorem kyM_succ (s : ByteArray) (L k : Nat) : kyM s L (k + 1) = (kyM s L k).put (kyAt s L k) (.lit (.bool true)) := by
  unfold kyM
  rw [kys, List.range_succ, List.map_append, List.map_singleton, setOf_snoc]
  rfl
open Go.Maps Go.WideMaps in
theorem kyM_zero (s : ByteArray) (L : Nat) : kyM s L 0 = .map [] := by simp [kyM, kys, setOf]
open Go.Maps Go.WideMaps in
theorem kys_key (s : ByteArray) (L k : Nat) : ∀ x ∈ kys s L k, WideAt.IsKeyLit x := by
  intro x hx
  simp only [kys, List.mem_map] at hx
  obtain ⟨t, _, rfl⟩ := hx
  simp [kyAt, WideAt.IsKeyLit]
theorem frA_any (s : ByteArray) (L i : Nat) : ∀ t, frA s L i t = !((kys s L t).any fun x => x.sameKey (kyAt s L i))
  | 0 => rfl
  | t + 1 => by
    show (frA s L i t && !(eqAt s L i t)) = _
    rw [frA_any s L i t, show kys s L (t + 1) = kys s L t ++ [kyAt s L t] by simp [kys, List.range_succ], List.any_append]
    simp [kyAt, Lit.sameKey, eqAt, ByteArray.toList_eq]
open Go.Maps Go.WideMaps in
theorem kyM_size (s : ByteArray) (L : Nat) : ∀ k, Maps.size (kyM s L k) = fcN s L k
  | 0 => by rw [kyM_zero]; rfl
  | k + 1 => by
    have hp := size_put (D := kyM s L k) (k := kyAt s L k) (tidy_setOf _ _ (kys_key s L k)) (.lit (.bool true))
    rw [kyM_succ, hp, kyM_size s L k]
    have h : Maps.has (kyM s L k) (kyAt s L k) = !(frA s L k k) := by
      rw [frA_any, Bool.not_not]
      exact has_setOf _ _ _ (kys_key s L k)
    rw [fcN, h]
    cases frA s L k k <;> rfl
open Go.Maps Go.WideMaps in
theorem lawStr : Keyed Try.prog 9 := string_keyed Try.underlying9
open Go.Maps Go.WideMaps in
theorem ky_ok {s : ByteArray} (hs : s.size ≤ 1048576) (L k : Nat) : keyOf Try.prog 9 (.string (s.extract k (k + L))) = some (kyAt s L k) := by
  refine keyOf_string_mk Try.underlying9 ?_
  rw [ByteArray.size_extract]
  unfold maxLen; omega
open Go.Maps Go.WideMaps in
theorem i_FactorCount (s : ByteArray) (n : Int) (w : World) (hs : s.size ≤ maxLen) : Calls Try.prog 49 #[.string s, .int .i64 n] w fun e w' => e = .returned (.tuple #[.int .i64 (fcV s n), .int .i64 (fcC s n)]) ∧ Below w.heap.size w w' := by
  have hs' : s.size ≤ 9223372036854775807 := by unfold maxLen at hs; omega
  have hmm := @run_makeMap Try.prog
  cases hv : validB s
  · have H := Lib.hid (fc_bad n hv)
    go_enter Try.func49, Try.ntmps49
    go_wp2_with (go_at_call 60; refine (i_ValidWord _ _ (by assumption)).mono ?_; rintro e w' ⟨rfl, rfl⟩)
    go_ret2
    exact ⟨ret_ii H.out.1.symm H.out.2.symm, Below.refl _ _⟩
  by_cases hr : 0 ≤ n ∧ n ≤ s.size
  · obtain ⟨L, rfl⟩ := Int.eq_ofNat_of_zero_le hr.1
    have hL : L ≤ s.size := by omega
    have hle : s.size ≤ 2000 := by simp [validB] at hv; exact hv.2
    have H := Lib.hid (fc_in hv hL)
    clear hr
    go_enter Try.func49, Try.ntmps49
    go_wp2_with (first | (go_at_call 60; refine (i_ValidWord _ _ (by assumption)).mono ?_; rintro e w' ⟨rfl, rfl⟩) | (go_at_call 64; refine (i_size _ _).mono ?_; rintro e w' ⟨rfl, rfl⟩) | (go_at_call 80; refine (i_within_r _ _ _ true (by simp; omega) _).mono ?_; rintro e w' ⟨rfl, rfl⟩))
    go_loopw [7] (fun i wr => ∃ k : Nat, k ≤ s.size + 1 - L ∧ i = .int .i64 k ∧ wr.ownsMap Try.prog 9 (plainElem Try.prog 4) w.heap.size k (kyM s L k) ∧ Below w.heap.size w wr) (fun i _ => s.size + 1 - L - (intOf i).toNat)
    case atStart => exact ⟨0, Nat.zero_le _, rfl, by rw [kyM_zero]; exact World.ownsMap_made _ _ _ _, (Below.refl _ _).alloc (Nat.le_refl _) _⟩
    case round =>
      obtain ⟨k, hk, rfl, hown, hnx⟩ := hrel
      have HK := Lib.hid (ky_ok (show s.size ≤ 1048576 by omega) L k)
      have HM := Lib.hid (kyM_succ s L k)
      have HZ := Lib.hid (kyM_size s L k)
      have HX := Lib.hid hnx
      have HO := Lib.hid hown
      clear hnx hown
      by_cases hlt : k + L ≤ s.size
      · go_wp2_with (first
          | (go_at_call 64; refine (i_size _ _).mono ?_; rintro e w' ⟨rfl, rfl⟩)
          | (at_mapUpdate; refine wpList_mapUpdate_own _ rfl _ _ _ 87 rfl 9 4 lawStr Try.underlying87 (plainElem (H := Unit) Try.prog 4) w.heap.size k _ rfl HO.out (by unfold maxLen; omega) _ _ _ rfl rfl HK.out _ [] (plainElem_bool Try.underlying4 true) ?_; intro w1 hown1 hgrow1))
        go_roundw
        case rel => exact ⟨k + 1, by omega, by go_num, HM.out.symm ▸ hown1, HX.out.grown hgrow1 HX.out.size (fun j hj => by cases hj; exact Nat.le_refl _)⟩
        case measure => first | (simp [intOf]; done) | (simp [intOf]; omega)
      · have ek : k = s.size + 1 - L := by omega
        have HF : Hid (fcV s L = (Maps.size (kyM s L k) : Nat) ∧ fcC s L = 0) := by rw [HZ.out, ek]; exact H.out
        clear ek
        go_wp2_with (first
          | (go_at_call 64; refine (i_size _ _).mono ?_; rintro e w' ⟨rfl, rfl⟩)
          | (at_len; refine wpList_len_own _ rfl _ 87 rfl 9 4 Try.underlying87 _ w.heap.size k _ rfl HO.out ?_))
        go_ret2
        exact ⟨ret_ii HF.out.1.symm HF.out.2.symm, HX.out⟩
  · have H := Lib.hid (fc_out hv hr)
    have hb : (decide (0 ≤ n) && decide (n ≤ s.size)) = false := by simpa using hr
    have HB := Lib.hid hb
    clear hb hr
    go_enter Try.func49, Try.ntmps49
    go_wp2_with (first | (go_at_call 60; refine (i_ValidWord _ _ (by assumption)).mono ?_; rintro e w' ⟨rfl, rfl⟩) | (go_at_call 64; refine (i_size _ _).mono ?_; rintro e w' ⟨rfl, rfl⟩) | (go_at_call 80; refine (i_within_r _ _ _ false HB.out _).mono ?_; rintro e w' ⟨rfl, rfl⟩))
    go_ret2
    exact ⟨ret_ii H.out.1.symm H.out.2.symm, Below.refl _ _⟩
end Go.Proofs.Ytdighfjoechbkaa

/- The automaton of a pattern: plain law; what fits. -/
import Derived.Test.YtimfbnjgodbgoaaKS
import Derived.Test.YtimfbnjgodbgoaaKF
namespace Go.Proofs.Ytimfbnjgodbgoaa
open Go.ChangeShapes Go.WideShapes Go.RowKit
set_option linter.unusedVariables false
set_option linter.unusedSimpArgs false
set_option maxHeartbeats 2000000
set_option maxRecDepth 100000
/-- the greatest number up to a bound of first letters of p with which w ends -/
def fitF (p w : ByteArray) : Nat → Nat
  | 0 => 0
  | n + 1 => if ((w.extract (w.size - (n + 1)) w.size).toList == (p.extract 0 (n + 1)).toList) = true then n + 1 else fitF p w n
theorem fitF_yes {p w : ByteArray} {n : Nat} (h : ((w.extract (w.size - (n + 1)) w.size).toList == (p.extract 0 (n + 1)).toList) = true) : fitF p w (n + 1) = n + 1 := by rw [fitF, if_pos h]
theorem fitF_no {p w : ByteArray} {n : Nat} (h : ((w.extract (w.size - (n + 1)) w.size).toList == (p.extract 0 (n + 1)).toList) = false) : fitF p w (n + 1) = fitF p w n := by rw [fitF, if_neg (by simp [h])]
theorem fitF_le (p w : ByteArray) : ∀ n, fitF p w n ≤ n
  | 0 => by simp [fitF]
  | n + 1 => by
    have := fitF_le p w n
    rw [fitF]; split <;> omega
theorem s_l04Fit (p w : ByteArray) (W : World) (hp : p.size ≤ 2000) (hw : w.size ≤ 2001) :
    Calls Try.prog 63 #[.string p, .string w] W fun e w' => e = .returned (.int .i64 (fitF p w (min p.size w.size))) ∧ Qt W w' := by
  have HMN := Lib.hid (fun W => s_l00Min (p.size : Int) (w.size : Int) W)
  have e : min (p.size : Int) (w.size : Int) = ((min p.size w.size : Nat) : Int) := by omega
  rw [e] at HMN
  have h1 : min p.size w.size ≤ p.size := by omega
  have h2 : min p.size w.size ≤ w.size := by omega
  clear e
  generalize min p.size w.size = m at *
  go_enter Try.func63, Try.ntmps63
  go_wp2_with fail
  refine (HMN.out _).mono ?_
  rintro e w1 ⟨rfl, rfl⟩
  go_wp2
  go_loopw [5] (fun o wr => Qt w1 wr ∧ ∃ k : Nat, k ≤ m ∧ o = .int .i64 k ∧ fitF p w k = fitF p w m) (fun o _ => (intOf o).toNat)
  case atStart => exact ⟨Qt.refl _, m, Nat.le_refl _, rfl, rfl⟩
  case round =>
    obtain ⟨hq, k, hk, rfl, hlt⟩ := hrel
    have HLT := Lib.hid hlt
    clear hlt
    by_cases hk0 : 0 < k
    · obtain ⟨j, hj⟩ : ∃ j, k = j + 1 := ⟨k - 1, by omega⟩
      have hij : (k : Int) - 1 = (j : Int) := by omega
      have HJ := Lib.hid hj
      have ew : IntKind.i64.wrap ((w.size : Int) - k) = (w.size : Int) - k := IntWalk.i64_in _ (by omega)
      cases heq : ((w.extract (w.size - k) w.size).toList == (p.extract 0 k).toList)
      · have HN : Hid (fitF p w k = fitF p w j) := by show _ = _; rw [hj]; rw [hj] at heq; exact fitF_no heq
        clear hj
        go_wp2
        go_big_quiet (fail)
        go_wp2
        go_roundw
        case rel => exact ⟨hq.drewN _, j, by have := HJ.out; omega, by first | rw [hij] | rfl | (congr 1; omega), by rw [← HN.out, HLT.out]⟩
        case measure => have := HJ.out; first | (simp [intOf]; done) | (simp [intOf]; omega)
      · have HN : Hid (fitF p w k = k) := by show _ = _; rw [hj]; rw [hj] at heq; exact fitF_yes heq
        clear hj
        go_wp2
        go_big_quiet (fail)
        go_wp2
        go_ret
        exact ⟨by rw [← HLT.out, HN.out]; rfl, hq.drewN _⟩
    · have hk1 : k = 0 := by omega
      subst hk1
      go_wp2
      go_ret
      exact ⟨by rw [← HLT.out]; rfl, hq⟩
/-- the codes of patterns -/
def paC (p : ByteArray) : Int := if validB p = false then 1 else if p.size = 0 then 4 else if 20 < p.size then 3 else 0
theorem i_patternCode (p : ByteArray) (w : World) (hv : validB p = true) :
    Calls Try.prog 44 #[.string p] w fun e w' => e = .returned (.int .i64 (paC p)) ∧ w = w' := by
  by_cases h0 : p.size = 0
  · have e : paC p = 4 := by simp [paC, hv, h0]
    obtain rfl := size_zero h0
    rw [e]
    clear hv h0 e
    go_enter Try.func44, Try.ntmps44
    go_wp2
    go_ret
    exact ⟨rfl, rfl⟩
  · have hne := neq_empty h0
    have hne2 := not_empty h0
    by_cases h1 : 20 < p.size
    · have e : paC p = 3 := by simp [paC, hv, h0, h1]
      rw [e]
      have hin : (20 : Int) < p.size := by omega
      clear hv h0 e
      go_enter Try.func44, Try.ntmps44
      go_wp2
      go_ret
      exact ⟨rfl, rfl⟩
    · have e : paC p = 0 := by simp [paC, hv, h0, h1]
      rw [e]
      have hin : ¬ (20 : Int) < p.size := by omega
      clear hv h0 e
      go_enter Try.func44, Try.ntmps44
      go_wp2
      go_ret
      exact ⟨rfl, rfl⟩
/-- the states behind the letters at a state; the states' rows -/
def paX (p : ByteArray) (s c : Nat) : ByteArray := p.extract 0 s ++ ⟨#[97 + UInt8.ofNat c]⟩
def paE (p : ByteArray) (s c : Nat) : Int := (fitF p (paX p s c) (min p.size (s + 1)) : Int)
def paR (p : ByteArray) (s : Nat) : Nat → List Int
  | 0 => []
  | c + 1 => paR p s c ++ [paE p s c]
def paT (p : ByteArray) : Nat → Tb
  | 0 => []
  | s + 1 => paT p s ++ [paR p s 4]
theorem paR_len (p : ByteArray) (s : Nat) : ∀ c, (paR p s c).length = c
  | 0 => rfl
  | c + 1 => by rw [paR, List.length_append, paR_len p s c]; rfl
theorem paT_len (p : ByteArray) : ∀ s, (paT p s).length = s
  | 0 => rfl
  | s + 1 => by rw [paT, List.length_append, paT_len p s]; rfl
theorem paX_size (p : ByteArray) (s c : Nat) (h : s ≤ p.size) : (paX p s c).size = s + 1 := by
  unfold paX; rw [ByteArray.size_append, ByteArray.size_extract]; show min s p.size - 0 + 1 = s + 1; omega
def paA (p : ByteArray) : Au := ⟨(p.size : Int) + 1, 0, [(p.size : Int)], paT p (p.size + 1)⟩
/-- what the search down stops at -/
theorem suf_eq (p x : ByteArray) (n : Nat) (hn : n ≤ x.size) (hp : n ≤ p.size) : Lib.hasSuffix x.data.toList (p.extract 0 n).data.toList = ((x.extract (x.size - n) x.size).toList == (p.extract 0 n).toList) := by
  have hx : x.data.toList.length = x.size := by rw [Array.length_toList]; rfl
  have hpl : p.data.toList.length = p.size := by rw [Array.length_toList]; rfl
  have e1 : (p.extract 0 n).data.toList = p.data.toList.take n := by rw [Lib.extract_data, List.drop_zero, Nat.sub_zero]
  have e2 : (x.extract (x.size - n) x.size).data.toList = x.data.toList.drop (x.size - n) := by
    rw [Lib.extract_data, List.take_of_length_le]
    rw [List.length_drop, hx]; omega
  have hl : (p.data.toList.take n).length = n := by rw [List.length_take, hpl]; omega
  rw [ByteArray.toList_eq, ByteArray.toList_eq, e1, e2]
  rw [Bool.eq_iff_iff, beq_iff_eq]
  unfold Lib.hasSuffix
  rw [List.isSuffixOf_iff_suffix, List.suffix_iff_eq_drop, hl, hx]
  exact eq_comm
theorem suf_zero (p x : ByteArray) : Lib.hasSuffix x.data.toList (p.extract 0 0).data.toList = true := by
  have e1 : (p.extract 0 0).data.toList = [] := by rw [Lib.extract_data, Nat.sub_zero, List.take_zero]
  rw [e1, Lib.hasSuffix, List.isSuffixOf_iff_suffix]
  exact List.nil_suffix
end Go.Proofs.Ytimfbnjgodbgoaa

/- OccurrencesOf and PeriodsOf, of the program and of the reference, and their laws. -/
import Derived.Test.YtimfbnjgodbgoaaY1
import Derived.Test.YtimfbnjgodbgoaaB1
namespace Go.Proofs.Ytimfbnjgodbgoaa
open Go.ChangeShapes Go.WideShapes Go.RowKit
set_option linter.unusedVariables false
set_option linter.unusedSimpArgs false
set_option maxHeartbeats 2000000
set_option maxRecDepth 100000
/-- the first places at which p begins -/
def ocTo (p s : ByteArray) : Nat → List Int
  | 0 => []
  | k + 1 => if ((s.extract k (k + p.size)).toList == p.toList) = true then ocTo p s k ++ [(k : Int)] else ocTo p s k
theorem ocTo_yes (p s : ByteArray) (k : Nat) (h : ((s.extract k (k + p.size)).toList == p.toList) = true) : ocTo p s (k + 1) = ocTo p s k ++ [(k : Int)] := by
  rw [ocTo, if_pos h]
theorem ocTo_no (p s : ByteArray) (k : Nat) (h : ((s.extract k (k + p.size)).toList == p.toList) = false) : ocTo p s (k + 1) = ocTo p s k := by
  rw [ocTo, if_neg (by rw [h]; simp)]
theorem ocTo_len (p s : ByteArray) : ∀ k, (ocTo p s k).length ≤ k
  | 0 => by simp [ocTo]
  | k + 1 => by
    have := ocTo_len p s k
    rw [ocTo]
    split <;> simp <;> omega
theorem s_l01Found (p s : ByteArray) (w : World) (hp : p.size ≤ 2000) (hs : s.size ≤ 2000) : Calls Try.prog 39 #[.string p, .string s] w fun e w' => ∃ v, e = .returned v ∧ Own64 w w' v (ocTo p s (s.size + 1 - p.size)) := by
  go_enter Try.func39, Try.ntmps39
  go_wp2
  go_loopw [5, 6] (fun v i wr => Below w.heap.size w wr ∧ ∃ k : Nat, k ≤ s.size + 1 - p.size ∧ i = .int .i64 k ∧ wr.ownsRow w.heap.size 2 1 v (ocTo p s k).length ((ocTo p s k).map (Value.int .i64))) (fun _ i _ => s.size + 1 - p.size - (intOf i).toNat)
  case atStart => exact ⟨(Below.refl _ _).alloc (Nat.le_refl _) _, 0, by omega, rfl, World.ownsRow_made w #[] 0 (Nat.le_refl _) (by decide) (by simp)⟩
  case round =>
    obtain ⟨hb, k, hk, rfl, hown⟩ := hrel
    have hsz := hb.size
    have hlen := ocTo_len p s k
    by_cases hlt : k + p.size ≤ s.size
    · cases ht : ((s.extract k (k + p.size)).toList == p.toList)
      · have HN := Lib.hid (ocTo_no p s k ht)
        go_wp2
        go_roundw
        case rel => exact ⟨hb, k + 1, by omega, by go_num, by rw [HN.out]; exact hown⟩
        case measure => first | (simp [intOf]; done) | (simp [intOf]; omega)
      · have HN := Lib.hid (ocTo_yes p s k ht)
        go_wp2_with (at_builtin; refine app_i64 rfl (.tmp 26) (.tmp 28) rfl w.heap.size _ _ _ _ _ _ rfl hown rfl (by simp) (by omega) (by simpa using hsz) ?_; intro v' w1 ho1 hb1 hsz1)
        go_roundw
        case rel => exact ⟨hb.trans hb1, k + 1, by omega, by go_num, owns_snoc ho1 HN.out⟩
        case measure => first | (simp [intOf]; done) | (simp [intOf]; omega)
    · have ek : k = s.size + 1 - p.size := by omega
      have HX : Hid (ocTo p s k = ocTo p s (s.size + 1 - p.size)) := by show _ = _; rw [ek]
      clear ek
      go_wp2
      go_ret
      exact ⟨_, rfl, by rw [← HX.out]; exact hown, hb⟩
def ocL (p s : ByteArray) : List Int := if (validB p && validB s) = true ∧ p.toList.isEmpty = false then ocTo p s (s.size + 1 - p.size) else []
def ocC (p s : ByteArray) : Int := if (validB p && validB s) = true then if p.toList.isEmpty = true then 4 else 0 else 1
theorem toList_size (p : ByteArray) : p.toList.length = p.size := by rw [ByteArray.toList_eq]; simp
theorem s_OccurrencesOf (p s : ByteArray) (w : World) (hp : p.size ≤ maxLen) (hs : s.size ≤ maxLen) : Calls Try.prog 16 #[.string p, .string s] w fun e w' => ∃ v, e = .returned (.tuple #[v, .int .i64 (ocC p s)]) ∧ Own64 w w' v (ocL p s) := by
  cases h1 : validB p <;> cases h2 : validB s
  case true.true =>
    have hle := validB_le h1
    have hle2 := validB_le h2
    by_cases he : p.size = 0
    · have HC : Hid (ocC p s = 4 ∧ ocL p s = []) := by
        have : p.toList = [] := List.eq_nil_of_length_eq_zero (by rw [toList_size]; exact he)
        refine ⟨?_, ?_⟩ <;> simp [ocC, ocL, h1, h2, this]
      have hb : ((p.size : Int) == 0) = true := by simp [he]
      clear he
      go_enter Try.func16, Try.ntmps16
      go_wp2_with (go_at_call 38; refine (s_l01Ok _ _ (by assumption)).mono ?_; rintro e w' ⟨rfl, rfl⟩)
      go_ret2
      exact ⟨_, by rw [HC.out.1]; rfl, by rw [HC.out.2]; exact own64_empty _⟩
    · have HC : Hid (ocC p s = 0 ∧ ocL p s = ocTo p s (s.size + 1 - p.size)) := by
        have : p.toList.isEmpty = false := by
          cases h : p.toList with
          | nil => have := toList_size p; rw [h] at this; exact absurd this.symm he
          | cons a l => rfl
        refine ⟨?_, ?_⟩ <;> simp [ocC, ocL, h1, h2, this]
      have hb : ((p.size : Int) == 0) = false := by rw [beq_eq_false_iff_ne]; omega
      go_enter Try.func16, Try.ntmps16
      go_wp2_with (first | (go_at_call 38; refine (s_l01Ok _ _ (by assumption)).mono ?_; rintro e w' ⟨rfl, rfl⟩) | (go_at_call 39; refine (s_l01Found _ _ _ (by omega) (by omega)).mono ?_; rintro e w' ⟨v, rfl, ho⟩))
      go_ret2
      exact ⟨_, by rw [HC.out.1]; rfl, by rw [HC.out.2]; exact ho⟩
  all_goals
    have HC : Hid (ocC p s = 1 ∧ ocL p s = []) := by refine ⟨?_, ?_⟩ <;> simp [ocC, ocL, h1, h2]
    go_enter Try.func16, Try.ntmps16
    go_wp2_with (go_at_call 38; refine (s_l01Ok _ _ (by assumption)).mono ?_; rintro e w' ⟨rfl, rfl⟩)
    go_ret2
    exact ⟨_, by rw [HC.out.1]; rfl, by rw [HC.out.2]; exact own64_empty _⟩
end Go.Proofs.Ytimfbnjgodbgoaa

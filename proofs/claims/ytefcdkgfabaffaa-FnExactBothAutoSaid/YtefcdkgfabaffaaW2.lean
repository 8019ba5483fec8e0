/- Walks: l01Ok, ValidWord of the reference, within, size; the length of the common beginning of two words. -/
import Derived.Test.YtefcdkgfabaffaaW1
import Derived.Deep.QuietTactic
import Derived.BigQuiet
import Derived.WalkSmall
namespace Go.Proofs.Ytefcdkgfabaffaa
open Go.ChangeShapes Go.WideShapes Go.RowKit
set_option linter.unusedVariables false
set_option maxHeartbeats 2000000
set_option maxRecDepth 100000

theorem allL_le (s : ByteArray) (h : s.size ≤ 2000) : validB s = allL s.data.toList := by simp [validB, h]
theorem validB_gt (s : ByteArray) (h : 2000 < s.size) : validB s = false := by
  have : ¬ s.size ≤ 2000 := by omega
  simp [validB, this]

theorem s_l01Ok (s : ByteArray) (w : World) (hs : s.size ≤ maxLen) : Calls Try.prog 91 #[.string s] w fun e w' => e = .returned (.bool (validB s)) ∧ w = w' := by
  unfold maxLen at hs
  by_cases hbig : 2000 < s.size
  · have HB := Lib.hid (validB_gt s hbig)
    go_enter Try.func91, Try.ntmps91
    go_wp2
    go_ret
    exact ⟨ret_bool HB.out.symm, rfl⟩
  have hle : s.size ≤ 2000 := by omega
  have HL := Lib.hid (allL_le s hle)
  go_enter Try.func91, Try.ntmps91
  go_wp2
  go_loop [2, 3] (fun _ i => ∃ k : Nat, k ≤ s.size ∧ i = .int .i64 k ∧ allL (s.data.toList.take k) = true) (fun _ i => s.size - (intOf i).toNat)
  case atStart => exact ⟨0, Nat.zero_le _, rfl, rfl⟩
  case round =>
    obtain ⟨k, hk, rfl, hall⟩ := hrel
    by_cases hlt : k < s.size
    · have hsn := allL_snoc s k hlt
      have hno := allL_of_not s k hlt
      have HA := Lib.hid hall
      have HS := Lib.hid hsn
      have HN := Lib.hid hno
      clear hall hsn hno
      cases hb : letB (s[k].toNat : Int)
      · have h2 := letB_f hb
        have HV := Lib.hid (HL.out.trans (HN.out hb))
        clear hb
        rcases h2 with h2 | h2
        · go_wp2
          go_ret
          exact ⟨ret_bool HV.out.symm, rfl⟩
        · have h3 : ¬ (s[k].toNat : Int) < 97 := by omega
          go_wp2
          go_ret
          exact ⟨ret_bool HV.out.symm, rfl⟩
      · have h2 := letB_t hb
        have HB := Lib.hid hb
        clear hb
        obtain ⟨h2a, h2b⟩ := h2
        go_wp2
        go_round
        case rel => exact ⟨k + 1, by omega, by go_num, by rw [HS.out, HA.out, HB.out]; rfl⟩
        case measure => simp [intOf]; omega
    · have e : k = s.size := by omega
      subst e
      have HF := Lib.hid (HL.out.trans (allL_all s hall))
      clear hall
      go_wp2
      go_ret
      exact ⟨ret_bool HF.out.symm, rfl⟩
theorem s_l00In (n a b : Int) (w : World) : Calls Try.prog 112 #[.int .i64 n, .int .i64 a, .int .i64 b] w fun e w' => e = .returned (.bool (decide (a ≤ n) && decide (n ≤ b))) ∧ w = w' := by
  by_cases h1 : a ≤ n
  all_goals
    go_enter Try.func112, Try.ntmps112
    go_wp2
    go_ret
    exact ⟨ret_bool (by simp; omega), rfl⟩

theorem s_l00In_r (n a b : Int) (r : Bool) (hr : (decide (a ≤ n) && decide (n ≤ b)) = r) (w : World) : Calls Try.prog 112 #[.int .i64 n, .int .i64 a, .int .i64 b] w fun e w' => e = .returned (.bool r) ∧ w = w' := by
  subst hr; exact s_l00In n a b w
theorem i_within (n a b : Int) (w : World) : Calls Try.prog 72 #[.int .i64 n, .int .i64 a, .int .i64 b] w fun e w' => e = .returned (.bool (decide (a ≤ n) && decide (n ≤ b))) ∧ w = w' := by
  by_cases h1 : a ≤ n
  all_goals
    go_enter Try.func72, Try.ntmps72
    go_wp2
    go_ret
    exact ⟨ret_bool (by simp; omega), rfl⟩
theorem i_within_r (n a b : Int) (r : Bool) (hr : (decide (a ≤ n) && decide (n ≤ b)) = r) (w : World) : Calls Try.prog 72 #[.int .i64 n, .int .i64 a, .int .i64 b] w fun e w' => e = .returned (.bool r) ∧ w = w' := by
  subst hr; exact i_within n a b w
theorem i_size (s : ByteArray) (w : World) : Calls Try.prog 110 #[.string s] w fun e w' => e = .returned (.int .i64 s.size) ∧ w = w' := by
  go_enter Try.func110, Try.ntmps110
  go_wp2
  go_ret
  exact ⟨rfl, rfl⟩

/-- nothing but draws -/
def Qt (w w' : World) : Prop := ∃ n, w' = w.drewN n
theorem Qt.refl (w : World) : Qt w w := ⟨0, rfl⟩

theorem Qt.drewN {w w' : World} (h : Qt w w') (n : Nat) : Qt w (w'.drewN n) := by
  obtain ⟨m, rfl⟩ := h
  exact ⟨m + n, by simp⟩
theorem Qt.trans {a b c : World} (h : Qt a b) (k : Qt b c) : Qt a c := by
  obtain ⟨n, rfl⟩ := k
  exact h.drewN n
theorem Qt.below {w w' : World} (h : Qt w w') (B : Nat) : Below B w w' := by
  obtain ⟨m, rfl⟩ := h
  exact below_drewN (Below.refl _ _) m

/-- the length of the common beginning of two words -/
def cst : List UInt8 → List UInt8 → Nat
  | a :: u, b :: w => if a = b then cst u w + 1 else 0
  | _, _ => 0
theorem cst_eq : ∀ (u v : List UInt8) (k : Nat), k ≤ u.length → k ≤ v.length → u.take k = v.take k → (k = u.length ∨ k = v.length ∨ u[k]? ≠ v[k]?) → cst u v = k
  | [], v, k, h1, _, _, _ => by
    have : k = 0 := by simpa using h1
    subst this
    simp [cst]
  | a :: u, [], k, _, h2, _, _ => by
    have : k = 0 := by simpa using h2
    subst this
    simp [cst]
  | a :: u, b :: v, 0, _, _, _, h4 => by
    simp at h4
    simp [cst, h4]
  | a :: u, b :: v, k + 1, h1, h2, h3, h4 => by
    simp at h1 h2 h3 h4
    have ih := cst_eq u v k h1 h2 h3.2 (by
      rcases h4 with h4 | h4 | h4
      · exact .inl h4
      · exact .inr (.inl h4)
      · exact .inr (.inr h4))
    simp [cst, h3.1, ih]
theorem byte_ne {a b : UInt8} (h : ¬ a = b) : ((a.toNat : Int) == (b.toNat : Int)) = false := by
  simp only [beq_eq_false_iff_ne]
  intro e
  exact h (UInt8.toNat_inj.1 (by omega))
theorem get_opt (s : ByteArray) (k : Nat) (h : k < s.size) : s.data.toList[k]? = some s[k] := by
  rw [List.getElem?_eq_getElem (by simpa using h)]; rfl

end Go.Proofs.Ytefcdkgfabaffaa

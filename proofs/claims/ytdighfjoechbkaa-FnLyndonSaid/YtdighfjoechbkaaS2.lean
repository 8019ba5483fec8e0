/- LyndonFactors, of the program and of the reference, and its law. -/
import Derived.Test.YtdighfjoechbkaaS1
import Derived.Test.YtdighfjoechbkaaD2
namespace Go.Proofs.Ytdighfjoechbkaa
open Go.ChangeShapes Go.WideShapes Go.RowKit
set_option linter.unusedVariables false
set_option linter.unusedSimpArgs false
set_option maxHeartbeats 4000000
set_option maxRecDepth 100000
theorem info_str : (Try.prog.info? 9).map (fun i => (i.zero, i.size, i.bytes)) = some (some (.string ⟨#[]⟩), 1, 16) := by kernel_rfl
/-- a slice of strings of the call's own -/
def OwnS (w w' : World) (v : Value) (l : List ByteArray) : Prop := w'.ownsRow w.heap.size 9 1 v l.length (l.map Value.string) ∧ Below w.heap.size w w'
theorem ownS_nil {w w' : World} (hb : Below w.heap.size w w') : OwnS w w' (.slice none 0 0) [] := ⟨World.ownsRow_nil _ _ _ _, hb⟩
theorem ownS_empty (w : World) : OwnS w (w.alloc (.cells #[] 9)) (.slice (some ⟨w.heap.size, 0, none⟩) 0 0) [] :=
  ⟨World.ownsRow_made w #[] 0 (Nat.le_refl _) (by decide) (by simp), (Below.refl _ _).alloc (Nat.le_refl _) _⟩
/-- a byte as a number -/
def bt (s : ByteArray) (k : Nat) : Nat := (s.data.toList.getD k 0).toNat
theorem bt_eq (s : ByteArray) (k : Nat) (h : k < s.size) : bt s k = s[k].toNat := by
  unfold bt
  rw [List.getD, List.getElem?_eq_getElem (by simpa using h)]
  rfl
/-- Duval: the inner loop -/
def dvIn (s : ByteArray) (i : Nat) : Nat → Nat → Nat → Nat × Nat
  | 0, j, k => (j, k)
  | f + 1, j, k => if j < s.size ∧ bt s k ≤ bt s j then dvIn s i f (j + 1) (if bt s k < bt s j then i else k + 1) else (j, k)
/-- Duval: factors are told -/
def dvM (s : ByteArray) (j k : Nat) (more : Nat → List ByteArray) : Nat → Nat → List ByteArray
  | 0, i => more i
  | g + 1, i => if i ≤ k then s.extract i (i + j - k) :: dvM s j k more g (i + (j - k)) else more i
/-- Duval: the outer loop -/
def dvO (s : ByteArray) : Nat → Nat → List ByteArray
  | 0, _ => []
  | f + 1, i => if i < s.size then dvM s (dvIn s i s.size (i + 1) i).1 (dvIn s i s.size (i + 1) i).2 (dvO s f) s.size i else []
def dvL (s : ByteArray) : List ByteArray := dvO s s.size 0
theorem dvO_step (s : ByteArray) (f i : Nat) (h : i < s.size) : dvO s (f + 1) i = dvM s (dvIn s i s.size (i + 1) i).1 (dvIn s i s.size (i + 1) i).2 (dvO s f) s.size i := by
  rw [dvO, if_pos h]
theorem dvO_stop (s : ByteArray) (f i : Nat) (h : ¬ i < s.size) : dvO s f i = [] := by
  cases f with
  | zero => rfl
  | succ f => rw [dvO, if_neg h]
theorem dvIn_step (s : ByteArray) (i f j k : Nat) (h : j < s.size) (h2 : bt s k ≤ bt s j) : dvIn s i (f + 1) j k = dvIn s i f (j + 1) (if bt s k < bt s j then i else k + 1) := by
  rw [dvIn, if_pos ⟨h, h2⟩]
theorem dvIn_stop (s : ByteArray) (i f j k : Nat) (h : ¬ (j < s.size ∧ bt s k ≤ bt s j)) : dvIn s i f j k = (j, k) := by
  cases f with
  | zero => rfl
  | succ f => rw [dvIn, if_neg h]
theorem dvM_step (s : ByteArray) (j k : Nat) (more : Nat → List ByteArray) (g i : Nat) (h : i ≤ k) : dvM s j k more (g + 1) i = s.extract i (i + j - k) :: dvM s j k more g (i + (j - k)) := by
  rw [dvM, if_pos h]
theorem dvM_stop (s : ByteArray) (j k : Nat) (more : Nat → List ByteArray) (g i : Nat) (h : ¬ i ≤ k) : dvM s j k more g i = more i := by
  cases g with
  | zero => rfl
  | succ g => rw [dvM, if_neg h]
theorem i_LyndonFactors_ok (s : ByteArray) (w : World) (h1 : validB s = true) : Calls Try.prog 28 #[.string s] w fun e w' => ∃ v, e = .returned (.tuple #[v, .int .i64 0]) ∧ OwnS w w' v (dvL s) := by
  have hle := validB_le h1
  have hs : s.size ≤ maxLen := by unfold maxLen; omega
  have HL0 : Hid (dvL s = dvO s s.size 0) := rfl
  go_enter Try.func28, Try.ntmps28
  go_wp2_with (go_at_call 60; refine (i_ValidWord _ _ (by assumption)).mono ?_; rintro e w' ⟨rfl, rfl⟩)
  go_loopw [4, 5, 6, 7] (fun v i _ _ wr => Below w.heap.size w wr ∧ ∃ (k f : Nat) (out : List ByteArray), k ≤ s.size ∧ s.size - k ≤ f ∧ i = .int .i64 k ∧ wr.ownsRow w.heap.size 9 1 v out.length (out.map Value.string) ∧ out.length ≤ k ∧ out ++ dvO s f k = dvL s) (fun _ i _ _ _ => s.size - (intOf i).toNat)
  case atStart => exact ⟨(Below.refl _ _).alloc (Nat.le_refl _) _, 0, s.size, [], by omega, by omega, rfl, World.ownsRow_made w #[] 0 (Nat.le_refl _) (by decide) (by simp), by simp, by rw [HL0.out]; rfl⟩
  case round =>
    obtain ⟨hb, i, f, out, hi, hf, rfl, hown, hol, heq⟩ := hrel
    have HE := Lib.hid heq
    have HB := Lib.hid hb
    have HO := Lib.hid hown
    clear heq hb hown
    by_cases hlt : i < s.size
    · obtain ⟨f', hf'⟩ : ∃ f', f = f' + 1 := ⟨f - 1, by omega⟩
      subst hf'
      have HM := Lib.hid (dvO_step s f' i hlt)
      obtain ⟨wo, rfl⟩ : ∃ wo : World, wo = wr := ⟨_, rfl⟩
      go_wp2
      go_loopw [6, 7] (fun j k wr => Qt wo wr ∧ ∃ (b a g : Nat), j = .int .i64 b ∧ k = .int .i64 a ∧ i ≤ a ∧ a < b ∧ b ≤ s.size ∧ s.size - b ≤ g ∧ dvIn s i g b a = dvIn s i s.size (i + 1) i) (fun j _ _ => s.size - (intOf j).toNat)
      case atStart => exact ⟨Qt.refl _, i + 1, i, s.size, by go_num, rfl, by omega, by omega, by omega, by omega, rfl⟩
      case round =>
        obtain ⟨hq, b, a, g, rfl, rfl, hia, hab, hbn, hg, hdv⟩ := hrel
        have HQ := Lib.hid hq
        have HD := Lib.hid hdv
        clear hq hdv
        by_cases hgo : b < s.size ∧ bt s a ≤ bt s b
        · obtain ⟨hbl, hle2⟩ := hgo
          have hal : a < s.size := by omega
          have ea := bt_eq s a hal
          have eb := bt_eq s b hbl
          obtain ⟨g', hg'⟩ : ∃ g', g = g' + 1 := ⟨g - 1, by omega⟩
          subst hg'
          have HS := Lib.hid (dvIn_step s i g' b a hbl hle2)
          rw [ea, eb] at hle2
          by_cases hless : bt s a < bt s b
          · rw [if_pos hless] at HS
            rw [ea, eb] at hless
            clear ea eb
            go_wp2
            go_quiet (fail)
            go_wp2
            go_quiet (fail)
            go_wp2
            go_roundw
            case rel => exact ⟨HQ.out.drewN _, b + 1, i, g', by go_num, rfl, by omega, by omega, by omega, by omega, by rw [← HS.out]; exact HD.out⟩
            case measure => first | (simp [intOf]; done) | (simp [intOf]; omega)
          · rw [if_neg hless] at HS
            rw [ea, eb] at hless
            clear ea eb
            go_wp2
            go_quiet (fail)
            go_wp2
            go_quiet (fail)
            go_wp2
            go_roundw
            case rel => exact ⟨HQ.out.drewN _, b + 1, a + 1, g', by go_num, by go_num, by omega, by omega, by omega, by omega, by rw [← HS.out]; exact HD.out⟩
            case measure => first | (simp [intOf]; done) | (simp [intOf]; omega)
        · have HS := Lib.hid (dvIn_stop s i g b a hgo)
          have HP : Hid (dvIn s i s.size (i + 1) i = (b, a)) := by show _ = _; rw [← HD.out, HS.out]
          have HE2 : Hid (out ++ dvM s b a (dvO s f') s.size i = dvL s) := by
            show _ = _
            rw [← HE.out, HM.out, HP.out]
          clear HS HD HM HE HP
          obtain ⟨w2, hw2, hq2⟩ : ∃ w2, w2 = wr ∧ Qt wo w2 := ⟨wr, rfl, HQ.out⟩
          by_cases hbl : b < s.size
          case' pos =>
            have hal : a < s.size := by omega
            have ea := bt_eq s a hal
            have eb := bt_eq s b hbl
            have hnle : ¬ (s[a].toNat ≤ s[b].toNat) := by rw [← ea, ← eb]; exact fun h => hgo ⟨hbl, h⟩
            clear ea eb hgo
          case' neg => clear hgo
          all_goals
            clear hw2 hq2 w2
            go_wp2
            go_quiet (fail)
            go_wp2
            go_loopw [4, 5] (fun v x wr => Below w.heap.size w wr ∧ ∃ (c g : Nat) (out : List ByteArray), c ≤ b ∧ i ≤ c ∧ a + 1 - c ≤ g ∧ x = .int .i64 c ∧ wr.ownsRow w.heap.size 9 1 v out.length (out.map Value.string) ∧ out.length ≤ c ∧ out ++ dvM s b a (dvO s f') g c = dvL s) (fun _ x _ => a + 1 - (intOf x).toNat)
            case atStart => exact ⟨HB.out.trans ((HQ.out.drewN _).below _), i, s.size, out, by omega, by omega, by omega, rfl, owns_qt HO.out (HQ.out.drewN _), hol, HE2.out⟩
            case round =>
              obtain ⟨hb2, c, g2, out2, hcb, hic, hg2, rfl, hown2, hol2, heq2⟩ := hrel
              have hsz2 := hb2.size
              have HE3 := Lib.hid heq2
              clear heq2
              by_cases hca : c ≤ a
              · obtain ⟨g3, hg3⟩ : ∃ g3, g2 = g3 + 1 := ⟨g2 - 1, by omega⟩
                subst hg3
                have HS := Lib.hid (dvM_step s b a (dvO s f') g3 c hca)
                have e1 : ((c : Int) + b - a) = ((c + b - a : Nat) : Int) := by omega
                have e2 : ((c : Int) + (b - a)) = ((c + (b - a) : Nat) : Int) := by omega
                have e3 : c + b - a ≤ s.size := by omega
                have E2 := Lib.hid e2
                clear e2
                have hcc : c ≤ c + b - a := by omega
                generalize hz : c + b - a = z at *
                have HZ := Lib.hid hz
                clear hz
                go_wp2_with (at_builtin; refine app2 rfl (.tmp 47) (.tmp 56) 32 rfl w.heap.size 9 (.string ⟨#[]⟩) 1 16 Try.underlying32 info_str rfl (by decide) _ _ _ _ _ rfl hown2 [.string (s.extract c z)] rfl (by simp [Value.oneCell']) rfl (by simp) (by omega) (by decide) (by simpa using hsz2) ?_; intro v' w3 ho3 hg3' hk3)
                go_roundw
                case rel =>
                  have := HZ.out
                  exact ⟨hb2.trans (below_of_grown hg3' hsz2 (fun t ht => (hown2.lt t ht).1)), c + (b - a), g3, out2 ++ [s.extract c z], by omega, by omega, by omega, by rw [← E2.out], by simpa using ho3, by simp; omega, by rw [List.append_assoc, List.singleton_append, ← HS.out]; exact HE3.out⟩
                case measure => have := HZ.out; first | (simp [intOf]; done) | (simp [intOf]; omega)
              · have HS := Lib.hid (dvM_stop s b a (dvO s f') g2 c hca)
                go_wp2
                go_roundw
                case rel => exact ⟨hb2, c, f', out2, by omega, by omega, rfl, hown2, hol2, by rw [← HS.out]; exact HE3.out⟩
                case measure => first | (simp [intOf]; done) | (simp [intOf]; omega)
    · have HS := Lib.hid (dvO_stop s f i hlt)
      have HF : Hid (out = dvL s) := by
        show _ = _
        have := HE.out
        rw [HS.out, List.append_nil] at this
        exact this
      go_wp2
      go_ret2
      exact ⟨_, rfl, by rw [← HF.out]; exact HO.out, HB.out⟩
theorem s_LyndonFactors_ok (s : ByteArray) (w : World) (h1 : validB s = true) : Calls Try.prog 27 #[.string s] w fun e w' => ∃ v, e = .returned (.tuple #[v, .int .i64 0]) ∧ OwnS w w' v (dvL s) := by
  have hle := validB_le h1
  have hs : s.size ≤ maxLen := by unfold maxLen; omega
  have HL0 : Hid (dvL s = dvO s s.size 0) := rfl
  go_enter Try.func27, Try.ntmps27
  go_wp2_with (go_at_call 58; refine (s_l01Ok _ _ (by assumption)).mono ?_; rintro e w' ⟨rfl, rfl⟩)
  go_loopw [4, 5, 6, 7] (fun v i _ _ wr => Below w.heap.size w wr ∧ ∃ (k f : Nat) (out : List ByteArray), k ≤ s.size ∧ s.size - k ≤ f ∧ i = .int .i64 k ∧ wr.ownsRow w.heap.size 9 1 v out.length (out.map Value.string) ∧ out.length ≤ k ∧ out ++ dvO s f k = dvL s) (fun _ i _ _ _ => s.size - (intOf i).toNat)
  case atStart => exact ⟨(Below.refl _ _).alloc (Nat.le_refl _) _, 0, s.size, [], by omega, by omega, rfl, World.ownsRow_made w #[] 0 (Nat.le_refl _) (by decide) (by simp), by simp, by rw [HL0.out]; rfl⟩
  case round =>
    obtain ⟨hb, i, f, out, hi, hf, rfl, hown, hol, heq⟩ := hrel
    have HE := Lib.hid heq
    have HB := Lib.hid hb
    have HO := Lib.hid hown
    clear heq hb hown
    by_cases hlt : i < s.size
    · obtain ⟨f', hf'⟩ : ∃ f', f = f' + 1 := ⟨f - 1, by omega⟩
      subst hf'
      have HM := Lib.hid (dvO_step s f' i hlt)
      obtain ⟨wo, rfl⟩ : ∃ wo : World, wo = wr := ⟨_, rfl⟩
      go_wp2
      go_loopw [6, 7] (fun j k wr => Qt wo wr ∧ ∃ (b a g : Nat), j = .int .i64 b ∧ k = .int .i64 a ∧ i ≤ a ∧ a < b ∧ b ≤ s.size ∧ s.size - b ≤ g ∧ dvIn s i g b a = dvIn s i s.size (i + 1) i) (fun j _ _ => s.size - (intOf j).toNat)
      case atStart => exact ⟨Qt.refl _, i + 1, i, s.size, by go_num, rfl, by omega, by omega, by omega, by omega, rfl⟩
      case round =>
        obtain ⟨hq, b, a, g, rfl, rfl, hia, hab, hbn, hg, hdv⟩ := hrel
        have HQ := Lib.hid hq
        have HD := Lib.hid hdv
        clear hq hdv
        by_cases hgo : b < s.size ∧ bt s a ≤ bt s b
        · obtain ⟨hbl, hle2⟩ := hgo
          have hal : a < s.size := by omega
          have ea := bt_eq s a hal
          have eb := bt_eq s b hbl
          obtain ⟨g', hg'⟩ : ∃ g', g = g' + 1 := ⟨g - 1, by omega⟩
          subst hg'
          have HS := Lib.hid (dvIn_step s i g' b a hbl hle2)
          rw [ea, eb] at hle2
          by_cases hless : bt s a < bt s b
          · rw [if_pos hless] at HS
            rw [ea, eb] at hless
            clear ea eb
            go_wp2
            go_quiet (fail)
            go_wp2
            go_quiet (fail)
            go_wp2
            go_roundw
            case rel => exact ⟨HQ.out.drewN _, b + 1, i, g', by go_num, rfl, by omega, by omega, by omega, by omega, by rw [← HS.out]; exact HD.out⟩
            case measure => first | (simp [intOf]; done) | (simp [intOf]; omega)
          · rw [if_neg hless] at HS
            rw [ea, eb] at hless
            clear ea eb
            go_wp2
            go_quiet (fail)
            go_wp2
            go_quiet (fail)
            go_wp2
            go_roundw
            case rel => exact ⟨HQ.out.drewN _, b + 1, a + 1, g', by go_num, by go_num, by omega, by omega, by omega, by omega, by rw [← HS.out]; exact HD.out⟩
            case measure => first | (simp [intOf]; done) | (simp [intOf]; omega)
        · have HS := Lib.hid (dvIn_stop s i g b a hgo)
          have HP : Hid (dvIn s i s.size (i + 1) i = (b, a)) := by show _ = _; rw [← HD.out, HS.out]
          have HE2 : Hid (out ++ dvM s b a (dvO s f') s.size i = dvL s) := by
            show _ = _
            rw [← HE.out, HM.out, HP.out]
          clear HS HD HM HE HP
          obtain ⟨w2, hw2, hq2⟩ : ∃ w2, w2 = wr ∧ Qt wo w2 := ⟨wr, rfl, HQ.out⟩
          by_cases hbl : b < s.size
          case' pos =>
            have hal : a < s.size := by omega
            have ea := bt_eq s a hal
            have eb := bt_eq s b hbl
            have hnle : ¬ (s[a].toNat ≤ s[b].toNat) := by rw [← ea, ← eb]; exact fun h => hgo ⟨hbl, h⟩
            clear ea eb hgo
          case' neg => clear hgo
          all_goals
            clear hw2 hq2 w2
            go_wp2
            go_quiet (fail)
            go_wp2
            go_loopw [4, 5] (fun v x wr => Below w.heap.size w wr ∧ ∃ (c g : Nat) (out : List ByteArray), c ≤ b ∧ i ≤ c ∧ a + 1 - c ≤ g ∧ x = .int .i64 c ∧ wr.ownsRow w.heap.size 9 1 v out.length (out.map Value.string) ∧ out.length ≤ c ∧ out ++ dvM s b a (dvO s f') g c = dvL s) (fun _ x _ => a + 1 - (intOf x).toNat)
            case atStart => exact ⟨HB.out.trans ((HQ.out.drewN _).below _), i, s.size, out, by omega, by omega, by omega, rfl, owns_qt HO.out (HQ.out.drewN _), hol, HE2.out⟩
            case round =>
              obtain ⟨hb2, c, g2, out2, hcb, hic, hg2, rfl, hown2, hol2, heq2⟩ := hrel
              have hsz2 := hb2.size
              have HE3 := Lib.hid heq2
              clear heq2
              by_cases hca : c ≤ a
              · obtain ⟨g3, hg3⟩ : ∃ g3, g2 = g3 + 1 := ⟨g2 - 1, by omega⟩
                subst hg3
                have HS := Lib.hid (dvM_step s b a (dvO s f') g3 c hca)
                have e1 : ((c : Int) + b - a) = ((c + b - a : Nat) : Int) := by omega
                have e2 : ((c : Int) + (b - a)) = ((c + (b - a) : Nat) : Int) := by omega
                have e3 : c + b - a ≤ s.size := by omega
                have E2 := Lib.hid e2
                clear e2
                have hcc : c ≤ c + b - a := by omega
                generalize hz : c + b - a = z at *
                have HZ := Lib.hid hz
                clear hz
                go_wp2_with (at_builtin; refine app2 rfl (.tmp 48) (.tmp 57) 32 rfl w.heap.size 9 (.string ⟨#[]⟩) 1 16 Try.underlying32 info_str rfl (by decide) _ _ _ _ _ rfl hown2 [.string (s.extract c z)] rfl (by simp [Value.oneCell']) rfl (by simp) (by omega) (by decide) (by simpa using hsz2) ?_; intro v' w3 ho3 hg3' hk3)
                go_roundw
                case rel =>
                  have := HZ.out
                  exact ⟨hb2.trans (below_of_grown hg3' hsz2 (fun t ht => (hown2.lt t ht).1)), c + (b - a), g3, out2 ++ [s.extract c z], by omega, by omega, by omega, by rw [← E2.out], by simpa using ho3, by simp; omega, by rw [List.append_assoc, List.singleton_append, ← HS.out]; exact HE3.out⟩
                case measure => have := HZ.out; first | (simp [intOf]; done) | (simp [intOf]; omega)
              · have HS := Lib.hid (dvM_stop s b a (dvO s f') g2 c hca)
                go_wp2
                go_roundw
                case rel => exact ⟨hb2, c, f', out2, by omega, by omega, rfl, hown2, hol2, by rw [← HS.out]; exact HE3.out⟩
                case measure => first | (simp [intOf]; done) | (simp [intOf]; omega)
    · have HS := Lib.hid (dvO_stop s f i hlt)
      have HF : Hid (out = dvL s) := by
        show _ = _
        have := HE.out
        rw [HS.out, List.append_nil] at this
        exact this
      go_wp2
      go_ret2
      exact ⟨_, rfl, by rw [← HF.out]; exact HO.out, HB.out⟩
def ifL (b : Bool) (l : List ByteArray) : List ByteArray := if b then l else []
theorem dvM_len (s : ByteArray) (j k : Nat) (hjk : k < j) (hj : j ≤ s.size) (more : Nat → List ByteArray) (hmore : ∀ i, i ≤ s.size → (more i).length + i ≤ s.size) : ∀ g i, i ≤ j → (dvM s j k more g i).length + i ≤ s.size
  | 0, i, h => hmore i (by omega)
  | g + 1, i, h => by
    rw [dvM]
    by_cases hc : i ≤ k
    · rw [if_pos hc]
      have := dvM_len s j k hjk hj more hmore g (i + (j - k)) (by omega)
      simp only [List.length_cons]
      omega
    · rw [if_neg hc]; exact hmore i (by omega)
theorem dvIn_bd (s : ByteArray) (i : Nat) : ∀ f j k, i ≤ k → k < j → j ≤ s.size → (dvIn s i f j k).2 < (dvIn s i f j k).1 ∧ (dvIn s i f j k).1 ≤ s.size ∧ i ≤ (dvIn s i f j k).2
  | 0, j, k, h1, h2, h3 => ⟨h2, h3, h1⟩
  | f + 1, j, k, h1, h2, h3 => by
    rw [dvIn]
    by_cases hc : j < s.size ∧ bt s k ≤ bt s j
    · rw [if_pos hc]
      by_cases hl : bt s k < bt s j
      · rw [if_pos hl]; exact dvIn_bd s i f (j + 1) i (by omega) (by omega) (by omega)
      · rw [if_neg hl]; exact dvIn_bd s i f (j + 1) (k + 1) (by omega) (by omega) (by omega)
    · rw [if_neg hc]; exact ⟨h2, h3, h1⟩
theorem dvO_len (s : ByteArray) : ∀ f i, i ≤ s.size → (dvO s f i).length + i ≤ s.size
  | 0, i, h => by simpa [dvO] using h
  | f + 1, i, h => by
    rw [dvO]
    by_cases hc : i < s.size
    · rw [if_pos hc]
      have hb := dvIn_bd s i s.size (i + 1) i (by omega) (by omega) (by omega)
      exact dvM_len s _ _ hb.1 hb.2.1 _ (dvO_len s f) _ _ (by omega)
    · rw [if_neg hc]; simpa using h
theorem i_LyndonFactors (s : ByteArray) (w : World) (hs : s.size ≤ maxLen) : Calls Try.prog 28 #[.string s] w fun e w' => ∃ v, e = .returned (.tuple #[v, .int .i64 (okc (validB s))]) ∧ OwnS w w' v (ifL (validB s) (dvL s)) := by
  cases h1 : validB s
  · go_enter Try.func28, Try.ntmps28
    go_wp2_with (go_at_call 60; refine (i_ValidWord _ _ (by assumption)).mono ?_; rintro e w' ⟨rfl, rfl⟩)
    go_ret2
    exact ⟨_, rfl, ownS_nil (Below.refl _ _)⟩
  · exact i_LyndonFactors_ok s w h1
theorem s_LyndonFactors (s : ByteArray) (w : World) (hs : s.size ≤ maxLen) : Calls Try.prog 27 #[.string s] w fun e w' => ∃ v, e = .returned (.tuple #[v, .int .i64 (okc (validB s))]) ∧ OwnS w w' v (ifL (validB s) (dvL s)) := by
  cases h1 : validB s
  · go_enter Try.func27, Try.ntmps27
    go_wp2_with (go_at_call 58; refine (s_l01Ok _ _ (by assumption)).mono ?_; rintro e w' ⟨rfl, rfl⟩)
    go_ret2
    exact ⟨_, rfl, ownS_empty _⟩
  · exact s_LyndonFactors_ok s w h1
theorem walk_FnExactLyndonFactors (s : ByteArray) (hs : s.size ≤ maxLen) (w : World) : Calls Try.prog 6 #[.string s] w fun e w' => e = .returned (.bool true) ∧ Below w.heap.size w w' := by
  have hs' : s.size ≤ 9223372036854775807 := by unfold maxLen at hs; omega
  by_cases hbig : 1048576 < s.size
  · go_enter Try.func6, Try.ntmps6
    go_wp2
    go_ret
    exact ⟨rfl, Below.refl _ _⟩
  have hlen : (ifL (validB s) (dvL s)).length ≤ 1048577 := by
    have := dvO_len s s.size 0 (by omega)
    unfold ifL dvL; split <;> simp <;> omega
  -- FnExactLyndonFactors: the law; s w hs: args of the contracts, w the world; okc (validB s): the code; ifL (validB s) (dvL s): the list; s_LyndonFactors i_LyndonFactors: the contracts
  have hS := fun w => s_LyndonFactors s w hs
  have hI := fun w => i_LyndonFactors s w hs
  generalize okc (validB s) = c at hS hI
  generalize ifL (validB s) (dvL s) = l at hS hI hlen
  have HS := Lib.hid hS
  have HI := Lib.hid hI
  clear hS hI
  go_enter Try.func6, Try.ntmps6
  go_wp2_with fail
  refine (HS.out _).mono ?_
  rintro e w1 ⟨v1, rfl, ho1, hb1⟩
  go_wp2_with fail
  refine (HI.out _).mono ?_
  rintro e w2 ⟨v2, rfl, ho2, hb2⟩
  go_wp2_with fail
  refine (l_eqStringS _ _ l _ _ _ ho2 (owns_after ho1 hb2) (by omega)).mono ?_
  rintro e w3 ⟨rfl, hq3⟩
  go_wp2_with fail
  refine (l_markS1 _ l.length _ _ _ (by omega) (owns_qt ho2 hq3)).mono ?_
  rintro e w4 ⟨rfl, ho4, hg4⟩
  go_wp2_with fail
  refine (l_heldS1 _ l.length _ _ (by omega) ho4).mono ?_
  rintro e w5 ⟨rfl, hb5⟩
  go_wp2_with fail
  refine (HI.out _).mono ?_
  rintro e w6 ⟨v6, rfl, ho6, hb6⟩
  have hk1 := keep1 ho1 ho2 hb2 hq3 hg4
  have hb6' := hb5.trans (hb6.mono hb5.size)
  go_wp2_with fail
  refine (l_eqStringS _ _ l _ _ _ ho6 (owns_after hk1 hb6') (by omega)).mono ?_
  rintro e w7 ⟨rfl, hq7⟩
  go_wp2_with fail
  refine (l_heldS1 _ l.length _ _ (by omega) (owns_qt (owns_after ho4 hb6') hq7)).mono ?_
  rintro e w8 ⟨rfl, hb8⟩
  go_wp2
  go_ret
  have hch := chain hb1 hb2 hq3 ho2 hg4 hb6' hq7
  exact ⟨rfl, hch.trans (hb8.mono hch.size)⟩
end Go.Proofs.Ytdighfjoechbkaa

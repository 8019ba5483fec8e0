/- Plain laws of words: Duval's factors, least shifts. -/
import Derived.Test.YtdighfjoechbkaaQ1
import Derived.Test.YtdighfjoechbkaaS2
import Derived.Test.YtdighfjoechbkaaE1
namespace Go.Proofs.Ytdighfjoechbkaa
open Go.ChangeShapes Go.WideShapes Go.RowKit
set_option linter.unusedVariables false
set_option linter.unusedSimpArgs false
set_option maxHeartbeats 1000000
set_option maxRecDepth 100000
theorem bl_irrefl : ∀ a : List UInt8, Op.bytesLess a a = false
  | [] => rfl
  | a :: x => by rw [Op.bytesLess, bl_irrefl x]; simp
theorem bl_trans : ∀ {a b c : List UInt8}, Op.bytesLess a b = true → Op.bytesLess b c = true → Op.bytesLess a c = true
  | _, [], _, h, _ => by simp [Op.bytesLess] at h
  | _, _ :: _, [], _, h => by simp [Op.bytesLess] at h
  | [], _ :: _, _ :: _, _, _ => rfl
  | a :: x, b :: y, c :: z, h, h2 => by
    simp only [Op.bytesLess, Bool.or_eq_true, decide_eq_true_eq, Bool.and_eq_true, beq_iff_eq] at h h2 ⊢
    rcases h with h | ⟨rfl, h⟩
    · rcases h2 with h2 | ⟨rfl, h2⟩
      · exact .inl (UInt8.lt_trans h h2)
      · exact .inl h
    · rcases h2 with h2 | ⟨rfl, h2⟩
      · exact .inl h2
      · exact .inr ⟨rfl, bl_trans h h2⟩
theorem bl_at : ∀ (d : Nat) (a b : List UInt8), d < a.length → d < b.length → (∀ t, t < d → a.getD t 0 = b.getD t 0) → (a.getD d 0).toNat < (b.getD d 0).toNat → Op.bytesLess a b = true ∧ Op.bytesLess b a = false ∧ (a == b) = false ∧ (b == a) = false
  | _, [], _, h, _, _, _ => by simp at h
  | _, _ :: _, [], _, h, _, _ => by simp at h
  | 0, a :: x, b :: y, _, _, _, h => by
    have h1 : a.toNat < b.toNat := by simpa using h
    have h2 : a < b := h1
    have h3 : ¬ b < a := by show ¬ b.toNat < a.toNat; omega
    have h4 : a ≠ b := by rintro rfl; omega
    have h5 : b ≠ a := fun e => h4 e.symm
    simp [Op.bytesLess, h2, h3, h4, h5]
  | d + 1, a :: x, b :: y, h1, h2, h3, h4 => by
    have e : a = b := by simpa using h3 0 (by omega)
    subst e
    have ih := bl_at d x y (by simpa using h1) (by simpa using h2) (fun t ht => by simpa using h3 (t + 1) (by omega)) (by simpa using h4)
    have hir : ¬ a < a := by show ¬ a.toNat < a.toNat; omega
    refine ⟨?_, ?_, ?_, ?_⟩
    · simp [Op.bytesLess, ih.1]
    · simp [Op.bytesLess, ih.2.1, hir]
    · have := ih.2.2.1
      rw [beq_eq_false_iff_ne] at this ⊢
      intro e; injection e with _ e; exact this e
    · have := ih.2.2.2
      rw [beq_eq_false_iff_ne] at this ⊢
      intro e; injection e with _ e; exact this e
/-- a word isn't before what it begins with -/
theorem bl_pre : ∀ (a b : List UInt8), b.length ≤ a.length → (∀ t, t < b.length → a.getD t 0 = b.getD t 0) → Op.bytesLess a b = false
  | a, [], _, _ => by cases a <;> rfl
  | [], _ :: _, h, _ => by simp at h
  | a :: x, b :: y, h, h2 => by
    have e : a = b := by simpa using h2 0 (by simp)
    subst e
    have ih := bl_pre x y (by simpa using h) (fun t ht => by simpa using h2 (t + 1) (by simpa using ht))
    have hir : ¬ a < a := by show ¬ a.toNat < a.toNat; omega
    simp [Op.bytesLess, ih, hir]
def LynAt (s : ByteArray) (i p : Nat) : Prop := ∀ x, 1 ≤ x → x < p → ∃ d, x + d < p ∧ (∀ t, t < d → bt s (i + t) = bt s (i + x + t)) ∧ bt s (i + d) < bt s (i + x + d)
def PerAt (s : ByteArray) (i p j : Nat) : Prop := ∀ t, i ≤ t → t + p < j → bt s (t + p) = bt s t
theorem PerAt.mul {s : ByteArray} {i p j : Nat} (h : PerAt s i p j) : ∀ q t, i ≤ t → t + p * q < j → bt s (t + p * q) = bt s t
  | 0, t, _, _ => rfl
  | q + 1, t, h1, h2 => by
    rw [Nat.mul_succ, ← Nat.add_assoc] at h2 ⊢
    rw [h _ (by omega) h2, PerAt.mul h q t h1 (by omega)]
theorem lyn_ext {s : ByteArray} {i p j : Nat} (hl : LynAt s i p) (hp : 1 ≤ p) (hj : i + p ≤ j) (hper : PerAt s i p j) (hlt : bt s (j - p) < bt s j) : LynAt s i (j + 1 - i) := by
  intro x hx1 hx2
  have hdm := Nat.div_add_mod x p
  have hr := Nat.mod_lt x (show 0 < p by omega)
  have hpm := hper.mul
  have hq1 : x / p = 0 ∨ ∃ q, x / p = q + 1 := by
    cases h : x / p with
    | zero => exact .inl rfl
    | succ q => exact .inr ⟨q, rfl⟩
  by_cases h0 : x % p = 0
  · rcases hq1 with hq | ⟨q, hq⟩
    · rw [hq, h0] at hdm; simp at hdm; omega
    · rw [hq, h0, Nat.add_zero] at hdm
      refine ⟨j - i - x, by omega, fun t ht => ?_, ?_⟩
      · have := hpm (q + 1) (i + t) (by omega) (by omega)
        rw [show i + t + p * (q + 1) = i + x + t by omega] at this
        exact this.symm
      · have h2 : p * (q + 1) = p * q + p := Nat.mul_succ _ _
        have := hpm q (j - x) (by omega) (by omega)
        rw [show j - x + p * q = j - p by omega] at this
        rw [show i + (j - i - x) = j - x by omega, show i + x + (j - i - x) = j by omega, ← this]
        exact hlt
  · obtain ⟨d, hd1, hd2, hd3⟩ := hl (x % p) (by omega) hr
    have hsh : ∀ t, i + x + t < j → bt s (i + x + t) = bt s (i + x % p + t) := by
      intro t ht
      have := hpm (x / p) (i + x % p + t) (by omega) (by omega)
      rw [show i + x % p + t + p * (x / p) = i + x + t by omega] at this
      exact this
    by_cases hin : x + d < j - i
    · refine ⟨d, by omega, fun t ht => ?_, ?_⟩
      · rw [hsh t (by omega), hd2 t ht]
      · rw [hsh d (by omega)]; exact hd3
    · refine ⟨j - i - x, by omega, fun t ht => ?_, ?_⟩
      · rw [hsh t (by omega), hd2 t (by omega)]
      · rw [show i + x + (j - i - x) = j by omega]
        have hle : bt s (i + (j - i - x)) ≤ bt s (i + x % p + (j - i - x)) := by
          by_cases he : j - i - x = d
          · rw [he]; omega
          · rw [hd2 _ (by omega)]; exact Nat.le_refl _
        rcases hq1 with hq | ⟨q, hq⟩
        · rw [hq, Nat.mul_zero] at hdm; omega
        · rw [hq] at hdm
          have h2 : p * (q + 1) = p * q + p := Nat.mul_succ _ _
          have := hpm q (i + x % p + (j - i - x)) (by omega) (by omega)
          rw [show i + x % p + (j - i - x) + p * q = j - p by omega] at this
          rw [this] at hlt
          omega
/-- what Duval's inner loop leaves -/
def DvOk (s : ByteArray) (i j k : Nat) : Prop := i ≤ k ∧ k < j ∧ j ≤ s.size ∧ LynAt s i (j - k) ∧ PerAt s i (j - k) j
theorem dv_spec (s : ByteArray) (i : Nat) : ∀ f j k, DvOk s i j k → s.size - j ≤ f → DvOk s i (dvIn s i f j k).1 (dvIn s i f j k).2 ∧ ((dvIn s i f j k).1 = s.size ∨ bt s (dvIn s i f j k).1 < bt s (dvIn s i f j k).2)
  | 0, j, k, h, hf => ⟨h, .inl (by have := h.2.2.1; show j = s.size; omega)⟩
  | f + 1, j, k, h, hf => by
    rw [dvIn]
    by_cases hc : j < s.size ∧ bt s k ≤ bt s j
    · rw [if_pos hc]
      obtain ⟨h1, h2, h3, h4, h5⟩ := h
      by_cases hl : bt s k < bt s j
      · rw [if_pos hl]
        refine dv_spec s i f (j + 1) i ⟨Nat.le_refl _, by omega, by omega, ?_, fun t ht1 ht2 => by omega⟩ (by omega)
        exact lyn_ext h4 (by omega) (by omega) h5 (by rw [show j - (j - k) = k by omega]; exact hl)
      · rw [if_neg hl]
        refine dv_spec s i f (j + 1) (k + 1) ⟨by omega, by omega, by omega, ?_, fun t ht1 ht2 => ?_⟩ (by omega)
        · rw [show j + 1 - (k + 1) = j - k by omega]; exact h4
        · rw [show j + 1 - (k + 1) = j - k by omega] at ht2 ⊢
          by_cases he : t = k
          · subst he
            rw [show t + (j - t) = j by omega]; omega
          · exact h5 t ht1 (by omega)
    · rw [if_neg hc]
      refine ⟨h, ?_⟩
      show j = s.size ∨ bt s j < bt s k
      have := h.2.2.1
      omega
/-- a word that is before its shifts -/
def LynW (v : ByteArray) : Prop := 1 ≤ v.size ∧ ∀ x, 1 ≤ x → x < v.size → (Op.bytesLess (v.extract x v.size ++ v.extract 0 x).toList v.toList || (v.extract x v.size ++ v.extract 0 x).toList == v.toList) = false
theorem ext_getD (s : ByteArray) (a b t : Nat) (h : a + t < b) : (s.extract a b).data.toList.getD t 0 = s.data.toList.getD (a + t) 0 := by
  rw [ByteArray.data_extract, Array.toList_extract]
  show ((s.data.toList.drop a).take (b - a)).getD t 0 = _
  rw [getD_take (by omega), getD_drop]
theorem ext_size (s : ByteArray) (a p : Nat) (h : a + p ≤ s.size) : (s.extract a (a + p)).size = p ∧ (s.extract a (a + p)).data.toList.length = p := by
  have : (s.extract a (a + p)).size = p := by rw [ByteArray.size_extract]; omega
  exact ⟨this, by rw [Array.length_toList]; exact this⟩
theorem lyn_w {s : ByteArray} {a p : Nat} (h : LynAt s a p) (hp : 1 ≤ p) (ha : a + p ≤ s.size) : LynW (s.extract a (a + p)) := by
  obtain ⟨e1, e2⟩ := ext_size s a p ha
  refine ⟨by omega, fun x hx1 hx2 => ?_⟩
  rw [e1] at hx2
  obtain ⟨d, hd1, hd2, hd3⟩ := h x hx1 hx2
  have hg : ∀ t, t < p → (s.extract a (a + p)).data.toList.getD t 0 = s.data.toList.getD (a + t) 0 := fun t ht => ext_getD s a (a + p) t (by omega)
  generalize s.extract a (a + p) = v at *
  have hrot : (v.extract x v.size ++ v.extract 0 x).toList = v.data.toList.drop x ++ v.data.toList.take x := by
    have := shf_list v x
    exact this
  rw [hrot, ByteArray.toList_eq]
  have hgl : ∀ t, t + x < p → (v.data.toList.drop x ++ v.data.toList.take x).getD t 0 = v.data.toList.getD (x + t) 0 := fun t ht => by
    rw [getD_app_l (by simp; omega), getD_drop]
  have h3 := bl_at d v.data.toList (v.data.toList.drop x ++ v.data.toList.take x) (by omega) (by simp; omega) (fun t ht => by
    rw [hgl t (by omega), hg t (by omega), hg (x + t) (by omega)]
    have := hd2 t ht
    unfold bt at this
    rw [← Nat.add_assoc]
    exact UInt8.toNat_inj.1 this) (by
    rw [hgl d (by omega), hg d (by omega), hg (x + d) (by omega), ← Nat.add_assoc]
    exact hd3)
  rw [h3.2.1, h3.2.2.2]; rfl
theorem adj_f {s : ByteArray} {a p m j : Nat} (ha : a + p + m ≤ s.size) (hj : a + p ≤ j) (hper : ∀ t, a + p + t < j → bt s (a + p + t) = bt s (a + t)) (hend : j = s.size ∨ bt s j < bt s (j - p)) (hm : m ≤ p ∧ a + p + m ≤ j ∨ j < a + p + p) : Op.bytesLess (s.extract a (a + p)).toList (s.extract (a + p) (a + p + m)).toList = false := by
  obtain ⟨e1, e2⟩ := ext_size s a p (by omega)
  obtain ⟨e3, e4⟩ := ext_size s (a + p) m ha
  have hg : ∀ t, t < p → (s.extract a (a + p)).data.toList.getD t 0 = s.data.toList.getD (a + t) 0 := fun t ht => ext_getD s a (a + p) t (by omega)
  have hg2 : ∀ t, t < m → (s.extract (a + p) (a + p + m)).data.toList.getD t 0 = s.data.toList.getD (a + p + t) 0 := fun t ht => ext_getD s (a + p) (a + p + m) t (by omega)
  generalize s.extract a (a + p) = v at *
  generalize s.extract (a + p) (a + p + m) = u at *
  rw [ByteArray.toList_eq, ByteArray.toList_eq]
  by_cases hc : a + p + m ≤ j ∧ m ≤ p
  · refine bl_pre _ _ (by omega) fun t ht => ?_
    rw [hg t (by omega), hg2 t (by omega)]
    have := hper t (by omega)
    unfold bt at this
    exact (UInt8.toNat_inj.1 this).symm
  · have hjr : j < a + p + p := by omega
    have hjm : j < a + p + m := by omega
    refine (bl_at (j - (a + p)) u.data.toList v.data.toList (by omega) (by omega) (fun t ht => ?_) ?_).2.1
    · rw [hg t (by omega), hg2 t (by omega)]
      have := hper t (by omega)
      unfold bt at this
      exact UInt8.toNat_inj.1 this
    · rw [hg _ (by omega), hg2 _ (by omega)]
      have h2 : bt s j < bt s (j - p) := by
        rcases hend with h | h
        · omega
        · exact h
      unfold bt at h2
      rw [show a + p + (j - (a + p)) = j by omega, show a + (j - (a + p)) = j - p by omega]
      exact h2
/-- the factors from a place on -/
def Chn (s : ByteArray) : Nat → List ByteArray → Prop
  | i, [] => i = s.size
  | i, v :: r => ∃ l, 1 ≤ l ∧ i + l ≤ s.size ∧ v = s.extract i (i + l) ∧ LynW v ∧ (∀ u, r.head? = some u → Op.bytesLess v.toList u.toList = false) ∧ Chn s (i + l) r
theorem chn_head {s : ByteArray} {i : Nat} {ls : List ByteArray} (h : Chn s i ls) : ∀ u, ls.head? = some u → ∃ m, 1 ≤ m ∧ i + m ≤ s.size ∧ u = s.extract i (i + m) := by
  intro u hu
  cases ls with
  | nil => simp at hu
  | cons v r =>
    obtain ⟨l, h1, h2, h3, -⟩ := h
    simp at hu
    subst hu
    exact ⟨l, h1, h2, h3⟩
theorem chn_dvM (s : ByteArray) (i j k : Nat) (more : Nat → List ByteArray) (hok : DvOk s i j k) (hend : j = s.size ∨ bt s j < bt s k) (hmore : ∀ a, i < a → a ≤ s.size → Chn s a (more a)) :
    ∀ g a, (∃ e, a = i + (j - k) * e) → a ≤ j → (a ≤ k → j - a ≤ g) → Chn s a (dvM s j k more g a) ∧ (a ≤ k → ∃ r, dvM s j k more g a = s.extract a (a + (j - k)) :: r)
  | 0, a, he, ha, hg => by
    obtain ⟨h1, h2, h3, h4, h5⟩ := hok
    have hak : ¬ a ≤ k := fun h => by have := hg h; omega
    exact ⟨hmore a (by omega) (by omega), fun h => absurd h hak⟩
  | g + 1, a, he, ha, hg => by
    obtain ⟨h1, h2, h3, h4, h5⟩ := hok
    by_cases hak : a ≤ k
    · rw [dvM_step s j k more g a hak, show a + j - k = a + (j - k) by omega]
      obtain ⟨e, rfl⟩ := he
      have ih := chn_dvM s i j k more ⟨h1, h2, h3, h4, h5⟩ hend hmore g (i + (j - k) * e + (j - k)) ⟨e + 1, by rw [Nat.mul_succ]; omega⟩ (by omega) (fun h => by have := hg hak; omega)
      have hpm := h5.mul e
      have hsh : LynAt s (i + (j - k) * e) (j - k) := by
        intro x hx1 hx2
        obtain ⟨d, hd1, hd2, hd3⟩ := h4 x hx1 hx2
        have hb : ∀ t, t < j - k → bt s (i + (j - k) * e + t) = bt s (i + t) := fun t ht => by
          have := hpm (i + t) (by omega) (by omega)
          rw [show i + t + (j - k) * e = i + (j - k) * e + t by omega] at this
          exact this
        refine ⟨d, hd1, fun t ht => ?_, ?_⟩
        · rw [hb t (by omega), Nat.add_assoc _ x t, hb (x + t) (by omega), hd2 t ht, Nat.add_assoc]
        · rw [hb d (by omega), Nat.add_assoc _ x d, hb (x + d) (by omega), ← Nat.add_assoc]; exact hd3
      refine ⟨⟨j - k, by omega, by omega, rfl, lyn_w hsh (by omega) (by omega), fun u hu => ?_, ih.1⟩, fun _ => ⟨_, rfl⟩⟩
      obtain ⟨m, hm1, hm2, rfl⟩ := chn_head ih.1 u hu
      generalize hae : i + (j - k) * e = a at *
      refine adj_f (j := j) hm2 (by omega) (fun t ht => ?_) (by rw [show j - (j - k) = k by omega]; exact hend) ?_
      · have := h5 (a + t) (by omega) (by omega)
        rw [show a + t + (j - k) = a + (j - k) + t by omega] at this
        exact this
      · by_cases hc : a + (j - k) ≤ k
        · left
          obtain ⟨r, hr⟩ := ih.2 hc
          rw [hr] at hu
          simp at hu
          have e1 := (ext_size s (a + (j - k)) (j - k) (by omega)).1
          have e2 := (ext_size s (a + (j - k)) m (by omega)).1
          rw [hu] at e1
          omega
        · right; omega
    · rw [dvM_stop s j k more (g + 1) a hak]
      exact ⟨hmore a (by omega) (by omega), fun h => absurd h hak⟩
theorem chn_dvO (s : ByteArray) : ∀ f i, i ≤ s.size → s.size - i ≤ f → Chn s i (dvO s f i)
  | 0, i, h, hf => by show i = s.size; omega
  | f + 1, i, h, hf => by
    by_cases hi : i < s.size
    · rw [dvO_step s f i hi]
      have h0 : DvOk s i (i + 1) i := ⟨Nat.le_refl _, by omega, by omega, fun x h1 h2 => by omega, fun t h1 h2 => by omega⟩
      obtain ⟨hok, hend⟩ := dv_spec s i s.size (i + 1) i h0 (by omega)
      have h1 := hok.1
      have h2 := hok.2.1
      have h3 := hok.2.2.1
      exact (chn_dvM s i _ _ (dvO s f) hok hend (fun a ha1 ha2 => chn_dvO s f a ha2 (by omega)) s.size i ⟨0, by simp⟩ (by omega) (fun _ => by omega)).1
    · rw [dvO_stop s (f + 1) i hi]
      show i = s.size
      omega
def catL (l : List ByteArray) : List UInt8 := l.flatMap fun v => v.data.toList
theorem chn_cat {s : ByteArray} : ∀ {i : Nat} {ls : List ByteArray}, Chn s i ls → catL ls = s.data.toList.drop i
  | i, [], h => by
    have : i = s.size := h
    subst this
    have e : s.size = s.data.toList.length := by simp
    rw [e, List.drop_length]; rfl
  | i, v :: r, h => by
    obtain ⟨l, h1, h2, rfl, -, -, h6⟩ := h
    have ih := chn_cat h6
    show (s.extract i (i + l)).data.toList ++ catL r = _
    rw [ih, ByteArray.data_extract, Array.toList_extract]
    show (s.data.toList.drop i).take (i + l - i) ++ _ = _
    rw [Nat.add_sub_cancel_left, ← List.drop_drop, List.take_append_drop]
theorem chn_at {s : ByteArray} : ∀ {i : Nat} {ls : List ByteArray}, Chn s i ls → ∀ t (h : t < ls.length), LynW ls[t] ∧ (∀ h2 : t + 1 < ls.length, Op.bytesLess ls[t].toList ls[t + 1].toList = false)
  | i, [], h, t, ht => by simp at ht
  | i, v :: r, h, 0, ht => by
    obtain ⟨l, h1, h2, h3, h4, h5, h6⟩ := h
    refine ⟨h4, fun h2 => ?_⟩
    cases r with
    | nil => simp at h2
    | cons u r => exact h5 u rfl
  | i, v :: r, h, t + 1, ht => by
    obtain ⟨l, h1, h2, h3, h4, h5, h6⟩ := h
    have ht2 : t < r.length := by simpa using ht
    have := chn_at h6 t ht2
    refine ⟨this.1, fun h2 => ?_⟩
    exact this.2 (by simpa using h2)
theorem dv_all (s : ByteArray) : catL (dvL s) = s.data.toList ∧ ∀ t (h : t < (dvL s).length), LynW (dvL s)[t] ∧ (∀ h2 : t + 1 < (dvL s).length, Op.bytesLess (dvL s)[t].toList (dvL s)[t + 1].toList = false) := by
  have h := chn_dvO s s.size 0 (by omega) (by omega)
  exact ⟨by have := chn_cat h; rw [List.drop_zero] at this; exact this, chn_at h⟩
theorem catL_take (ls : List ByteArray) (t : Nat) (h : t < ls.length) : catL (ls.take (t + 1)) = catL (ls.take t) ++ (ls[t]).data.toList := by
  rw [List.take_succ_eq_append_getElem h, catL, List.flatMap_append]; simp [catL]
theorem catL_le (ls : List ByteArray) (t : Nat) : (catL (ls.take t)).length ≤ (catL ls).length := by
  have e : catL ls = catL (ls.take t) ++ catL (ls.drop t) := by
    have : ls = ls.take t ++ ls.drop t := (List.take_append_drop t ls).symm
    conv => lhs; rw [this]
    exact List.flatMap_append
  rw [e, List.length_append]; omega
/-- the least shift -/
theorem ls_min (s : ByteArray) : ∀ k x, x < k → Op.bytesLess (shf s x).toList (shf s (lsB s k)).toList = false ∧ ((shf s x).toList = (shf s (lsB s k)).toList → lsB s k ≤ x)
  | 0, x, h => by omega
  | k + 1, x, h => by
    cases hc : Op.bytesLess (shf s k).toList (shf s (lsB s k)).toList
    · rw [lsB_no s k hc]
      by_cases he : x = k
      · subst he; exact ⟨hc, fun _ => lsB_le s x⟩
      · exact ls_min s k x (by omega)
    · rw [lsB_yes s k hc]
      by_cases he : x = k
      · subst he; exact ⟨bl_irrefl _, fun _ => Nat.le_refl _⟩
      · have ih := ls_min s k x (by omega)
        refine ⟨?_, fun he2 => ?_⟩
        · cases hq : Op.bytesLess (shf s x).toList (shf s k).toList
          · rfl
          · have := bl_trans hq hc
            rw [ih.1] at this; cases this
        · rw [he2] at ih
          rw [ih.1] at hc; cases hc
theorem least_hit (P : Nat → Bool) : ∀ x, P x = true → ∃ k, k ≤ x ∧ P k = true ∧ ∀ j, j < k → P j = false := by
  intro x
  induction x using Nat.strongRecOn with
  | _ x ih =>
    intro h
    by_cases hc : ∃ j, j < x ∧ P j = true
    · obtain ⟨j, h1, h2⟩ := hc
      obtain ⟨k, h3, h4, h5⟩ := ih j h1 h2
      exact ⟨k, by omega, h4, h5⟩
    · refine ⟨x, Nat.le_refl _, h, fun j hj => ?_⟩
      cases hq : P j
      · rfl
      · exact absurd ⟨j, hj, hq⟩ hc
theorem shf_sz (s : ByteArray) (k : Nat) (hk : k ≤ s.size) : (shf s k).size = s.size := by
  have h := shf_size s k hk
  rw [ByteArray.toList_eq] at h
  simpa using h
theorem shf_valid {s : ByteArray} (hv : validB s = true) (k : Nat) (hk : k ≤ s.size) : validB (shf s k) = true := by
  have h := shf_list s k
  rw [ByteArray.toList_eq] at h
  unfold validB at hv ⊢
  rw [shf_sz s k hk]
  simp only [Bool.and_eq_true, decide_eq_true_eq] at hv ⊢
  refine ⟨?_, hv.2⟩
  have h1 := hv.1
  unfold allL at h1 ⊢
  rw [h, List.all_append, Bool.and_comm, ← List.all_append, List.take_append_drop]
  exact h1
theorem st_back {s : ByteArray} (hv : validB s = true) (x : Nat) (hx : x ≤ s.size) : ∃ b : Nat, stV s (shf s x) = (b : Int) ∧ stC s (shf s x) = 0 ∧ b ≤ x ∧ ((shf s b).toList == (shf s x).toList) = true := by
  obtain ⟨b, h1, h2, h3⟩ := least_hit (fun j => (shf s j).toList == (shf s x).toList) x (by simp)
  have hi := st_hit (shf_sz s x hx) (by omega : b ≤ s.size) h2 h3
  have hv2 := shf_valid hv x hx
  obtain ⟨e1, e2⟩ := st_yes (u := s) (v := shf s x) (by rw [hv, hv2]; rfl) ⟨(shf_sz s x hx).symm, by rw [hi]; omega⟩
  exact ⟨b, by rw [e1, hi], e2, h1, h2⟩
end Go.Proofs.Ytdighfjoechbkaa

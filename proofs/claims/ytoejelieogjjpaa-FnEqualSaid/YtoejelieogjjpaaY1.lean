/- Walks of the small functions on letters and plain words: what isLetter, l01Ok and ValidWord return. -/
import Derived.Test.YtoejelieogjjpaaProg
import Derived.WalkKit
import Derived.WalkSpells
import Derived.WalkLawsBesides
import Derived.Lib.Hide
import Derived.IntWalk
import Derived.Deep.QuietTactic
import Derived.BigQuiet
import Derived.WalkSmall
import Derived.Deep.RegionHeld3
namespace Go.Proofs.Ytoejelieogjjpaa
open Go.ChangeShapes Go.WideShapes Go.RowKit
set_option linter.unusedVariables false

theorem ret_bool {a b : Bool} (h : a = b) : Ending.returned (.bool a) = .returned (.bool b) := by rw [h]
theorem ret_int {k : IntKind} {a b : Int} (h : a = b) : Ending.returned (.int k a) = .returned (.int k b) := by rw [h]

def letB (c : Int) : Bool := decide (97 ≤ c) && decide (c ≤ 100)
theorem letB_t {c : Int} (h : letB c = true) : 97 ≤ c ∧ c ≤ 100 := by simpa [letB] using h
theorem letB_f {c : Int} (h : letB c = false) : c < 97 ∨ 100 < c := by
  simp [letB] at h
  by_cases hc : 97 ≤ c
  · exact .inr (h hc)
  · exact .inl (by omega)

def allL (l : List UInt8) : Bool := l.all fun c => letB (c.toNat : Int)
def validB (s : ByteArray) : Bool := allL s.data.toList && decide (s.size ≤ 2000)

theorem i_isLetter (c : Int) (w : World) : Calls Try.prog 56 #[.int .u8 c] w fun e w' => e = .returned (.bool (letB c)) ∧ w = w' := by
  by_cases h1 : 97 ≤ c
  all_goals
    go_enter Try.func56, Try.ntmps56
    go_wp2
    go_ret
    exact ⟨ret_bool (by simp [letB]; omega), rfl⟩

theorem take_snoc (s : ByteArray) (k : Nat) (h : k < s.size) : s.data.toList.take (k + 1) = s.data.toList.take k ++ [s[k]] := by
  rw [List.take_succ_eq_append_getElem (by simpa using h)]; rfl
theorem allL_snoc (s : ByteArray) (k : Nat) (h : k < s.size) : allL (s.data.toList.take (k + 1)) = (allL (s.data.toList.take k) && letB (s[k].toNat : Int)) := by
  rw [take_snoc s k h]; simp [allL]
theorem allL_of_not (s : ByteArray) (k : Nat) (h : k < s.size) (h' : letB (s[k].toNat : Int) = false) : allL s.data.toList = false := by
  simp only [allL, List.all_eq_false]
  exact ⟨s[k], by simp [ByteArray.getElem_eq_getElem_data], by simp [h']⟩
theorem allL_all (s : ByteArray) (h : allL (s.data.toList.take s.size) = true) : allL s.data.toList = true := by
  rwa [List.take_of_length_le (by simp)] at h

end Go.Proofs.Ytoejelieogjjpaa

/- Walks: l01Ok, ValidWord of the reference, within, size; the length of the common beginning of two words. -/
namespace Go.Proofs.Ytoejelieogjjpaa
open Go.ChangeShapes Go.WideShapes Go.RowKit
set_option linter.unusedVariables false
set_option maxHeartbeats 2000000
set_option maxRecDepth 100000

theorem allL_le (s : ByteArray) (h : s.size ≤ 2000) : validB s = allL s.data.toList := by simp [validB, h]
theorem validB_gt (s : ByteArray) (h : 2000 < s.size) : validB s = false := by
  have : ¬ s.size ≤ 2000 := by omega
  simp [validB, this]

theorem s_l01Ok (s : ByteArray) (w : World) (hs : s.size ≤ maxLen) : Calls Try.prog 77 #[.string s] w fun e w' => e = .returned (.bool (validB s)) ∧ w = w' := by
  unfold maxLen at hs
  by_cases hbig : 2000 < s.size
  · have HB := Lib.hid (validB_gt s hbig)
    go_enter Try.func77, Try.ntmps77
    go_wp2
    go_ret
    exact ⟨ret_bool HB.out.symm, rfl⟩
  have hle : s.size ≤ 2000 := by omega
  have HL := Lib.hid (allL_le s hle)
  go_enter Try.func77, Try.ntmps77
  go_wp2
  go_loop [2, 3] (fun _ i => ∃ k : Nat, k ≤ s.size ∧ i = .int .i64 k ∧ allL (s.data.toList.take k) = true) (fun _ i => s.size - (intOf i).toNat)
  case atStart => exact ⟨0, Nat.zero_le _, rfl, rfl⟩
  case round =>
    obtain ⟨k, hk, rfl, hall⟩ := hrel
    by_cases hlt : k < s.size
    · have hsn := allL_snoc s k hlt
      have hno := allL_of_not s k hlt
      have HA := Lib.hid hall
      have HS := Lib.hid hsn
      have HN := Lib.hid hno
      clear hall hsn hno
      cases hb : letB (s[k].toNat : Int)
      · have h2 := letB_f hb
        have HV := Lib.hid (HL.out.trans (HN.out hb))
        clear hb
        rcases h2 with h2 | h2
        · go_wp2
          go_ret
          exact ⟨ret_bool HV.out.symm, rfl⟩
        · have h3 : ¬ (s[k].toNat : Int) < 97 := by omega
          go_wp2
          go_ret
          exact ⟨ret_bool HV.out.symm, rfl⟩
      · have h2 := letB_t hb
        have HB := Lib.hid hb
        clear hb
        obtain ⟨h2a, h2b⟩ := h2
        go_wp2
        go_round
        case rel => exact ⟨k + 1, by omega, by go_num, by rw [HS.out, HA.out, HB.out]; rfl⟩
        case measure => simp [intOf]; omega
    · have e : k = s.size := by omega
      subst e
      have HF := Lib.hid (HL.out.trans (allL_all s hall))
      clear hall
      go_wp2
      go_ret
      exact ⟨ret_bool HF.out.symm, rfl⟩
theorem s_l00In (n a b : Int) (w : World) : Calls Try.prog 70 #[.int .i64 n, .int .i64 a, .int .i64 b] w fun e w' => e = .returned (.bool (decide (a ≤ n) && decide (n ≤ b))) ∧ w = w' := by
  by_cases h1 : a ≤ n
  all_goals
    go_enter Try.func70, Try.ntmps70
    go_wp2
    go_ret
    exact ⟨ret_bool (by simp; omega), rfl⟩

theorem s_l00In_r (n a b : Int) (r : Bool) (hr : (decide (a ≤ n) && decide (n ≤ b)) = r) (w : World) : Calls Try.prog 70 #[.int .i64 n, .int .i64 a, .int .i64 b] w fun e w' => e = .returned (.bool r) ∧ w = w' := by
  subst hr; exact s_l00In n a b w
theorem i_within (n a b : Int) (w : World) : Calls Try.prog 41 #[.int .i64 n, .int .i64 a, .int .i64 b] w fun e w' => e = .returned (.bool (decide (a ≤ n) && decide (n ≤ b))) ∧ w = w' := by
  by_cases h1 : a ≤ n
  all_goals
    go_enter Try.func41, Try.ntmps41
    go_wp2
    go_ret
    exact ⟨ret_bool (by simp; omega), rfl⟩
theorem i_within_r (n a b : Int) (r : Bool) (hr : (decide (a ≤ n) && decide (n ≤ b)) = r) (w : World) : Calls Try.prog 41 #[.int .i64 n, .int .i64 a, .int .i64 b] w fun e w' => e = .returned (.bool r) ∧ w = w' := by
  subst hr; exact i_within n a b w

/-- nothing but draws -/
def Qt (w w' : World) : Prop := ∃ n, w' = w.drewN n
theorem Qt.refl (w : World) : Qt w w := ⟨0, rfl⟩

theorem Qt.drewN {w w' : World} (h : Qt w w') (n : Nat) : Qt w (w'.drewN n) := by
  obtain ⟨m, rfl⟩ := h
  exact ⟨m + n, by simp⟩
theorem Qt.trans {a b c : World} (h : Qt a b) (k : Qt b c) : Qt a c := by
  obtain ⟨n, rfl⟩ := k
  exact h.drewN n
theorem Qt.below {w w' : World} (h : Qt w w') (B : Nat) : Below B w w' := by
  obtain ⟨m, rfl⟩ := h
  exact below_drewN (Below.refl _ _) m

/-- the length of the common beginning of two words -/
def cst : List UInt8 → List UInt8 → Nat
  | a :: u, b :: w => if a = b then cst u w + 1 else 0
  | _, _ => 0
theorem cst_eq : ∀ (u v : List UInt8) (k : Nat), k ≤ u.length → k ≤ v.length → u.take k = v.take k → (k = u.length ∨ k = v.length ∨ u[k]? ≠ v[k]?) → cst u v = k
  | [], v, k, h1, _, _, _ => by
    have : k = 0 := by simpa using h1
    subst this
    simp [cst]
  | a :: u, [], k, _, h2, _, _ => by
    have : k = 0 := by simpa using h2
    subst this
    simp [cst]
  | a :: u, b :: v, 0, _, _, _, h4 => by
    simp at h4
    simp [cst, h4]
  | a :: u, b :: v, k + 1, h1, h2, h3, h4 => by
    simp at h1 h2 h3 h4
    have ih := cst_eq u v k h1 h2 h3.2 (by
      rcases h4 with h4 | h4 | h4
      · exact .inl h4
      · exact .inr (.inl h4)
      · exact .inr (.inr h4))
    simp [cst, h3.1, ih]
theorem byte_ne {a b : UInt8} (h : ¬ a = b) : ((a.toNat : Int) == (b.toNat : Int)) = false := by
  simp only [beq_eq_false_iff_ne]
  intro e
  exact h (UInt8.toNat_inj.1 (by omega))
theorem get_opt (s : ByteArray) (k : Nat) (h : k < s.size) : s.data.toList[k]? = some s[k] := by
  rw [List.getElem?_eq_getElem (by simpa using h)]; rfl

end Go.Proofs.Ytoejelieogjjpaa

/- Walks: CommonStart, LeastShift, of the program and of the reference, and their laws. -/
namespace Go.Proofs.Ytoejelieogjjpaa
open Go.ChangeShapes Go.WideShapes Go.RowKit
set_option linter.unusedVariables false
set_option maxHeartbeats 2000000
set_option maxRecDepth 100000

/-- the code: 0 if all is well, 1 if not -/
def okc (b : Bool) : Int := if b then 0 else 1
def ifv (b : Bool) (x : Int) : Int := if b then x else 0
theorem ret_ii {a b c d : Int} (h : a = b) (h' : c = d) : Ending.returned (.tuple #[.int .i64 a, .int .i64 c]) = .returned (.tuple #[.int .i64 b, .int .i64 d]) := by rw [h, h']

theorem ret_si {a b : ByteArray} {c d : Int} (h : a = b) (h' : c = d) : Ending.returned (.tuple #[.string a, .int .i64 c]) = .returned (.tuple #[.string b, .int .i64 d]) := by rw [h, h']
def ifs (b : Bool) (s : ByteArray) : ByteArray := if b then s else ⟨#[]⟩
theorem ret_bi {a b : Bool} {c d : Int} (h : a = b) (h' : c = d) : Ending.returned (.tuple #[.bool a, .int .i64 c]) = .returned (.tuple #[.bool b, .int .i64 d]) := by rw [h, h']
def ifb (b : Bool) (s : Bool) : Bool := if b then s else false
theorem validB_le {s : ByteArray} (h : validB s = true) : s.size ≤ 2000 := by
  simp [validB] at h; exact h.2


end Go.Proofs.Ytoejelieogjjpaa

/- Append of one int64 to a slice of the call's own. -/
namespace Go.Proofs.Ytoejelieogjjpaa
open Go.ChangeShapes Go.WideShapes Go.RowKit
set_option linter.unusedVariables false
set_option maxHeartbeats 2000000
set_option maxRecDepth 100000
theorem info_i64 : (Try.prog.info? 2).map (fun i => (i.zero, i.size, i.bytes)) = some (some (.int .i64 0), 1, 8) := by kernel_rfl

theorem ownsRow_drewN {w : World} {base : Nat} {e : TypeId} {size : Nat} {v : Value} {n : Nat} {xs : List Value} (h : w.ownsRow base e size v n xs) (q : Nat) : (w.drewN q).ownsRow base e size v n xs := by
  simpa [World.ownsRow] using h
theorem app_i64 {ops : Array Oper} {rest : List Oper} {o : Oper} {a : Act} {Q : Exit → Act → World → Prop} (hgd : o.guard = none) (s x : Operand)
    (ho : o.op = .call { callee := .builtin .append, args := #[s, x], argTypes := #[67, 67] })
    (base : Nat) (wr : World) (g : Nat) (v : Value) (n : Nat) (xs : List Value) (y : Int) (hs : a.eval s = v) (hown : wr.ownsRow base 2 1 v n xs)
    (hx : a.eval x = .slice (some ⟨g, 0, none⟩) 1 1) (hg : g = wr.heap.size) (hn : n + 1 ≤ 1099511627776) (hbase : base ≤ wr.heap.size)
    (h : ∀ v' w', w'.ownsRow base 2 1 v' (n + 1) (xs ++ [.int .i64 y]) → Below base wr w' → wr.heap.size ≤ w'.heap.size → wpList Try.prog ops Q rest (a.put o.dst v') w') :
    wpList Try.prog ops Q (o :: rest) a (wr.alloc (.cells #[.int .i64 y] 2)) := by
  subst hg
  obtain ⟨i0, hi, hz0, hz1, hz2⟩ := info_parts info_i64
  have hlt := hown.lt
  refine wpList_append_own _ hgd s x 67 ho base 2 i0 (.int .i64 0) 1 8 Try.underlying67 hi hz0 hz1 hz2 rfl (by decide) v n xs hs (hown.alloc _) ⟨wr.heap.size, 0, none⟩ 1 1 [.int .i64 y] hx rfl ?_ ?_ ?_ ?_ ?_ ?_
  · exact cell_one_new _ _ _
  · simp [Value.oneCell']
  · unfold maxLen; omega
  · omega
  · simp; omega
  · intro v' w1 ho1 hg _
    have hb : Below base wr w1 := by
      refine Below.grown ((Below.refl _ _).alloc hbase _) hg (by simp; omega) ?_
      intro k hk
      exact (hlt k hk).1
    exact h v' w1 ho1 hb hb.size
/-- what is owned stays owned where it reads as another list that is the same -/
theorem owns_snoc {w : World} {base e : Nat} {v : Value} {l l' : List Int} {y : Int} (h : w.ownsRow base e 1 v (l.length + 1) (l.map (Value.int .i64) ++ [.int .i64 y])) (e1 : l' = l ++ [y]) : w.ownsRow base e 1 v l'.length (l'.map (Value.int .i64)) := by
  subst e1; simpa using h

end Go.Proofs.Ytoejelieogjjpaa

/- Slices of int64 that a call owns: eqInt64S, markInt64S, heldInt64S. -/
namespace Go.Proofs.Ytoejelieogjjpaa
open Go.ChangeShapes Go.WideShapes Go.RowKit
set_option linter.unusedVariables false
set_option linter.unusedSimpArgs false
set_option maxHeartbeats 2000000
set_option maxRecDepth 100000

theorem owns_cases {w : World} {base e : Nat} {v : Value} {n : Nat} {xs : List Value} (h : w.ownsRow base e 1 v n xs) : (v = .slice none 0 0 ∧ n = 0 ∧ xs = []) ∨ ∃ g cap, v = .slice (some ⟨g, 0, none⟩) n cap ∧ base ≤ g ∧ g < w.heap.size ∧ n ≤ cap ∧ cap ≤ maxLen ∧ xs.length = n := by
  have hl := h.lt
  obtain ⟨h1, h2⟩ := h
  rcases h2 with ⟨rfl, rfl⟩ | ⟨g, cap, cur, rfl, hb, hh, hn, hm, _, _⟩
  · left; exact ⟨rfl, rfl, List.eq_nil_of_length_eq_zero (by simpa using h1)⟩
  · right
    exact ⟨g, cap, rfl, hb, (hl g rfl).2, hn, hm, by simpa using h1⟩
/-- what is owned stays owned where nothing below the end of memory turns -/
theorem owns_below {w w' : World} {base e size : Nat} {v : Value} {n : Nat} {xs : List Value} (h : w.ownsRow base e size v n xs) {B : Nat} (hb : Below B w w') (hB : ∀ k, v.ownBlock = some k → k < B) : w'.ownsRow base e size v n xs := by
  obtain ⟨h1, h2⟩ := h
  refine ⟨h1, ?_⟩
  rcases h2 with h2 | ⟨g, cap, cur, rfl, hg, hh, r⟩
  · exact .inl h2
  · exact .inr ⟨g, cap, cur, rfl, hg, by rw [hb.block g (hB g rfl)]; exact hh, r⟩
theorem owns_after {w w' : World} {base e size : Nat} {v : Value} {n : Nat} {xs : List Value} (h : w.ownsRow base e size v n xs) (hb : Below w.heap.size w w') : w'.ownsRow base e size v n xs :=
  owns_below h hb fun k hk => (h.lt k hk).2
theorem owns_qt {w w' : World} {base e size : Nat} {v : Value} {n : Nat} {xs : List Value} (h : w.ownsRow base e size v n xs) (hb : Qt w w') : w'.ownsRow base e size v n xs := by
  obtain ⟨q, rfl⟩ := hb
  exact ownsRow_drewN h q
theorem owns_weak {w : World} {base base' e size : Nat} {v : Value} {n : Nat} {xs : List Value} (h : w.ownsRow base e size v n xs) (hb : base' ≤ base) : w.ownsRow base' e size v n xs := by
  obtain ⟨h1, h2⟩ := h
  refine ⟨h1, ?_⟩
  rcases h2 with h2 | ⟨g, cap, cur, rfl, hg, r⟩
  · exact .inl h2
  · exact .inr ⟨g, cap, cur, rfl, by omega, r⟩
theorem qt_size {w w' : World} (h : Qt w w') : w'.heap.size = w.heap.size := by
  obtain ⟨q, rfl⟩ := h; simp

theorem qt_dd (w : World) (q r : Nat) : Qt w ((w.drewN q).drewN r) := ⟨q + r, by simp⟩
theorem int_ne {a b : Int} (h : ¬ a = b) : (a != b) = true := by simpa using h
theorem grown_set {w w' : World} {g : Nat} (h : w.grownBy w' (some g)) (j : Nat) (u : Value) : w.grownBy (w'.setCell ⟨g, j, none⟩ u) (some g) :=
  ⟨h.os, h.tape, h.output, by have := h.size; simpa [World.setCell] using this, fun k hk hne => by
    rw [Below.heap_setCell _ _ _ _ (fun e => hne (by simp [e]))]; exact h.block k hk hne⟩
end Go.Proofs.Ytoejelieogjjpaa

/- BordersOf, of the program and of the reference, and its law. -/
namespace Go.Proofs.Ytoejelieogjjpaa
open Go.ChangeShapes Go.WideShapes Go.RowKit
set_option linter.unusedVariables false
set_option linter.unusedSimpArgs false
set_option maxHeartbeats 2000000
set_option maxRecDepth 100000

def ifl (b : Bool) (l : List Int) : List Int := if b then l else []
/-- a slice of int64 of the call's own -/
def Own64 (w w' : World) (v : Value) (l : List Int) : Prop := w'.ownsRow w.heap.size 2 1 v l.length (l.map (Value.int .i64)) ∧ Below w.heap.size w w'
theorem own64_nil {w w' : World} (hb : Below w.heap.size w w') : Own64 w w' (.slice none 0 0) [] := ⟨World.ownsRow_nil _ _ _ _, hb⟩
theorem own64_empty (w : World) : Own64 w (w.alloc (.cells #[] 2)) (.slice (some ⟨w.heap.size, 0, none⟩) 0 0) [] :=
  ⟨World.ownsRow_made w #[] 0 (Nat.le_refl _) (by decide) (by simp), (Below.refl _ _).alloc (Nat.le_refl _) _⟩

end Go.Proofs.Ytoejelieogjjpaa

/- Append to a slice of the call's own, with the block that it lies in afterwards. -/
namespace Go.Proofs.Ytoejelieogjjpaa
open Go.ChangeShapes Go.WideShapes Go.RowKit
set_option linter.unusedVariables false
set_option linter.unusedSimpArgs false
set_option maxHeartbeats 2000000
set_option maxRecDepth 100000
/-- where the slice lies behind an append -/
theorem append_blk {P : Program} (w : World) (base : Nat) (t ty e : TypeId) (i : TypeInfo) (z : Value) (size bytes : Nat) (ht : P.underlying t = some (.slice e)) (hi : P.info? e = some i) (hz : i.zero = some z)
    (hsize : i.size = size) (hby : i.bytes = bytes) (hsz : 0 < size)
    (v : Value) (n : Nat) (xs : List Value) (hown : w.ownsRow base e size v n xs)
    (a : Addr) (m c : Nat) (news : List Value) (hl : news.length = m * size) (hnews : ∀ j u, news[j]? = some u → w.cell? (a.add j) = some u) (h1 : ∀ u ∈ news, u.oneCell' = true)
    (hm : 0 < m) (h63 : n + m ≤ maxLen) (hbytes : (n + m) * bytes ≤ 140737488355328) (v' : Value) (w' : World)
    (hrun : (Builtin.append_ #[t, t] ty #[v, .slice (some a) m c]).run P w = .ok v' w') : v'.ownBlock = v.ownBlock ∨ v'.ownBlock = some w.heap.size := by
  subst hsize
  subst hby
  have hsmall : n + m ≤ 9223372036854775807 := by simp only [maxLen] at h63; omega
  rcases hown.2 with ⟨rfl, rfl⟩ | ⟨g, cap, cur, rfl, hbg, hg, hnc, hcm, hcs, htake⟩
  · have hr := run_append_nil (P := P) w t ty e i z ht hi hz a m c news hl hnews hm (by omega) (by have hb := hbytes; simp only [Nat.zero_add] at hb; omega)
    rw [hr] at hrun
    injection hrun with e1 e2
    subst e1
    exact .inr rfl
  · by_cases hroom : n + m ≤ cap
    · have hfit : n * i.size + news.length ≤ cur.size := by rw [hl, hcs, ← Nat.add_mul]; exact Nat.mul_le_mul_right _ hroom
      have hr := run_append_room (P := P) w t ty e i ht hi g n cap cur hg a m c news hl hnews h1 hroom hfit
      rw [hr] at hrun
      injection hrun with e1 e2
      subst e1
      exact .inl rfl
    · have holds : ∀ j u, xs[j]? = some u → w.cell? ((⟨g, 0, none⟩ : Addr).add j) = some u := hown.cells (g := g) rfl
      have hr := run_append_grow (P := P) w t ty e i z ht hi hz ⟨g, 0, none⟩ n cap xs hown.1 holds a m c news hl hnews (by omega) (by omega) (growslice_fits (by omega) hbytes)
      rw [hr] at hrun
      injection hrun with e1 e2
      subst e1
      exact .inr rfl

/-- append of one element (its cells 'news') that has just been laid in a block of its own -/
theorem app2 {ops : Array Oper} {rest : List Oper} {o : Oper} {a : Act} {Q : Exit → Act → World → Prop} (hgd : o.guard = none) (s x : Operand) (t : TypeId)
    (ho : o.op = .call { callee := .builtin .append, args := #[s, x], argTypes := #[t, t] })
    (base : Nat) (e : TypeId) (z : Value) (size bytes : Nat) (ht : Try.prog.underlying t = some (.slice e)) (hinfo : (Try.prog.info? e).map (fun i => (i.zero, i.size, i.bytes)) = some (some z, size, bytes)) (hzs : z.cells.size = size) (hsz : 0 < size)
    (wr : World) (g : Nat) (v : Value) (n : Nat) (xs : List Value) (hs : a.eval s = v) (hown : wr.ownsRow base e size v n xs)
    (news : List Value) (hl : news.length = size) (h1 : ∀ u ∈ news, u.oneCell' = true)
    (hx : a.eval x = .slice (some ⟨g, 0, none⟩) 1 1) (hg : g = wr.heap.size) (hn : n + 1 ≤ 1099511627776) (hby : bytes ≤ 64) (hbase : base ≤ wr.heap.size)
    (h : ∀ v' w', w'.ownsRow base e size v' (n + 1) (xs ++ news) → wr.grownBy w' v.ownBlock → (v'.ownBlock = v.ownBlock ∨ ∃ k, v'.ownBlock = some k ∧ wr.heap.size ≤ k) → wpList Try.prog ops Q rest (a.put o.dst v') w') :
    wpList Try.prog ops Q (o :: rest) a (wr.alloc (.cells news.toArray e)) := by
  subst hg
  obtain ⟨i0, hi, hz0, hz1, hz2⟩ := info_parts hinfo
  have hcells : ∀ j u, news[j]? = some u → (wr.alloc (.cells news.toArray e)).cell? ((⟨wr.heap.size, 0, none⟩ : Addr).add j) = some u := by
    intro j u hj
    rw [show (⟨wr.heap.size, 0, none⟩ : Addr).add j = ⟨wr.heap.size, j, none⟩ by unfold Addr.add; split <;> simp_all, World.cell?_alloc_at _ _ _ _ rfl]
    simpa using hj
  have hbb : (n + 1) * bytes ≤ 140737488355328 := Nat.le_trans (Nat.mul_le_mul hn hby) (by decide)
  obtain ⟨v', w', hr, h2, h3, h4⟩ := run_append_own (P := Try.prog) (wr.alloc (.cells news.toArray e)) base t o.type e i0 z size bytes ht hi hz0 hz1 hz2 hzs hsz v n xs (hown.alloc _) ⟨wr.heap.size, 0, none⟩ 1 1 news (by omega) hcells h1 (by unfold maxLen; omega) hbb (by simp; omega)
  have h5 := append_blk (P := Try.prog) (wr.alloc (.cells news.toArray e)) base t o.type e i0 z size bytes ht hi hz0 hz1 hz2 hsz v n xs (hown.alloc _) ⟨wr.heap.size, 0, none⟩ 1 1 news (by omega) hcells h1 (by decide) (by unfold maxLen; omega) hbb v' w' hr
  refine wpList_plain hgd fun _ hK => ?_
  unfold Oper.wp execOp
  simp only [ho, resolve, invoke, builtin, Sem.run_bind, Sem.run_pure, Result.andThen_ok, List.map_toArray, List.map_cons, List.map_nil, hs, hx, hr]
  refine hK _ _ (h v' w' h2 ?_ ?_)
  · refine ⟨h3.os, h3.tape, h3.output, by have := h3.size; simp at this; omega, fun k hk hne => ?_⟩
    rw [h3.block k (by simp; omega) hne]
    exact Below.heap_alloc _ _ _ hk
  · rcases h5 with h5 | h5
    · exact .inl h5
    · exact .inr ⟨_, h5, by simp⟩

/-- another row of the call's own is kept -/
theorem owns_other {w w' : World} {base base' e size e' size' n n' : Nat} {v v' : Value} {xs xs' : List Value} (h : w.ownsRow base e size v n xs) (hg : w.grownBy w' v'.ownBlock) (hne : v.ownBlock = none ∨ v.ownBlock ≠ v'.ownBlock) : w'.ownsRow base e size v n xs :=
  World.ownsRow.kept h hg hne
/-- two slices lie apart -/
def Apart2 (v v' : Value) : Prop := v.ownBlock = none ∨ v.ownBlock ≠ v'.ownBlock
theorem apart_step {w : World} {base e size n : Nat} {v u u' : Value} {xs : List Value} (h : w.ownsRow base e size v n xs) (ha : Apart2 v u) (hb : u'.ownBlock = u.ownBlock ∨ ∃ k, u'.ownBlock = some k ∧ w.heap.size ≤ k) : Apart2 v u' := by
  rcases ha with ha | ha
  · exact .inl ha
  · cases hv : v.ownBlock with
    | none => exact .inl hv
    | some k =>
      right
      rcases hb with hb | ⟨k', hb, hk'⟩
      · rw [hb]; exact ha
      · rw [hb, hv]
        intro he
        injection he with he
        have := (h.lt k hv).2
        omega
theorem below_of_grown {B : Nat} {w w' : World} {r : Option Nat} (h : w.grownBy w' r) (hB : B ≤ w.heap.size) (hr : ∀ k, r = some k → B ≤ k) : Below B w w' :=
  Below.grown (Below.refl _ _) h hB hr
end Go.Proofs.Ytoejelieogjjpaa

/- markText, and slices of strings that a call owns: eqStringS, markStringS, heldStringS. -/
namespace Go.Proofs.Ytoejelieogjjpaa
open Go.ChangeShapes Go.WideShapes Go.RowKit
set_option linter.unusedVariables false
set_option linter.unusedSimpArgs false
set_option maxHeartbeats 2000000
set_option maxRecDepth 100000
theorem ret_s {a b : ByteArray} (h : a = b) : Ending.returned (.string a) = .returned (.string b) := by rw [h]
theorem conv_one (y : Nat) (hy : y < 256) (w : World) : (convert 22 9 (.slice (some ⟨w.heap.size, 0, none⟩) 1 1)).run Try.prog (w.alloc (.cells #[.int .u8 (y : Int)] 5)) = .ok (.string ⟨#[UInt8.ofNat y]⟩) (w.alloc (.cells #[.int .u8 (y : Int)] 5)) := by
  refine Go.run_convert_bytes_back _ 22 9 5 ⟨w.heap.size, 0, none⟩ 1 [UInt8.ofNat y] Try.underlying22 Try.underlying5 Try.underlying9 ?_
  intro j hj
  have hj0 : j = 0 := by simp at hj; omega
  subst hj0
  rw [show (⟨w.heap.size, 0, none⟩ : Addr).add 0 = ⟨w.heap.size, 0, none⟩ by unfold Addr.add; split <;> simp_all, World.cell?_alloc_at _ _ _ _ rfl]
  simp; omega
end Go.Proofs.Ytoejelieogjjpaa

/- Slices of runs that a call owns: eqRunS, markRunS, heldRunS. -/
namespace Go.Proofs.Ytoejelieogjjpaa
open Go.ChangeShapes Go.WideShapes Go.RowKit
set_option linter.unusedVariables false
set_option linter.unusedSimpArgs false
set_option maxHeartbeats 4000000
set_option maxRecDepth 100000
end Go.Proofs.Ytoejelieogjjpaa

/- Slices of runs that come in: their size, and the copies that the laws make of them. -/
namespace Go.Proofs.Ytoejelieogjjpaa
open Go.ChangeShapes Go.WideShapes Go.RowKit
set_option linter.unusedVariables false
set_option linter.unusedSimpArgs false
set_option maxHeartbeats 4000000
set_option maxRecDepth 100000
/-- a slice that came in: its cells, element by element -/
def InRow (w : World) (v : Value) (n size : Nat) (xs : List Value) : Prop :=
  (n = 0 ∧ xs = [] ∧ ∃ a cap, v = .slice a 0 cap) ∨ ∃ b off cap, v = .slice (some ⟨b, off, none⟩) n cap ∧ b < w.heap.size ∧ n ≤ cap ∧ cap ≤ maxLen ∧ ∀ j, j < n * size → w.cell? ⟨b, off + j, none⟩ = xs[j]?
theorem inRow_below {w w' : World} {v : Value} {n size : Nat} {xs : List Value} (h : InRow w v n size xs) (hb : Below w.heap.size w w') : InRow w' v n size xs := by
  rcases h with h | ⟨b, off, cap, h1, h2, h3, h4, h5⟩
  · exact .inl h
  · exact .inr ⟨b, off, cap, h1, Nat.lt_of_lt_of_le h2 hb.size, h3, h4, fun j hj => by rw [hb.cell (p := ⟨b, off + j, none⟩) h2]; exact h5 j hj⟩
end Go.Proofs.Ytoejelieogjjpaa

/- Small facts on worlds, boxes, slices that the call owns. -/
namespace Go.Proofs.Ytoejelieogjjpaa
open Go.ChangeShapes Go.WideShapes Go.RowKit
set_option linter.unusedVariables false
set_option linter.unusedSimpArgs false
set_option maxHeartbeats 4000000
set_option maxRecDepth 100000
theorem below_box {w w1 : World} {o : Obj} (h : Below (w.alloc o).heap.size (w.alloc o) w1) : Below w.heap.size w w1 := ((Below.refl _ _).alloc (Nat.le_refl _) _).trans (h.mono (by simp))
theorem cell_st_same {w : World} {a : Addr} {u : Value} (v : Value) (h : w.cell? a = some u) : (w.setCell a v).cell? a = some v := by rw [World.cell?_setCell_same (h := h)]
theorem cell_st_ne {w : World} {a b : Addr} (v : Value) (hne : a.block ≠ b.block) : (w.setCell a v).cell? b = w.cell? b := by
  rw [World.cell?_setCell_other (h := by first | (intro h; exact hne (by rw [h])) | (intro h; exact hne (by rw [← h])))]
theorem owns_sl3 {w : World} {base e n : Nat} {v : Value} {xs : List Value} (h : w.ownsRow base e 1 v n xs) : ∃ a cap, v = .slice a n cap ∧ (n ≠ 0 → ∃ g, a = some ⟨g, 0, none⟩) ∧ cap ≤ maxLen := by
  rcases owns_cases h with ⟨rfl, rfl, _⟩ | ⟨g, cap, rfl, _, _, _, hm, _⟩
  · exact ⟨_, _, rfl, fun h => absurd rfl h, by unfold maxLen; omega⟩
  · exact ⟨_, _, rfl, fun _ => ⟨g, rfl⟩, hm⟩
theorem box_cell (w : World) (v : Value) (t : TypeId) : (w.alloc (.cells #[v] t)).cell? ⟨w.heap.size, 0, none⟩ = some v := by simp [go_sem]
theorem grown_bel {w w1 w2 : World} {r : Option Nat} (h : w.grownBy w1 r) (hb : Below w1.heap.size w1 w2) : w.grownBy w2 r :=
  ⟨hb.os.trans h.os, hb.tape.trans h.tape, hb.output.trans h.output, Nat.le_trans h.size hb.size, fun k hk hne => by rw [hb.block k (Nat.lt_of_lt_of_le hk h.size)]; exact h.block k hk hne⟩
theorem own_one (w : World) (x : Value) (e : TypeId) : (w.alloc (.cells #[x] e)).ownsRow w.heap.size e 1 (.slice (some ⟨w.heap.size, 0, none⟩) 1 1) 1 [x] :=
  ⟨rfl, .inr ⟨w.heap.size, 1, #[x], rfl, Nat.le_refl _, heap_alloc_new w _, Nat.le_refl _, by decide, rfl, rfl⟩⟩
theorem make64 {ops : Array Oper} {rest : List Oper} {o : Oper} {a : Act} {Q : Exit → Act → World → Prop} (w : World) (hg : o.guard = none) (l c : Operand) (hop : o.op = Op.makeSlice 67 l c) (base : Nat) (hbase : base ≤ w.heap.size) (n : Nat) (hl : a.eval l = .int .i64 n) (hc : a.eval c = .int .i64 n) (hn : n ≤ 1048576)
    (hK : ∀ w', w'.ownsRow base 2 1 (.slice (some ⟨w.heap.size, 0, none⟩) n n) n ((List.replicate n (0 : Int)).map (Value.int .i64)) → Below w.heap.size w w' → wpList Try.prog ops Q rest (a.put o.dst (.slice (some ⟨w.heap.size, 0, none⟩) n n)) w') :
    wpList Try.prog ops Q (o :: rest) a w := by
  obtain ⟨ii, hi, hz0, hz1, hz2⟩ := info_parts info_i64
  refine wpList_make_full w hg l c _ hop base 2 ii (.int .i64 0) 1 Try.underlying67 hi hz0 hz1 .i64 .i64 _ _ n hl hc rfl rfl (by rw [hz2]; omega) (by unfold maxLen; omega) hbase ?_
  intro w1 ho1 hg1
  refine hK w1 ?_ (below_of_grown hg1 (Nat.le_refl _) (fun k hk => by cases hk))
  rw [Nat.mul_one] at ho1
  have := toList_madeCells_one (.int .i64 0) n
  rw [show (Value.int IntKind.i64 0).cells = #[.int .i64 0] from rfl, this] at ho1
  simpa using ho1
theorem gen_world2 {c : Code} {Q : Exit → Act → World → Prop} {a : Act} {w' : World} (P : World → Prop) (h : P w') (k : ∀ w2, P w2 → Code.wp Try.prog c Q a w2) : Code.wp Try.prog c Q a w' := k w' h
theorem ownsRow_drew {w : World} {base e size : Nat} {v : Value} {n : Nat} {xs : List Value} (h : w.ownsRow base e size v n xs) : w.drew.ownsRow base e size v n xs := by
  exact h.drew
theorem own_set {w : World} {base e : Nat} {g n cap : Nat} {xs : List Int} (h : w.ownsRow base e 1 (.slice (some ⟨g, 0, none⟩) n cap) n (xs.map (Value.int .i64))) (k : Nat) (x : Int) :
    (w.setCell ⟨g, k, none⟩ (.int .i64 x)).ownsRow base e 1 (.slice (some ⟨g, 0, none⟩) n cap) n ((xs.set k x).map (Value.int .i64)) := by
  have := (h.stored k (.int .i64 x)).1
  rwa [← List.map_set] at this
theorem own_get {w : World} {base e : Nat} {g n cap : Nat} {xs : List Int} (h : w.ownsRow base e 1 (.slice (some ⟨g, 0, none⟩) n cap) n (xs.map (Value.int .i64))) (hl : xs.length = n) {k : Nat} (hk : k < n) : w.cell? ⟨g, k, none⟩ = some (.int .i64 (xs.getD k 0)) := by
  rw [h.cellAt k (by omega)]; simp [List.getD, show k < xs.length by omega]
end Go.Proofs.Ytoejelieogjjpaa

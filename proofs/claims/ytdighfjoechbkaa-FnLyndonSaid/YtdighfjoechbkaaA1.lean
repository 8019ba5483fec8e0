/- Append of one int64 to a slice of the call's own. -/
import Derived.Test.YtdighfjoechbkaaW3
namespace Go.Proofs.Ytdighfjoechbkaa
open Go.ChangeShapes Go.WideShapes Go.RowKit
set_option linter.unusedVariables false
set_option maxHeartbeats 2000000
set_option maxRecDepth 100000
theorem info_i64 : (Try.prog.info? 2).map (fun i => (i.zero, i.size, i.bytes)) = some (some (.int .i64 0), 1, 8) := by kernel_rfl

theorem ownsRow_drewN {w : World} {base : Nat} {e : TypeId} {size : Nat} {v : Value} {n : Nat} {xs : List Value} (h : w.ownsRow base e size v n xs) (q : Nat) : (w.drewN q).ownsRow base e size v n xs := by
  simpa [World.ownsRow] using h
theorem app_i64 {ops : Array Oper} {rest : List Oper} {o : Oper} {a : Act} {Q : Exit → Act → World → Prop} (hgd : o.guard = none) (s x : Operand)
    (ho : o.op = .call { callee := .builtin .append, args := #[s, x], argTypes := #[22, 22] })
    (base : Nat) (wr : World) (g : Nat) (v : Value) (n : Nat) (xs : List Value) (y : Int) (hs : a.eval s = v) (hown : wr.ownsRow base 2 1 v n xs)
    (hx : a.eval x = .slice (some ⟨g, 0, none⟩) 1 1) (hg : g = wr.heap.size) (hn : n + 1 ≤ 1099511627776) (hbase : base ≤ wr.heap.size)
    (h : ∀ v' w', w'.ownsRow base 2 1 v' (n + 1) (xs ++ [.int .i64 y]) → Below base wr w' → wr.heap.size ≤ w'.heap.size → wpList Try.prog ops Q rest (a.put o.dst v') w') :
    wpList Try.prog ops Q (o :: rest) a (wr.alloc (.cells #[.int .i64 y] 2)) := by
  subst hg
  obtain ⟨i0, hi, hz0, hz1, hz2⟩ := info_parts info_i64
  have hlt := hown.lt
  refine wpList_append_own _ hgd s x 22 ho base 2 i0 (.int .i64 0) 1 8 Try.underlying22 hi hz0 hz1 hz2 rfl (by decide) v n xs hs (hown.alloc _) ⟨wr.heap.size, 0, none⟩ 1 1 [.int .i64 y] hx rfl ?_ ?_ ?_ ?_ ?_ ?_
  · exact cell_one_new _ _ _
  · simp [Value.oneCell']
  · unfold maxLen; omega
  · omega
  · simp; omega
  · intro v' w1 ho1 hg _
    have hb : Below base wr w1 := by
      refine Below.grown ((Below.refl _ _).alloc hbase _) hg (by simp; omega) ?_
      intro k hk
      exact (hlt k hk).1
    exact h v' w1 ho1 hb hb.size
/-- what is owned stays owned where it reads as another list that is the same -/
theorem owns_snoc {w : World} {base e : Nat} {v : Value} {l l' : List Int} {y : Int} (h : w.ownsRow base e 1 v (l.length + 1) (l.map (Value.int .i64) ++ [.int .i64 y])) (e1 : l' = l ++ [y]) : w.ownsRow base e 1 v l'.length (l'.map (Value.int .i64)) := by
  subst e1; simpa using h

/-- all borders that are shorter than k -/
def bdTo (s : ByteArray) : Nat → List Int
  | 0 => []
  | k + 1 => if k ≠ 0 ∧ ((s.extract 0 k).toList == (s.extract (s.size - k) s.size).toList) = true then bdTo s k ++ [(k : Int)] else bdTo s k
theorem bdTo_yes (s : ByteArray) (k : Nat) (h1 : 1 ≤ k) (h : ((s.extract 0 k).toList == (s.extract (s.size - k) s.size).toList) = true) : bdTo s (k + 1) = bdTo s k ++ [(k : Int)] := by
  rw [bdTo, if_pos ⟨by omega, h⟩]
theorem bdTo_no (s : ByteArray) (k : Nat) (h : ((s.extract 0 k).toList == (s.extract (s.size - k) s.size).toList) = false) : bdTo s (k + 1) = bdTo s k := by
  rw [bdTo, if_neg (by rw [h]; simp)]
theorem bdTo_len (s : ByteArray) : ∀ k, (bdTo s k).length ≤ k
  | 0 => by simp [bdTo]
  | k + 1 => by
    have := bdTo_len s k
    rw [bdTo]
    split <;> simp <;> omega
theorem bdTo_end (s : ByteArray) (k : Nat) (h1 : 1 ≤ k) (h2 : k ≤ s.size ∨ k = 1) (h3 : ¬ k < s.size) : bdTo s k = bdTo s s.size := by
  by_cases h : k = s.size
  · rw [h]
  · have e1 : k = 1 := by omega
    have e0 : s.size = 0 := by omega
    rw [e1, e0]; simp [bdTo]
theorem i_borders (s : ByteArray) (w : World) (hs : s.size ≤ 1048576) : Calls Try.prog 81 #[.string s] w fun e w' => ∃ v, e = .returned v ∧ w'.ownsRow w.heap.size 2 1 v (bdTo s s.size).length ((bdTo s s.size).map (Value.int .i64)) ∧ Below w.heap.size w w' := by
  go_enter Try.func81, Try.ntmps81
  go_wp2
  go_loopw [3, 4] (fun v i wr => Below w.heap.size w wr ∧ ∃ k : Nat, 1 ≤ k ∧ (k ≤ s.size ∨ k = 1) ∧ i = .int .i64 k ∧ wr.ownsRow w.heap.size 2 1 v (bdTo s k).length ((bdTo s k).map (Value.int .i64))) (fun _ i _ => s.size + 1 - (intOf i).toNat)
  case atStart => exact ⟨(Below.refl _ _).alloc (Nat.le_refl _) _, 1, by omega, by omega, rfl, World.ownsRow_made w #[] 0 (Nat.le_refl _) (by decide) (by simp)⟩
  case round =>
    obtain ⟨hb, k, hk1, hk, rfl, hown⟩ := hrel
    have hsz := hb.size
    have hlen := bdTo_len s k
    have HE := Lib.hid (bdTo_end s k hk1 hk)
    by_cases hlt : k < s.size
    · clear hk
      have ew : IntKind.i64.wrap ((s.size : Int) - k) = (s.size : Int) - k := IntWalk.i64_in _ (by omega)
      cases ht : ((s.extract 0 k).toList == (s.extract (s.size - k) s.size).toList)
      · have HN := Lib.hid (bdTo_no s k ht)
        go_wp2
        go_quiet (fail)
        go_wp2
        go_roundw
        case rel => exact ⟨below_drewN hb _, k + 1, by omega, by omega, by go_num, by rw [HN.out]; exact ownsRow_drewN hown _⟩
        case measure => simp [intOf]; omega
      · have HN := Lib.hid (bdTo_yes s k hk1 ht)
        go_wp2
        go_quiet (fail)
        have hown1 := ownsRow_drewN hown nq
        go_wp2_with (at_builtin; refine app_i64 rfl (.tmp 22) (.tmp 24) rfl w.heap.size _ _ _ _ _ _ rfl hown1 rfl (by simp) (by omega) (by simpa using hsz) ?_; intro v' w1 ho1 hb1 hsz1)
        go_roundw
        case rel => exact ⟨(below_drewN hb _).trans hb1, k + 1, by omega, by omega, by go_num, owns_snoc ho1 HN.out⟩
        case measure => simp [intOf]; omega
    · have HX := Lib.hid (HE.out hlt)
      clear hk
      go_wp2
      go_ret
      exact ⟨_, rfl, by rw [← HX.out]; exact hown, hb⟩
end Go.Proofs.Ytdighfjoechbkaa

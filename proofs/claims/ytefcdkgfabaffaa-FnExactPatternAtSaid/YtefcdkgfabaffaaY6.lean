/- Two lists that grow in turn: an automaton's finals and its table. -/
import Derived.Test.YtefcdkgfabaffaaKT
namespace Go.Proofs.Ytefcdkgfabaffaa
open Go.ChangeShapes Go.WideShapes Go.RowKit
set_option linter.unusedVariables false
set_option linter.unusedSimpArgs false
set_option maxHeartbeats 2000000
set_option maxRecDepth 100000
/-- a row that has just been made goes behind a table of the call's own, its rows' values told -/
theorem appR {ops : Array Oper} {rest : List Oper} {o : Oper} {a : Act} {Q : Exit → Act → World → Prop} (hgd : o.guard = none) (s x : Operand)
    (ho : o.op = .call { callee := .builtin .append, args := #[s, x], argTypes := #[23, 23] })
    (base : Nat) (w0 wr : World) (g : Nat) (v r : Value) (vs : List Value) (t : Tb) (xs : List Int) (hs : a.eval s = v) (h : RowsT base w0 v vs t) (hb : Below w0.heap.size w0 wr) (hr : wr.ownsRow w0.heap.size 2 1 r xs.length (iv xs))
    (hx : a.eval x = .slice (some ⟨g, 0, none⟩) 1 1) (hg : g = wr.heap.size) (hn : t.length + 1 ≤ 1099511627776) (hbase : base ≤ w0.heap.size)
    (K : ∀ v' w', RowsT base w' v' (vs ++ [r]) (t ++ [xs]) → wr.grownBy w' v.ownBlock → (v'.ownBlock = v.ownBlock ∨ ∃ k, v'.ownBlock = some k ∧ wr.heap.size ≤ k) → wpList Try.prog ops Q rest (a.put o.dst v') w') :
    wpList Try.prog ops Q (o :: rest) a (wr.alloc (.cells #[r] 22)) := by
  obtain ⟨hl, hv, hrows, hd1, hd2⟩ := h
  obtain ⟨ra, rc, hrs, -, -⟩ := owns_sl3 hr
  have hv' := owns_after hv hb
  refine app2 hgd s x 23 ho base 22 (.slice none 0 0) 1 24 Try.underlying23 info_row rfl (by decide) wr g v t.length vs hs hv' [r] rfl ?_ hx hg hn (by decide) (Nat.le_trans hbase hb.size) ?_
  · intro u hu
    simp at hu
    subst hu; subst hrs; rfl
  · intro v' w' ho' hgr hblk
    have hbel : Below base wr w' := below_of_grown hgr (Nat.le_trans hbase hb.size) (fun k hk => (hv.lt k hk).1)
    have rowlt : ∀ i b, i < t.length → (vs.getD i undef).ownBlock = some b → b < w0.heap.size := fun i b hi e => ((hrows i hi).lt b e).2
    have rnew : ∀ b, r.ownBlock = some b → w0.heap.size ≤ b ∧ b < wr.heap.size := fun b e => hr.lt b e
    have vlt : ∀ b, v.ownBlock = some b → b < w0.heap.size := fun b e => (hv.lt b e).2
    refine K v' w' ⟨by simp [hl], by simpa using ho', ?_, ?_, ?_⟩ hgr hblk
    · intro k hk
      simp at hk
      by_cases he : k < t.length
      · rw [tA_app he, List.getD, List.getElem?_append_left (by omega)]
        refine World.ownsRow.kept (owns_after (hrows k he) hb) hgr ?_
        cases hq : (vs.getD k undef).ownBlock with
        | none => exact .inl hq
        | some b =>
          right
          show (vs.getD k undef).ownBlock ≠ _
          rw [hq]; exact fun e => hd2 k b he hq e.symm
      · have e : k = t.length := by omega
        subst e
        rw [tA_last, List.getD, List.getElem?_append_right (by omega)]
        simp only [hl, Nat.sub_self, List.getElem?_cons_zero, Option.getD_some]
        refine owns_weak (base := w0.heap.size) (World.ownsRow.kept hr hgr ?_) hbase
        cases hq : r.ownBlock with
        | none => exact .inl rfl
        | some b =>
          right
          intro e
          have := vlt b e.symm
          have := (rnew b hq).1
          omega
    · intro i j hij hj b h1 h2
      simp at hj
      rw [List.getD, List.getElem?_append_left (by omega)] at h1
      by_cases he : j < t.length
      · rw [List.getD, List.getElem?_append_left (by omega)] at h2
        exact hd1 i j hij he b h1 h2
      · have e : j = t.length := by omega
        subst e
        rw [List.getD, List.getElem?_append_right (by omega)] at h2
        simp only [hl, Nat.sub_self, List.getElem?_cons_zero, Option.getD_some] at h2
        have := rowlt i b hij h1
        have := (rnew b h2).1
        omega
    · intro i b hi h1 h2
      simp at hi
      have hb1 : b < wr.heap.size ∧ v.ownBlock ≠ some b := by
        by_cases he : i < t.length
        · rw [List.getD, List.getElem?_append_left (by omega)] at h1
          refine ⟨?_, hd2 i b he h1⟩
          have := rowlt i b he h1
          have := hb.size
          omega
        · have e : i = t.length := by omega
          subst e
          rw [List.getD, List.getElem?_append_right (by omega)] at h1
          simp only [hl, Nat.sub_self, List.getElem?_cons_zero, Option.getD_some] at h1
          obtain ⟨q1, q2⟩ := rnew b h1
          exact ⟨q2, fun e => by have := vlt b e; omega⟩
      rcases hblk with hblk | ⟨k, hk, hk2⟩
      · rw [hblk] at h2; exact hb1.2 h2
      · rw [hk] at h2; injection h2 with h2; omega
/-- a row more: the finals stay apart -/
theorem auR_row {base : Nat} {w0 wr w' : World} {f v v' r : Value} {vs : List Value} {a : Au} {xs : List Int} (h : AuR base w0 f v vs a) (hb : Below w0.heap.size w0 wr) (hr : wr.ownsRow w0.heap.size 2 1 r xs.length (iv xs))
    (h1 : RowsT base w' v' (vs ++ [r]) (a.nx ++ [xs])) (hg : wr.grownBy w' v.ownBlock) (hk : v'.ownBlock = v.ownBlock ∨ ∃ k, v'.ownBlock = some k ∧ wr.heap.size ≤ k) : AuR base w' f v' (vs ++ [r]) ⟨a.st, a.sa, a.fi, a.nx ++ [xs]⟩ := by
  obtain ⟨hf, hrows, hd⟩ := h
  refine ⟨World.ownsRow.kept (owns_after hf hb) hg ?_, h1, fun b hb1 => ⟨fun e => ?_, fun i hi e => ?_⟩⟩
  · cases hq : f.ownBlock with
    | none => exact .inl rfl
    | some b => right; exact fun e => (hd b hq).1 e.symm
  · have h2 := (hf.lt b hb1).2
    have h3 := hb.size
    rcases hk with hk | ⟨k, hk, hk2⟩
    · rw [hk] at e; exact (hd b hb1).1 e
    · rw [hk] at e; injection e with e; omega
  · have h2 := (hf.lt b hb1).2
    have hl : vs.length = a.nx.length := hrows.1
    have hi2 : i < (a.nx ++ [xs]).length := hi
    simp at hi2
    by_cases he : i < a.nx.length
    · rw [List.getD, List.getElem?_append_left (by omega)] at e
      exact (hd b hb1).2 i he e
    · have e2 : i = vs.length := by omega
      subst e2
      rw [List.getD, List.getElem?_append_right (Nat.le_refl _)] at e
      simp only [Nat.sub_self, List.getElem?_cons_zero, Option.getD_some] at e
      have := (hr.lt b e).1
      omega
/-- a final more: it stays apart from the table -/
theorem auR_fin {base : Nat} {w w' : World} {f f' v : Value} {vs : List Value} {a : Au} {y : Int} (h : AuR base w f v vs a) (h1 : w'.ownsRow base 2 1 f' (a.fi.length + 1) (iv a.fi ++ [.int .i64 y]))
    (hg : w.grownBy w' f.ownBlock) (hk : f'.ownBlock = f.ownBlock ∨ ∃ k, f'.ownBlock = some k ∧ w.heap.size ≤ k) : AuR base w' f' v vs ⟨a.st, a.sa, a.fi ++ [y], a.nx⟩ := by
  obtain ⟨hf, hrows, hd⟩ := h
  refine ⟨by simpa [iv] using h1, rowsT_gpx hrows (Gp.of (P := fun b => f.ownBlock = some b) hg (fun b hb => hb)) (fun b hb hb2 => (hd b hb2).1 hb) (fun i hi b hb hb2 => (hd b hb2).2 i hi hb), fun b hb => ⟨fun e => ?_, fun i hi e => ?_⟩⟩
  · rcases hk with hk | ⟨k, hk, hk2⟩
    · rw [hk] at hb; exact (hd b hb).1 e
    · rw [hk] at hb; injection hb with hb
      have := (hrows.2.1.lt b e).2
      omega
  · rcases hk with hk | ⟨k, hk, hk2⟩
    · rw [hk] at hb; exact (hd b hb).2 i hi e
    · rw [hk] at hb; injection hb with hb
      have := ((hrows.2.2.1 i hi).lt b e).2
      omega
end Go.Proofs.Ytefcdkgfabaffaa

/- The automaton that accepts what two accept: plain law. -/
namespace Go.Proofs.Ytefcdkgfabaffaa
open Go.ChangeShapes Go.WideShapes Go.RowKit
set_option linter.unusedVariables false
set_option linter.unusedSimpArgs false
set_option maxHeartbeats 2000000
set_option maxRecDepth 100000
/-- state x is the pair of x / n and x % n, n the second automaton's states -/
def baE (a b : Au) (x c : Nat) : Int := (tA a.nx (x / b.nx.length)).getD c 0 * b.st + (tA b.nx (x % b.nx.length)).getD c 0
def baR (a b : Au) (x : Nat) : Nat → List Int
  | 0 => []
  | c + 1 => baR a b x c ++ [baE a b x c]
def baT (a b : Au) : Nat → Tb
  | 0 => []
  | x + 1 => baT a b x ++ [baR a b x 4]
def baH (a b : Au) (x : Nat) : Bool := a.fi.contains ((x / b.nx.length : Nat) : Int) && b.fi.contains ((x % b.nx.length : Nat) : Int)
def baF (a b : Au) : Nat → List Int
  | 0 => []
  | x + 1 => baF a b x ++ (if baH a b x = true then [(x : Int)] else [])
theorem baR_len (a b : Au) (x : Nat) : ∀ c, (baR a b x c).length = c
  | 0 => rfl
  | c + 1 => by rw [baR, List.length_append, baR_len a b x c]; rfl
theorem baT_len (a b : Au) : ∀ x, (baT a b x).length = x
  | 0 => rfl
  | x + 1 => by rw [baT, List.length_append, baT_len a b x]; rfl
theorem baF_len (a b : Au) : ∀ x, (baF a b x).length ≤ x
  | 0 => by simp [baF]
  | x + 1 => by
    have := baF_len a b x
    rw [baF, List.length_append]
    split <;> simp <;> omega
theorem baT_row (a b : Au) : ∀ {n x : Nat}, x < n → tA (baT a b n) x = baR a b x 4
  | 0, x, h => by omega
  | n + 1, x, h => by
    have hl := baT_len a b n
    rw [baT]
    by_cases he : x < n
    · rw [tA_app (by omega)]; exact baT_row a b he
    · have e : x = n := by omega
      subst e
      have := @tA_last (baT a b x) (baR a b x 4)
      rwa [hl] at this
def baA (a b : Au) : Au := ⟨a.st * b.st, a.sa * b.st + b.sa, baF a b (a.nx.length * b.nx.length), baT a b (a.nx.length * b.nx.length)⟩
def boR (a b : Au) : Au := if (auOk a && auOk b) = true ∧ a.st * b.st ≤ 24 then baA a b else ⟨0, 0, [], []⟩
def boC (a b : Au) : Int := if (auOk a && auOk b) = true then (if a.st * b.st ≤ 24 then 0 else 3) else 1
theorem boR_sm (a b : Au) : auSm (boR a b) := by
  unfold boR
  split
  · rename_i h
    obtain ⟨h1, h2⟩ := h
    rw [Bool.and_eq_true] at h1
    obtain ⟨_, _, _, fa, _⟩ := auOk_facts h1.1
    obtain ⟨_, _, _, fb, _⟩ := auOk_facts h1.2
    have hn : ((a.nx.length * b.nx.length : Nat) : Int) = a.st * b.st := by rw [Int.natCast_mul, fa, fb]
    have hn2 : a.nx.length * b.nx.length ≤ 24 := by omega
    refine ⟨?_, ?_, fun r hr => ?_⟩
    · have := baF_len a b (a.nx.length * b.nx.length)
      show (baF a b (a.nx.length * b.nx.length)).length ≤ 1048576
      omega
    · show (baT a b (a.nx.length * b.nx.length)).length ≤ 1048576
      rw [baT_len]; omega
    · obtain ⟨j, hj, rfl⟩ := List.getElem_of_mem hr
      have hj2 : j < a.nx.length * b.nx.length := by have hj3 : j < (baT a b (a.nx.length * b.nx.length)).length := hj; rwa [baT_len] at hj3
      have := baT_row a b hj2
      rw [tA, List.getD, List.getElem?_eq_getElem (by rw [baT_len]; exact hj2)] at this
      have h5 : ((baT a b (a.nx.length * b.nx.length))[j]'(by rw [baT_len]; exact hj2)) = baR a b j 4 := this
      show ((baT a b (a.nx.length * b.nx.length))[j]'(by rw [baT_len]; exact hj2)).length ≤ 1048576
      rw [h5, baR_len]; omega
  · exact ⟨by simp, by simp, fun r hr => by cases hr⟩
end Go.Proofs.Ytefcdkgfabaffaa

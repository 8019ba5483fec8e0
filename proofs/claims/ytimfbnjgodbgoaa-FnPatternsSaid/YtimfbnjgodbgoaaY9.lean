/- Drawn grammars: copies, raised rules, appends of rules; l02Told. -/
import Derived.Test.YtimfbnjgodbgoaaUA
import Derived.Test.YtimfbnjgodbgoaaP1
import Derived.Deep.AppendLies
import Derived.RegionCalls
import Derived.Test.YtimfbnjgodbgoaaUT
namespace Go.Proofs.Ytimfbnjgodbgoaa
open Go.ChangeShapes Go.WideShapes Go.RowKit
set_option linter.unusedVariables false
set_option linter.unusedSimpArgs false
set_option maxHeartbeats 2000000
set_option maxRecDepth 100000
theorem info_rule : (Try.prog.info? 34).map (fun i => (i.zero, i.size, i.bytes)) = some (some (.agg #[.string ⟨#[]⟩, .int .i64 0, .int .i64 0]), 3, 32) := by kernel_rfl
theorem ruV_app (l m : List Ru) : ruV (l ++ m) = ruV l ++ ruV m := by simp [ruV]
theorem ruV_one (l : List Ru) : ∀ u ∈ ruV l, u.oneCell' = true := by
  intro u hu
  simp only [ruV, List.mem_flatMap] at hu
  obtain ⟨r, -, hr⟩ := hu
  simp at hr
  rcases hr with rfl | rfl | rfl <;> rfl
theorem owns_cases3 {w : World} {base e size : Nat} {v : Value} {n : Nat} {xs : List Value} (h : w.ownsRow base e size v n xs) : (v = .slice none 0 0 ∧ n = 0 ∧ xs = []) ∨ ∃ g cap, v = .slice (some ⟨g, 0, none⟩) n cap ∧ base ≤ g ∧ g < w.heap.size ∧ n ≤ cap ∧ cap ≤ maxLen ∧ xs.length = n * size := by
  have hl := h.lt
  obtain ⟨h1, h2⟩ := h
  rcases h2 with ⟨rfl, rfl⟩ | ⟨g, cap, cur, rfl, hb, hh, hn, hm, _, _⟩
  · left; exact ⟨rfl, rfl, List.eq_nil_of_length_eq_zero (by simpa using h1)⟩
  · right
    exact ⟨g, cap, rfl, hb, (hl g rfl).2, hn, hm, h1⟩
theorem owns_some3 {w : World} {base e size : Nat} {v : Value} {n : Nat} {xs : List Value} (h : w.ownsRow base e size v n xs) (h0 : n ≠ 0) : ∃ g cap, v = .slice (some ⟨g, 0, none⟩) n cap ∧ base ≤ g ∧ g < w.heap.size := by
  rcases owns_cases3 h with ⟨_, hn, _⟩ | ⟨g, cap, rfl, h1, h2, _⟩
  · exact absurd hn h0
  · exact ⟨g, cap, rfl, h1, h2⟩
/-- rules of the call's own -/
def OwnRu (w : World) (base : Nat) (v : Value) (l : List Ru) : Prop := w.ownsRow base 34 3 v l.length (ruV l)
theorem OwnRu.kept {w w' : World} {base : Nat} {v : Value} {l : List Ru} {r : Option Nat} (h : OwnRu w base v l) (hg : w.grownBy w' r) (hn : v.ownBlock = none ∨ v.ownBlock ≠ r) : OwnRu w' base v l := World.ownsRow.kept h hg hn
theorem OwnRu.alloc {w : World} {base : Nat} {v : Value} {l : List Ru} (h : OwnRu w base v l) (o : Obj) : OwnRu (w.alloc o) base v l := World.ownsRow.alloc h o
theorem OwnRu.weak {w : World} {base b2 : Nat} {v : Value} {l : List Ru} (h : OwnRu w base v l) (hb : b2 ≤ base) : OwnRu w b2 v l := owns_weak h hb
theorem inRu_of_own {w : World} {base : Nat} {v : Value} {l : List Ru} (h : OwnRu w base v l) (h0 : l ≠ []) : InRu w v l := by
  unfold OwnRu at h
  have hp : 0 < l.length := List.length_pos_iff.2 h0
  rcases owns_cases3 h with ⟨_, hn, _⟩ | ⟨g, cap, rfl, _⟩
  · omega
  · exact inRu_own rfl h
/-- append of one rule, at a step of a region that draws its order -/
theorem step_app_ru {ops : Array Oper} {o : Oper} {a : Act} {K : Act → World → Prop} {Q : Exit → Act → World → Prop} {E : Prop} (hgd : o.guard = none) (s x : Operand)
    (ho : o.op = .call { callee := .builtin .append, args := #[s, x], argTypes := #[24, 24] })
    (base : Nat) (w : World) (v : Value) (l : List Ru) (r : Ru) (hs : a.eval s = v) (hown : OwnRu w base v l)
    (B : Nat) (hx : a.eval x = .slice (some ⟨B, 0, none⟩) 1 1) (hc0 : w.cell? ⟨B, 0, none⟩ = some (.string r.1)) (hc1 : w.cell? ⟨B, 1, none⟩ = some (.int .i64 r.2.1)) (hc2 : w.cell? ⟨B, 2, none⟩ = some (.int .i64 r.2.2)) (hn : l.length ≤ 1048576) (hbase : base ≤ w.heap.size)
    (h : ∀ g cap w', OwnRu w' base (.slice (some ⟨g, 0, none⟩) (l.length + 1) cap) (l ++ [r]) → w.grownBy w' v.ownBlock → base ≤ g → g < w'.heap.size → (v.ownBlock = some g ∨ g = w.heap.size) → K (a.put o.dst (.slice (some ⟨g, 0, none⟩) (l.length + 1) cap)) w') :
    if Region.wanted o (yielded ops a.tmps) = true then Oper.wp Try.prog o a w K Q else E := by
  obtain ⟨i0, hi, hz0, hz1, hz2⟩ := info_parts info_rule
  refine step_append_lies w hgd s x 24 ho base 34 i0 (.agg #[.string ⟨#[]⟩, .int .i64 0, .int .i64 0]) 3 32 Try.underlying24 hi hz0 hz1 hz2 rfl (by decide) v l.length (ruV l) hs hown ⟨B, 0, none⟩ 1 1 (ruV [r]) hx rfl ?_ (ruV_one [r]) (by decide) ?_ ?_ hbase _ rfl ?_
  · intro j u hj
    have : (⟨B, 0, none⟩ : Addr).add j = ⟨B, j, none⟩ := by unfold Addr.add; split <;> simp_all
    rw [this]
    match j, hj with
    | 0, hj => simp [ruV] at hj; subst hj; exact hc0
    | 1, hj => simp [ruV] at hj; subst hj; exact hc1
    | 2, hj => simp [ruV] at hj; subst hj; exact hc2
    | j + 3, hj => simp [ruV] at hj
  · unfold maxLen; omega
  · omega
  · intro g cap w1 ho1 hg hor hl1
    refine h g cap w1 ?_ hg ?_ hl1 hor
    · unfold OwnRu; rw [ruV_app, List.length_append]; exact ho1
    · rcases hor with h1 | rfl
      · exact (hown.lt g h1).1
      · exact hbase
/-- append of one rule, in a plain region -/
theorem list_app_ru {ops : Array Oper} {rest : List Oper} {o : Oper} {a : Act} {Q : Exit → Act → World → Prop} (hgd : o.guard = none) (s x : Operand)
    (ho : o.op = .call { callee := .builtin .append, args := #[s, x], argTypes := #[24, 24] })
    (base : Nat) (w : World) (v : Value) (l : List Ru) (r : Ru) (hs : a.eval s = v) (hown : OwnRu w base v l)
    (B : Nat) (hx : a.eval x = .slice (some ⟨B, 0, none⟩) 1 1) (hc0 : w.cell? ⟨B, 0, none⟩ = some (.string r.1)) (hc1 : w.cell? ⟨B, 1, none⟩ = some (.int .i64 r.2.1)) (hc2 : w.cell? ⟨B, 2, none⟩ = some (.int .i64 r.2.2)) (hn : l.length ≤ 1048576) (hbase : base ≤ w.heap.size)
    (h : ∀ g cap w', OwnRu w' base (.slice (some ⟨g, 0, none⟩) (l.length + 1) cap) (l ++ [r]) → w.grownBy w' v.ownBlock → base ≤ g → g < w'.heap.size → (v.ownBlock = some g ∨ g = w.heap.size) → wpList Try.prog ops Q rest (a.put o.dst (.slice (some ⟨g, 0, none⟩) (l.length + 1) cap)) w') :
    wpList Try.prog ops Q (o :: rest) a w := by
  obtain ⟨i0, hi, hz0, hz1, hz2⟩ := info_parts info_rule
  refine wpList_append_lies w hgd s x 24 ho base 34 i0 (.agg #[.string ⟨#[]⟩, .int .i64 0, .int .i64 0]) 3 32 Try.underlying24 hi hz0 hz1 hz2 rfl (by decide) v l.length (ruV l) hs hown ⟨B, 0, none⟩ 1 1 (ruV [r]) hx rfl ?_ (ruV_one [r]) (by decide) ?_ ?_ hbase _ rfl ?_
  · intro j u hj
    have : (⟨B, 0, none⟩ : Addr).add j = ⟨B, j, none⟩ := by unfold Addr.add; split <;> simp_all
    rw [this]
    match j, hj with
    | 0, hj => simp [ruV] at hj; subst hj; exact hc0
    | 1, hj => simp [ruV] at hj; subst hj; exact hc1
    | 2, hj => simp [ruV] at hj; subst hj; exact hc2
    | j + 3, hj => simp [ruV] at hj
  · unfold maxLen; omega
  · omega
  · intro g cap w1 ho1 hg hor hl1
    refine h g cap w1 ?_ hg ?_ hl1 hor
    · unfold OwnRu; rw [ruV_app, List.length_append]; exact ho1
    · rcases hor with h1 | rfl
      · exact (hown.lt g h1).1
      · exact hbase
theorem keepA {w w1 : World} {x : Value} {t : TypeId} {o : Obj} (hg : ((w.alloc (.cells #[x] t)).alloc o).grownBy w1 (some (w.heap.size + 1))) : w1.cell? ⟨w.heap.size, 0, none⟩ = some x ∧ w1.frozen? ⟨w.heap.size, 0, none⟩ = false := by
  refine ⟨?_, ?_⟩
  · rw [hg.cell_far _ (by simp; omega) (by simp)]; simp [go_sem]
  · rw [hg.frozen_far _ (by simp; omega) (by simp)]; simp [go_sem]
/-- a box behind an append -/
theorem app_box {wr w2 w4 : World} {o : Obj} {g bx : Nat} {v : Value} (t0 : Below wr.heap.size wr w2) (hg : (w2.alloc o).grownBy w4 (some g)) (hb : bx < wr.heap.size) (hne : g ≠ bx) (hc : wr.cell? ⟨bx, 0, none⟩ = some v) (hf : wr.frozen? ⟨bx, 0, none⟩ = false) : w4.cell? ⟨bx, 0, none⟩ = some v ∧ w4.frozen? ⟨bx, 0, none⟩ = false := by
  have hz := t0.size
  have t1 : Below wr.heap.size wr (w2.alloc o) := t0.alloc hz _
  refine ⟨?_, ?_⟩
  · rw [hg.cell_far _ (by simp; omega) (by simp; omega), t1.cell (p := ⟨bx, 0, none⟩) hb]; exact hc
  · rw [hg.frozen_far _ (by simp; omega) (by simp; omega), t1.frozen (p := ⟨bx, 0, none⟩) hb]; exact hf
theorem app_below {w wr w2 w4 : World} {o : Obj} {g b : Nat} (h : Below b w wr) (hb : b ≤ w.heap.size) (t0 : Below wr.heap.size wr w2) (hg : (w2.alloc o).grownBy w4 (some g)) (hge : b ≤ g) : Below b w w4 := by
  have h1 := h.size
  have h2 := t0.size
  exact Below.grown ((h.trans (t0.mono (by omega))).alloc (by omega) _) hg (by simp; omega) (fun q hq => by injection hq with hq; omega)
theorem app_ne {wr w2 : World} {o : Obj} {g g3 bx c : Nat} {len : Nat} (t0 : Below wr.heap.size wr w2) (hor : (Value.slice (some ⟨g, 0, none⟩) len c).ownBlock = some g3 ∨ g3 = (w2.alloc o).heap.size) (hne : g ≠ bx) (hb : bx < wr.heap.size) : g3 ≠ bx := by
  have hz := t0.size
  rcases hor with h | h
  · simp [Value.ownBlock] at h; omega
  · simp at h; omega
/-- a copy of a grammar -/
theorem s_l02Own (bq oq cap : Nat) (a : Option Addr) (l : List Ru) (w : World) (h0 : l ≠ []) (hn : l.length ≤ 1048576) (hcell : w.cell? ⟨bq, oq, none⟩ = some (.slice a l.length cap)) (hin : InRu w (.slice a l.length cap) l) :
    Calls Try.prog 65 #[.pointer (some ⟨bq, oq, none⟩)] w fun e w' => ∃ v', e = .returned (.agg #[v']) ∧ OwnRu w' w.heap.size v' l ∧ Below w.heap.size w w' := by
  have hp : 0 < l.length := List.length_pos_iff.2 h0
  obtain ⟨i0, hi, hz0, hz1, hz2⟩ := info_parts info_rule
  rcases hin with ⟨hl0, _⟩ | ⟨b, off, cap', hv, hb, hnc, hcm, hc⟩
  · omega
  injection hv with e1 e2 e3
  subst e1 e3
  have hbq := World.block_lt_of_cell? _ _ hcell
  have hB2 : Below w.heap.size w ((w.alloc (.cells #[.slice none 0 0] 26)).alloc (.cells #[] 34)) := ((Below.refl _ _).alloc (Nat.le_refl _) _).alloc (by simp) _
  have hnews : ∀ j u, (ruV l)[j]? = some u → ((w.alloc (.cells #[.slice none 0 0] 26)).alloc (.cells #[] 34)).cell? ((⟨b, off, none⟩ : Addr).add j) = some u := by
    intro j u hu
    have hj : j < l.length * 3 := by
      rcases Nat.lt_or_ge j (l.length * 3) with hq | hq
      · exact hq
      · rw [List.getElem?_eq_none (by rw [ruV_len]; omega)] at hu; cases hu
    have e : (⟨b, off, none⟩ : Addr).add j = ⟨b, off + j, none⟩ := by unfold Addr.add; split <;> simp_all
    rw [e, hB2.cell (p := ⟨b, off + j, none⟩) hb, hc j hj]
    exact hu
  have hown : ((w.alloc (.cells #[.slice none 0 0] 26)).alloc (.cells #[] 34)).ownsRow (w.heap.size + 1) 34 3 (.slice (some ⟨w.heap.size + 1, 0, none⟩) 0 0) 0 [] := by
    have := World.ownsRow_made (base := w.heap.size + 1) (e := 34) (size := 3) (w.alloc (.cells #[.slice none 0 0] 26)) #[] 0 (by simp) (by decide) (by simp)
    simpa using this
  have HNW := Lib.hid hnews
  have HB2 := Lib.hid hB2
  clear hc hnews hB2 hb hnc hcm
  go_enter Try.func65, Try.ntmps65
  go_wp2_with (at_builtin; refine wpList_append_own _ rfl _ _ 24 rfl (w.heap.size + 1) 34 i0 (.agg #[.string ⟨#[]⟩, .int .i64 0, .int .i64 0]) 3 32 Try.underlying24 hi hz0 hz1 hz2 rfl (by decide) _ _ _ rfl hown ⟨b, off, none⟩ l.length cap (ruV l) rfl (by rw [ruV_len]) HNW.out (ruV_one l) (by unfold maxLen; omega) (by omega) (by simp) ?_; intro v' w1 ho1 hg1 _; obtain ⟨g2, cap2, rfl, hge2, hlt2⟩ := owns_some3 ho1 (by omega); obtain ⟨c1, f1⟩ := keepA hg1)
  have ho2 := owns_weak (ownsRow_setCell_below ho1 (a := ⟨w.heap.size, 0, none⟩) (by simp) (.slice (some ⟨g2, 0, none⟩) (0 + l.length) cap2)) (show w.heap.size ≤ _ by simp)
  have hres : (w1.setCell ⟨w.heap.size, 0, none⟩ (.slice (some ⟨g2, 0, none⟩) (0 + l.length) cap2)).cell? ⟨w.heap.size, 0, none⟩ = some (.slice (some ⟨g2, 0, none⟩) (0 + l.length) cap2) := cell_st_same _ c1
  rw [Nat.zero_add] at ho2 hres
  have hB3 : Below w.heap.size w w1 := Below.grown HB2.out hg1 (by simp; omega) (fun k hk => by have hk2 : some (w.heap.size + 1) = some k := hk; injection hk2 with hk2; omega)
  have HO := Lib.hid ho2
  have HB3 := Lib.hid hB3
  clear ho1 ho2 hg1 hB3 hown
  go_wp2
  exact bodyPost_ret (v := .agg #[.slice (some ⟨g2, 0, none⟩) l.length cap2]) (by simp [results, Try.results65, go_sem, hres]) rfl ⟨_, rfl, by unfold OwnRu; simpa using HO.out, HB3.out.setCell (by simp) _⟩
theorem s_l02Told (a : Option Addr) (cap : Nat) (l : List Ru) (w : World) (hn : l.length ≤ 1048576) (hsz : ∀ r ∈ l, r.1.size ≤ 1048576) (hin : InRu w (.slice a l.length cap) l) :
    Calls Try.prog 66 #[.agg #[.slice a l.length cap]] w fun e w' => Below w.heap.size w w' ∧ ((gOk l = true ∧ e = .returned (.tuple #[.agg #[.slice a l.length cap], .int .i64 0])) ∨ (gOk l = false ∧ e = .returned (.tuple #[.agg #[.slice none 0 0], .int .i64 3]))) := by
  have b0 := box_cell w (.slice a l.length cap) 26
  have i0 := inRu_box (o := .cells #[.slice a l.length cap] 26) hin
  have hB := (Below.refl (w.alloc (.cells #[.slice a l.length cap] 26)).heap.size (w.alloc (.cells #[.slice a l.length cap] 26))).alloc (Nat.le_refl _) (.cells #[.slice none 0 0] 26)
  have HS := Lib.hid (s_l02Ok w.heap.size 0 cap a l _ hn hsz (cell_later hB b0) (inRu_below i0 hB))
  have HB := Lib.hid hB
  clear hin i0 b0 hB hsz
  cases hok : gOk l
  all_goals
    rw [hok] at HS
    go_enter Try.func66, Try.ntmps66
    go_wp2_with fail
    refine HS.out.mono ?_
    rintro e w2 ⟨rfl, hb2⟩
    have c0 : w2.cell? ⟨w.heap.size, 0, none⟩ = some (.slice a l.length cap) := by rw [hb2.cell (by simp; omega)]; simp [go_sem]
    have c1 : w2.cell? ⟨w.heap.size + 1, 0, none⟩ = some (.slice none 0 0) := by rw [hb2.cell (by simp)]; simp [go_sem]
    have f1 : w2.frozen? ⟨w.heap.size + 1, 0, none⟩ = false := by rw [hb2.frozen (by simp)]; simp [go_sem]
    have HB3 : Hid (Below w.heap.size w w2) := below_box (below_box hb2)
    clear hb2 HS
    go_wp2
  · exact bodyPost_ret (v := .tuple #[.agg #[.slice none 0 0], .int .i64 3]) (by simp [results, Try.results66, go_sem, cell_st_same _ c1]) rfl ⟨HB3.out.setCell (by simp) _, .inr ⟨trivial, rfl⟩⟩
  · exact bodyPost_ret (v := .tuple #[.agg #[.slice a l.length cap], .int .i64 0]) (by simp [results, Try.results66, go_sem, cell_st_same _ c1]) rfl ⟨HB3.out.setCell (by simp) _, .inl ⟨trivial, rfl⟩⟩
end Go.Proofs.Ytimfbnjgodbgoaa

/- Drawn grammars: raised rules, joined and powered grammars. -/
namespace Go.Proofs.Ytimfbnjgodbgoaa
open Go.ChangeShapes Go.WideShapes Go.RowKit
set_option linter.unusedVariables false
set_option linter.unusedSimpArgs false
set_option maxHeartbeats 2000000
set_option maxRecDepth 100000
def raR (r : Ru) (by_ : Int) : Ru := if r.1.size = 0 then (r.1, wrap64 (r.2.1 + by_), wrap64 (r.2.2 + by_)) else r
theorem s_l02Raised (x : ByteArray) (p q d : Int) (w : World) :
    Calls Try.prog 73 #[.agg #[.string x, .int .i64 p, .int .i64 q], .int .i64 d] w fun e w' => e = .returned (.agg #[.string (raR (x, p, q) d).1, .int .i64 (raR (x, p, q) d).2.1, .int .i64 (raR (x, p, q) d).2.2]) ∧ Below w.heap.size w w' := by
  by_cases hz : x.size = 0
  · have ex := size_zero hz
    have HR : Hid (raR (x, p, q) d = (x, wrap64 (p + d), wrap64 (q + d))) := by show _ = _; rw [raR, if_pos hz]
    rw [HR.out]
    subst ex
    clear hz HR
    go_enter Try.func73, Try.ntmps73
    go_wp2
    exact bodyPost_ret (v := .agg #[.string ⟨#[]⟩, .int .i64 (wrap64 (p + d)), .int .i64 (wrap64 (q + d))]) (by simp [results, Try.results73, go_sem]) rfl ⟨rfl, ((Below.refl _ _).alloc (Nat.le_refl _) _).alloc (by simp) _⟩
  · have hne := neq_empty hz
    have hne2 := not_empty hz
    have HR : Hid (raR (x, p, q) d = (x, p, q)) := by show _ = _; rw [raR, if_neg hz]
    rw [HR.out]
    clear hz HR
    go_enter Try.func73, Try.ntmps73
    go_wp2
    exact bodyPost_ret (v := .agg #[.string x, .int .i64 p, .int .i64 q]) (by simp [results, Try.results73, go_sem]) rfl ⟨rfl, ((Below.refl _ _).alloc (Nat.le_refl _) _).alloc (by simp) _⟩
def joR (l m : List Ru) (k : Nat) : List Ru := l ++ (m.take k).map (fun r => raR r l.length)
def joA (l m : List Ru) : List Ru := joR l m m.length ++ [(⟨#[]⟩, (l.length : Int) - 1, (l.length : Int) + m.length - 1)]
theorem joR_len {l m : List Ru} {k : Nat} (h : k ≤ m.length) : (joR l m k).length = l.length + k := by simp [joR]; omega
theorem joR_step {l m : List Ru} {k : Nat} (h : k < m.length) : joR l m (k + 1) = joR l m k ++ [raR (ruA m k) l.length] := by
  rw [joR, joR, List.take_succ_eq_append_getElem h, List.map_append, List.append_assoc, ruA, List.getD, List.getElem?_eq_getElem h]
  rfl
theorem s_l02Join (ba oa ca bb ob cb : Nat) (a b : Option Addr) (l m : List Ru) (w : World) (h0 : l ≠ []) (h1 : m ≠ []) (hl : l.length ≤ 400) (hm : m.length ≤ 400)
    (hca : w.cell? ⟨ba, oa, none⟩ = some (.slice a l.length ca)) (hia : InRu w (.slice a l.length ca) l) (hcb : w.cell? ⟨bb, ob, none⟩ = some (.slice b m.length cb)) (hib : InRu w (.slice b m.length cb) m) :
    Calls Try.prog 67 #[.pointer (some ⟨ba, oa, none⟩), .pointer (some ⟨bb, ob, none⟩)] w fun e w' => ∃ v', e = .returned (.agg #[v']) ∧ OwnRu w' w.heap.size v' (joA l m) ∧ Below w.heap.size w w' := by
  have hp : 0 < l.length := List.length_pos_iff.2 h0
  have hq : 0 < m.length := List.length_pos_iff.2 h1
  have hpe : ((l.length : Int) == 0) = false := by rw [beq_eq_false_iff_ne]; omega
  have hqe : ((m.length : Int) == 0) = false := by rw [beq_eq_false_iff_ne]; omega
  have hba := World.block_lt_of_cell? _ _ hca
  have hbb := World.block_lt_of_cell? _ _ hcb
  have HA := Lib.hid (fun (w' : World) c i => s_l02Own ba oa ca a l w' h0 (by omega) c i)
  have hB := (Below.refl w.heap.size w).alloc (Nat.le_refl _) (.cells #[.slice none 0 0] 26)
  have HIA := Lib.hid (inRu_below hia hB)
  have HIB := Lib.hid hib
  clear hia hib h0 h1
  go_enter Try.func67, Try.ntmps67
  go_wp2_with fail
  refine (HA.out _ (cell_later hB hca) HIA.out).mono ?_
  rintro e w1 ⟨v1, rfl, ho1, hb1⟩
  obtain ⟨g1, cc1, rfl, hg1, hg1'⟩ := owns_some3 ho1 (by omega)
  have c0 : w1.cell? ⟨w.heap.size, 0, none⟩ = some (.slice none 0 0) := by rw [hb1.cell (by simp)]; simp [go_sem]
  have f0 : w1.frozen? ⟨w.heap.size, 0, none⟩ = false := by rw [hb1.frozen (by simp)]; simp [go_sem]
  have hb2 : Below w.heap.size w w1 := below_box hb1
  have hca1 := cell_later hb2 hca
  have hcb1 := cell_later hb2 hcb
  have hs1 : w.heap.size + 1 ≤ w1.heap.size := by have := hb1.size; simpa using this
  have ho1' : OwnRu w1 (w.heap.size + 1) (.slice (some ⟨g1, 0, none⟩) l.length cc1) l := by simpa using ho1
  simp at hg1
  have hba1 : ba < w1.heap.size := by omega
  have hbb1 : bb < w1.heap.size := by omega
  have HO1 := Lib.hid ho1'
  have HB2 := Lib.hid hb2
  clear ho1 ho1' hb1 hb2 HA hB HIA
  go_wp2
  go_loopw [7] (fun i wr => ∃ k g c : Nat, k ≤ m.length ∧ i = .int .i64 k ∧ wr.cell? ⟨w1.heap.size, 0, none⟩ = some (.slice (some ⟨g, 0, none⟩) (l.length + k) c) ∧ wr.frozen? ⟨w1.heap.size, 0, none⟩ = false ∧ g ≠ w1.heap.size ∧ OwnRu wr (w.heap.size + 1) (.slice (some ⟨g, 0, none⟩) (l.length + k) c) (joR l m k) ∧ Below w.heap.size w wr ∧ wr.cell? ⟨w.heap.size, 0, none⟩ = some (.slice none 0 0) ∧ wr.frozen? ⟨w.heap.size, 0, none⟩ = false ∧ w1.heap.size < wr.heap.size) (fun i _ => m.length - (intOf i).toNat)
  case atStart =>
    refine ⟨0, g1, cc1, by omega, rfl, by simp [go_sem], by simp [go_sem], by omega, ?_, HB2.out.alloc (by omega) _, ?_, ?_, by simp⟩
    · have := HO1.out.alloc (.cells #[.slice (some ⟨g1, 0, none⟩) l.length cc1] 26)
      simpa [OwnRu, joR] using this
    · exact cell_later ((Below.refl _ _).alloc (Nat.le_refl _) _) c0
    · rw [((Below.refl w1.heap.size w1).alloc (Nat.le_refl _) _).frozen (show w.heap.size < w1.heap.size by omega)]; exact f0
  case round =>
    obtain ⟨k, g, c, hk, rfl, hct, hft, hne, hown, hb, hcr, hfr, hsz⟩ := hrel
    have hcbw := cell_later hb hcb
    have hcaw := cell_later hb hca
    by_cases hlt : k < m.length
    · have hin : ((k : Nat) : Int) < m.length := by omega
      obtain ⟨b', off, rfl, hbl, hc0, hc1, hc2⟩ := inRu_at (inRu_below HIB.out hb) hlt
      have hbl2 : b' < w.heap.size := by
        obtain ⟨b'', off', e, h', -⟩ := inRu_at HIB.out hlt
        injection e with e; injection e with e; omega
      have hgge : w.heap.size + 1 ≤ g := (hown.lt g rfl).1
      have HSTEP := Lib.hid (joR_step (l := l) hlt)
      have HJL := Lib.hid (joR_len (l := l) (m := m) (k := k) hk)
      obtain ⟨r, hr⟩ : ∃ r, ruA m k = r := ⟨_, rfl⟩
      rw [hr] at HSTEP hc0 hc1 hc2
      obtain ⟨x1, x2, x3⟩ := r
      clear hr
      simp only at hc0 hc1 hc2
      have HB := Lib.hid hb
      have HO := Lib.hid hown
      clear hb hown
      go_wp2
      refine wp_region_L (S := fun w' => Below wr.heap.size wr w' ∧ w'.cell? ⟨w1.heap.size, 0, none⟩ = some (.slice (some ⟨g, 0, none⟩) (l.length + k) c) ∧ w'.cell? ⟨bb, ob, none⟩ = some (.slice (some ⟨b', off, none⟩) m.length cb) ∧ w'.cell? ⟨b', off + k * 3, none⟩ = some (.string x1) ∧ w'.cell? ⟨b', off + k * 3 + 1, none⟩ = some (.int .i64 x2) ∧ w'.cell? ⟨b', off + k * 3 + 2, none⟩ = some (.int .i64 x3)) (T := [12]) (by kernel_rfl) ⟨Below.drew (Below.refl _ _), by assumption, by assumption, by assumption, by assumption, by assumption⟩ (fun hHeld => ?_)
      refine wpAnyL_take (i := 0) (v := ?_) rfl (by kernel_rfl) (by kernel_rfl) (by kernel_rfl) (by kernel_rfl) (fun _ _ _ h => h) (Or.inl ⟨by rfl, ?_⟩) (by assumption) ?_
      rotate_left
      · intro w hSw
        try dsimp only at hSw
        go_simp
        all_goals with_reducible rfl
      try simp only [Act.put, List.setIfInBounds_toArray, List.set_cons_zero, List.set_cons_succ]
      refine wpAnyL_take (i := 1) (v := ?_) rfl (by kernel_rfl) (by kernel_rfl) (by kernel_rfl) (by kernel_rfl) (fun _ _ _ h => h) (Or.inl ⟨by rfl, ?_⟩) (by assumption) ?_
      rotate_left
      · intro w hSw
        try dsimp only at hSw
        go_simp
        all_goals with_reducible rfl
      try simp only [Act.put, List.setIfInBounds_toArray, List.set_cons_zero, List.set_cons_succ]
      refine wpAnyL_take (i := 2) (v := ?_) rfl (by kernel_rfl) (by kernel_rfl) (by kernel_rfl) (by kernel_rfl) (fun _ _ _ h => h) (Or.inl ⟨by rfl, ?_⟩) (by assumption) ?_
      rotate_left
      · intro w hSw
        try dsimp only at hSw
        go_simp
        all_goals with_reducible rfl
      try simp only [Act.put, List.setIfInBounds_toArray, List.set_cons_zero, List.set_cons_succ]
      refine wpAnyL_take (i := 3) (v := ?_) rfl (by kernel_rfl) (by kernel_rfl) (by kernel_rfl) (by kernel_rfl) (fun _ _ _ h => h) (Or.inl ⟨by rfl, ?_⟩) (by assumption) ?_
      rotate_left
      · intro w hSw
        try dsimp only at hSw
        go_simp
        all_goals with_reducible rfl
      try simp only [Act.put, List.setIfInBounds_toArray, List.set_cons_zero, List.set_cons_succ]
      refine wpAnyL_take (i := 4) (v := ?_) rfl (by kernel_rfl) (by kernel_rfl) (by kernel_rfl) (by kernel_rfl) (fun _ _ _ h => h) (Or.inl ⟨by rfl, ?_⟩) (by assumption) ?_
      rotate_left
      · intro w hSw
        try dsimp only at hSw
        go_simp
        all_goals with_reducible rfl
      try simp only [Act.put, List.setIfInBounds_toArray, List.set_cons_zero, List.set_cons_succ]
      refine wpAnyL_take (i := 5) (v := ?_) rfl (by kernel_rfl) (by kernel_rfl) (by kernel_rfl) (by kernel_rfl) (fun _ _ _ h => h) (Or.inl ⟨by rfl, ?_⟩) (by assumption) ?_
      rotate_left
      · intro w hSw
        try dsimp only at hSw
        go_simp
        all_goals with_reducible rfl
      try simp only [Act.put, List.setIfInBounds_toArray, List.set_cons_zero, List.set_cons_succ]
      refine wpAnyL_take (i := 6) (v := ?_) rfl (by kernel_rfl) (by kernel_rfl) (by kernel_rfl) (by kernel_rfl) (fun _ _ _ h => h) (Or.inl ⟨by rfl, ?_⟩) (by assumption) ?_
      rotate_left
      · intro w hSw
        try dsimp only at hSw
        go_simp
        all_goals with_reducible rfl
      try simp only [Act.put, List.setIfInBounds_toArray, List.set_cons_zero, List.set_cons_succ]
      refine wpAnyL_take (i := 7) (v := ?_) rfl (by kernel_rfl) (by kernel_rfl) (by kernel_rfl) (by kernel_rfl) (fun _ _ _ h => h) (Or.inl ⟨by rfl, ?_⟩) (by assumption) ?_
      rotate_left
      · intro w hSw
        try dsimp only at hSw
        go_simp
        all_goals with_reducible rfl
      try simp only [Act.put, List.setIfInBounds_toArray, List.set_cons_zero, List.set_cons_succ]
      refine wpAnyL_take (i := 8) (v := ?_) rfl (by kernel_rfl) (by kernel_rfl) (by kernel_rfl) (by kernel_rfl) (fun _ _ _ h => h) (Or.inl ⟨by rfl, ?_⟩) (by assumption) ?_
      rotate_left
      · intro w hSw
        try dsimp only at hSw
        go_simp
        all_goals with_reducible rfl
      try simp only [Act.put, List.setIfInBounds_toArray, List.set_cons_zero, List.set_cons_succ]
      refine wpAnyL_take (i := 9) (v := ?_) rfl (by kernel_rfl) (by kernel_rfl) (by kernel_rfl) (by kernel_rfl) (fun _ _ _ h => h) (Or.inl ⟨by rfl, ?_⟩) (by assumption) ?_
      rotate_left
      · intro w hSw
        try dsimp only at hSw
        go_simp
        all_goals with_reducible rfl
      try simp only [Act.put, List.setIfInBounds_toArray, List.set_cons_zero, List.set_cons_succ]
      obtain ⟨s0, s1, s2, s3, s4, s5⟩ := hHeld
      refine wpAnyL_one (i := 10) (by kernel_rfl) (by rfl) rfl (fun K hK => ?_)
      go_simp
      go_at_call 73
      refine (s_l02Raised x1 x2 x3 _ _).mono ?_
      rintro e w2 ⟨rfl, hb7⟩
      have t0 := s0.trans (hb7.mono s0.size)
      have t1 := cell_later hb7 s1
      have t2 := cell_later hb7 s2
      have t3 := cell_later hb7 s3
      have t4 := cell_later hb7 s4
      have t5 := cell_later hb7 s5
      clear s0 s1 s2 s3 s4 s5 hb7
      go_wp2_with fail
      refine hK.out _ _ ⟨t0, t1, t2, t3, t4, t5⟩ ?_
      clear hK K
      try simp only [Act.put, List.setIfInBounds_toArray, List.set_cons_zero, List.set_cons_succ]
      refine wpAnyL_one (i := 11) (by kernel_rfl) (by rfl) rfl (fun K hK => ?_)
      go_simp
      go_wp2_with fail
      refine hK.out _ _ ⟨t0.alloc t0.size _, cell_later ((Below.refl _ _).alloc (Nat.le_refl _) _) t1, cell_later ((Below.refl _ _).alloc (Nat.le_refl _) _) t2, cell_later ((Below.refl _ _).alloc (Nat.le_refl _) _) t3, cell_later ((Below.refl _ _).alloc (Nat.le_refl _) _) t4, cell_later ((Below.refl _ _).alloc (Nat.le_refl _) _) t5⟩ ?_
      clear hK K
      try simp only [Act.put, List.setIfInBounds_toArray, List.set_cons_zero, List.set_cons_succ]
      refine wpAnyL_tail (i := 12) (by kernel_rfl) (by rfl) rfl (fun K hK => ?_)
      refine step_app_ru (by rfl) _ _ (by rfl) (w.heap.size + 1) _ _ (joR l m k) (raR (x1, x2, x3) l.length) (by rfl) (World.ownsRow.alloc (owns_after HO.out t0) _) w2.heap.size (by rfl) (by simp [go_sem]) (by simp [go_sem]) (by simp [go_sem]) (by rw [HJL.out]; omega) (by have := t0.size; simp; omega) ?_
      intro g3 c3 w4 ho4 hg4 hge4 hlt4 hor4
      have hne3 : g3 ≠ w1.heap.size := by
        have := t0.size
        rcases hor4 with h | h
        · simp [Value.ownBlock] at h; omega
        · simp at h; omega
      clear hor4
      rw [HJL.out, Nat.add_assoc] at ho4
      rw [HJL.out, Nat.add_assoc]
      refine hK.out _ _ ?_
      clear hK K
      try simp only [Act.put, List.setIfInBounds_toArray, List.set_cons_zero, List.set_cons_succ]
      have f2 : w2.frozen? ⟨w1.heap.size, 0, none⟩ = false := by rw [t0.frozen (by simpa using hsz)]; exact hft
      have tb : w1.heap.size < w2.heap.size := by have := t0.size; omega
      have ct4 : w4.cell? ⟨w1.heap.size, 0, none⟩ = some (.slice (some ⟨g, 0, none⟩) (l.length + k) c) := by
        rw [hg4.cell_far _ (by simp; omega) (by simp [Value.ownBlock]; omega)]; exact cell_later ((Below.refl _ _).alloc (Nat.le_refl _) _) t1
      have f4 : w4.frozen? ⟨w1.heap.size, 0, none⟩ = false := by
        rw [hg4.frozen_far _ (by simp; omega) (by simp [Value.ownBlock]; omega)]; exact (((Below.refl w2.heap.size w2).alloc (Nat.le_refl _) _).frozen (p := ⟨w1.heap.size, 0, none⟩) tb).trans f2
      have hs4 : w2.heap.size + 1 ≤ w4.heap.size := by have := hg4.size; simpa using this
      have hb4 : Below w.heap.size w w4 := Below.grown ((HB.out.trans (t0.mono HB.out.size)).alloc (by have := HB.out.size; have := t0.size; omega) _) hg4 (by have := HB.out.size; have := t0.size; simp; omega) (fun q hq => by simp [Value.ownBlock] at hq; omega)
      have hbx : w4.cell? ⟨w.heap.size, 0, none⟩ = wr.cell? ⟨w.heap.size, 0, none⟩ := by
        rw [hg4.cell_far _ (by simp; omega) (by simp [Value.ownBlock]; omega), ((Below.refl w2.heap.size w2).alloc (Nat.le_refl _) _).cell (p := ⟨w.heap.size, 0, none⟩) (by simp; omega), t0.cell (p := ⟨w.heap.size, 0, none⟩) (by simp; omega)]
      have hfx : w4.frozen? ⟨w.heap.size, 0, none⟩ = false := by
        rw [hg4.frozen_far _ (by simp; omega) (by simp [Value.ownBlock]; omega), ((Below.refl w2.heap.size w2).alloc (Nat.le_refl _) _).frozen (p := ⟨w.heap.size, 0, none⟩) (by simp; omega), t0.frozen (p := ⟨w.heap.size, 0, none⟩) (by simp; omega)]; exact hfr
      have HBX := Lib.hid hbx
      have HO4 := Lib.hid ho4
      have HB4 := Lib.hid hb4
      clear ho4 hb4 hg4 hbx f2 t0 t1 t2 t3 t4 t5 HO HB
      refine wpAny_one (i := 13) (by kernel_rfl) rfl (fun K hK => ?_)
      go_simp
      go_wp2_with fail
      refine hK.out _ _ ?_
      clear hK K
      try simp only [Act.put, List.setIfInBounds_toArray, List.set_cons_zero, List.set_cons_succ]
      refine wpAny_one (i := 14) (by kernel_rfl) rfl (fun K hK => ?_)
      go_simp
      go_wp2_with fail
      refine hK.out _ _ ?_
      clear hK K
      try simp only [Act.put, List.setIfInBounds_toArray, List.set_cons_zero, List.set_cons_succ]
      refine wpAny_done (by kernel_rfl) ?_ _
      go_wp2
      go_roundw
      case rel =>
        refine ⟨k + 1, g3, c3, by omega, by go_num, cell_st_same _ ct4, by simpa using f4, hne3, ?_, HB4.out.setCell (by simp; omega) _, ?_, ?_, by simp; omega⟩
        · rw [HSTEP.out]; exact HO4.out.kept (grownBy_set _ _ _) (.inr (by simp [Value.ownBlock]; omega))
        · rw [World.cell?_setCell_far _ _ _ _ (by simp; omega), HBX.out]; exact hcr
        · simpa using hfx
      case measure => simp [intOf]; omega
    · obtain rfl : k = m.length := by omega
      have hin : ¬ ((m.length : Nat) : Int) < m.length := by omega
      have hw1 : IntKind.i64.wrap ((l.length : Int) - 1) = (l.length : Int) - 1 := IntWalk.i64_in _ (by omega)
      have hw2 : IntKind.i64.wrap ((l.length : Int) + m.length) = (l.length : Int) + m.length := IntWalk.i64_in _ (by omega)
      have hw3 : IntKind.i64.wrap ((l.length : Int) + m.length - 1) = (l.length : Int) + m.length - 1 := IntWalk.i64_in _ (by omega)
      have hgge : w.heap.size + 1 ≤ g := (hown.lt g rfl).1
      have HJL := Lib.hid (joR_len (l := l) (m := m) (k := m.length) (Nat.le_refl _))
      have HB := Lib.hid hb
      have HO := Lib.hid hown
      clear hb hown hcb1 hca1 HO1
      go_wp2
      refine wp_region_L (S := fun w' => Below wr.heap.size wr w' ∧ w'.cell? ⟨w1.heap.size, 0, none⟩ = some (.slice (some ⟨g, 0, none⟩) (l.length + m.length) c) ∧ w'.cell? ⟨bb, ob, none⟩ = some (.slice b m.length cb)) (T := [14]) (by kernel_rfl) ⟨Below.drew (Below.refl _ _), by assumption, by assumption⟩ (fun hHeld => ?_)
      refine wpAnyL_take (i := 0) (v := ?_) rfl (by kernel_rfl) (by kernel_rfl) (by kernel_rfl) (by kernel_rfl) (fun _ _ _ h => h) (Or.inl ⟨by rfl, ?_⟩) (by assumption) ?_
      rotate_left
      · intro w hSw
        try dsimp only at hSw
        go_simp
        all_goals with_reducible rfl
      try simp only [Act.put, List.setIfInBounds_toArray, List.set_cons_zero, List.set_cons_succ]
      refine wpAnyL_take (i := 1) (v := ?_) rfl (by kernel_rfl) (by kernel_rfl) (by kernel_rfl) (by kernel_rfl) (fun _ _ _ h => h) (Or.inl ⟨by rfl, ?_⟩) (by assumption) ?_
      rotate_left
      · intro w hSw
        try dsimp only at hSw
        go_simp
        all_goals with_reducible rfl
      try simp only [Act.put, List.setIfInBounds_toArray, List.set_cons_zero, List.set_cons_succ]
      refine wpAnyL_take (i := 2) (v := ?_) rfl (by kernel_rfl) (by kernel_rfl) (by kernel_rfl) (by kernel_rfl) (fun _ _ _ h => h) (Or.inl ⟨by rfl, ?_⟩) (by assumption) ?_
      rotate_left
      · intro w hSw
        try dsimp only at hSw
        go_simp
        all_goals with_reducible rfl
      try simp only [Act.put, List.setIfInBounds_toArray, List.set_cons_zero, List.set_cons_succ]
      refine wpAnyL_take (i := 3) (v := ?_) rfl (by kernel_rfl) (by kernel_rfl) (by kernel_rfl) (by kernel_rfl) (fun _ _ _ h => h) (Or.inl ⟨by rfl, ?_⟩) (by assumption) ?_
      rotate_left
      · intro w hSw
        try dsimp only at hSw
        go_simp
        all_goals with_reducible rfl
      try simp only [Act.put, List.setIfInBounds_toArray, List.set_cons_zero, List.set_cons_succ]
      refine wpAnyL_take (i := 4) (v := ?_) rfl (by kernel_rfl) (by kernel_rfl) (by kernel_rfl) (by kernel_rfl) (fun _ _ _ h => h) (Or.inl ⟨by rfl, ?_⟩) (by assumption) ?_
      rotate_left
      · intro w hSw
        try dsimp only at hSw
        go_simp
        all_goals with_reducible rfl
      try simp only [Act.put, List.setIfInBounds_toArray, List.set_cons_zero, List.set_cons_succ]
      refine wpAnyL_take (i := 5) (v := ?_) rfl (by kernel_rfl) (by kernel_rfl) (by kernel_rfl) (by kernel_rfl) (fun _ _ _ h => h) (Or.inl ⟨by rfl, ?_⟩) (by assumption) ?_
      rotate_left
      · intro w hSw
        try dsimp only at hSw
        go_simp
        all_goals with_reducible rfl
      try simp only [Act.put, List.setIfInBounds_toArray, List.set_cons_zero, List.set_cons_succ]
      refine wpAnyL_take (i := 6) (v := ?_) rfl (by kernel_rfl) (by kernel_rfl) (by kernel_rfl) (by kernel_rfl) (fun _ _ _ h => h) (Or.inl ⟨by rfl, ?_⟩) (by assumption) ?_
      rotate_left
      · intro w hSw
        try dsimp only at hSw
        go_simp
        all_goals with_reducible rfl
      try simp only [Act.put, List.setIfInBounds_toArray, List.set_cons_zero, List.set_cons_succ]
      refine wpAnyL_take (i := 7) (v := ?_) rfl (by kernel_rfl) (by kernel_rfl) (by kernel_rfl) (by kernel_rfl) (fun _ _ _ h => h) (Or.inl ⟨by rfl, ?_⟩) (by assumption) ?_
      rotate_left
      · intro w hSw
        try dsimp only at hSw
        go_simp
        all_goals with_reducible rfl
      try simp only [Act.put, List.setIfInBounds_toArray, List.set_cons_zero, List.set_cons_succ]
      refine wpAnyL_take (i := 8) (v := ?_) rfl (by kernel_rfl) (by kernel_rfl) (by kernel_rfl) (by kernel_rfl) (fun _ _ _ h => h) (Or.inl ⟨by rfl, ?_⟩) (by assumption) ?_
      rotate_left
      · intro w hSw
        try dsimp only at hSw
        go_simp
        all_goals with_reducible rfl
      try simp only [Act.put, List.setIfInBounds_toArray, List.set_cons_zero, List.set_cons_succ]
      refine wpAnyL_take (i := 9) (v := ?_) rfl (by kernel_rfl) (by kernel_rfl) (by kernel_rfl) (by kernel_rfl) (fun _ _ _ h => h) (Or.inl ⟨by rfl, ?_⟩) (by assumption) ?_
      rotate_left
      · intro w hSw
        try dsimp only at hSw
        go_simp
        all_goals with_reducible rfl
      try simp only [Act.put, List.setIfInBounds_toArray, List.set_cons_zero, List.set_cons_succ]
      refine wpAnyL_take (i := 10) (v := ?_) rfl (by kernel_rfl) (by kernel_rfl) (by kernel_rfl) (by kernel_rfl) (fun _ _ _ h => h) (Or.inl ⟨by rfl, ?_⟩) (by assumption) ?_
      rotate_left
      · intro w hSw
        try dsimp only at hSw
        go_simp
        all_goals with_reducible rfl
      try simp only [Act.put, List.setIfInBounds_toArray, List.set_cons_zero, List.set_cons_succ]
      refine wpAnyL_take (i := 11) (v := ?_) rfl (by kernel_rfl) (by kernel_rfl) (by kernel_rfl) (by kernel_rfl) (fun _ _ _ h => h) (Or.inl ⟨by rfl, ?_⟩) (by assumption) ?_
      rotate_left
      · intro w hSw
        try dsimp only at hSw
        go_simp
        all_goals with_reducible rfl
      try simp only [Act.put, List.setIfInBounds_toArray, List.set_cons_zero, List.set_cons_succ]
      refine wpAnyL_take (i := 12) (v := ?_) rfl (by kernel_rfl) (by kernel_rfl) (by kernel_rfl) (by kernel_rfl) (fun _ _ _ h => h) (Or.inl ⟨by rfl, ?_⟩) (by assumption) ?_
      rotate_left
      · intro w hSw
        try dsimp only at hSw
        go_simp
        all_goals with_reducible rfl
      try simp only [Act.put, List.setIfInBounds_toArray, List.set_cons_zero, List.set_cons_succ]
      obtain ⟨s0, s1, s2⟩ := hHeld
      refine wpAnyL_one (i := 13) (by kernel_rfl) (by rfl) rfl (fun K hK => ?_)
      go_simp
      go_wp2_with fail
      refine hK.out _ _ ⟨s0.alloc s0.size _, cell_later ((Below.refl _ _).alloc (Nat.le_refl _) _) s1, cell_later ((Below.refl _ _).alloc (Nat.le_refl _) _) s2⟩ ?_
      clear hK K
      try simp only [Act.put, List.setIfInBounds_toArray, List.set_cons_zero, List.set_cons_succ]
      refine wpAnyL_tail (i := 14) (by kernel_rfl) (by rfl) rfl (fun K hK => ?_)
      refine step_app_ru (by rfl) _ _ (by rfl) (w.heap.size + 1) _ _ (joR l m m.length) (⟨#[]⟩, (l.length : Int) - 1, (l.length : Int) + m.length - 1) (by rfl) (World.ownsRow.alloc (owns_after HO.out s0) _) wr.drew.heap.size (by rfl) (by simp [go_sem]) (by simp [go_sem]) (by simp [go_sem]) (by rw [HJL.out]; omega) (by have := s0.size; simp; omega) ?_
      intro g3 c3 w4 ho4 hg4 hge4 hlt4 hor4
      refine hK.out _ _ ?_
      clear hK K
      try simp only [Act.put, List.setIfInBounds_toArray, List.set_cons_zero, List.set_cons_succ]
      rw [HJL.out, Nat.add_assoc] at ho4
      rw [HJL.out, Nat.add_assoc]
      have hne3 := app_ne s0 hor4 hne hsz
      obtain ⟨ct4, f4⟩ := app_box s0 hg4 hsz hne hct hft
      obtain ⟨cr4, fr4⟩ := app_box s0 hg4 (show w.heap.size < wr.heap.size by omega) (show g ≠ w.heap.size by omega) hcr hfr
      have HO4 := Lib.hid ho4
      have HB4 := Lib.hid (app_below HB.out (Nat.le_refl _) s0 hg4 (show w.heap.size ≤ g by omega))
      have hs4 : wr.heap.size + 1 ≤ w4.heap.size := by have := hg4.size; simpa using this
      clear ho4 hg4 hor4 s0 s1 s2 HB HO hct hft hcr hfr
      refine wpAny_one (i := 15) (by kernel_rfl) rfl (fun K hK => ?_)
      go_simp
      go_wp2_with fail
      refine hK.out _ _ ?_
      clear hK K
      try simp only [Act.put, List.setIfInBounds_toArray, List.set_cons_zero, List.set_cons_succ]
      refine wpAny_one (i := 16) (by kernel_rfl) rfl (fun K hK => ?_)
      go_simp
      go_wp2_with fail
      refine hK.out _ _ ?_
      clear hK K
      try simp only [Act.put, List.setIfInBounds_toArray, List.set_cons_zero, List.set_cons_succ]
      refine wpAny_done (by kernel_rfl) ?_ _
      go_wp2
      refine bodyPost_ret (v := .agg #[.slice (some ⟨g3, 0, none⟩) (l.length + (m.length + 1)) c3]) ?_ rfl ⟨_, rfl, owns_weak ((HO4.out.kept (grownBy_set _ _ _) (.inr (by simp [Value.ownBlock]; omega))).kept (grownBy_set _ _ _) (.inr (by simp [Value.ownBlock]; omega))) (show w.heap.size ≤ _ by simp), (HB4.out.setCell (by simp; omega) _).setCell (by simp) _⟩
      have cr5 : (w4.setCell ⟨w1.heap.size, 0, none⟩ (.slice (some ⟨g3, 0, none⟩) (l.length + (m.length + 1)) c3)).cell? ⟨w.heap.size, 0, none⟩ = some (.slice none 0 0) := by rw [World.cell?_setCell_far _ _ _ _ (by simp; omega)]; exact cr4
      simp [results, Try.results67, go_sem, cell_st_same _ cr5]
end Go.Proofs.Ytimfbnjgodbgoaa

/- Drawn grammars: joined and powered grammars. -/
namespace Go.Proofs.Ytimfbnjgodbgoaa
open Go.ChangeShapes Go.WideShapes Go.RowKit
set_option linter.unusedVariables false
set_option linter.unusedSimpArgs false
set_option maxHeartbeats 2000000
set_option maxRecDepth 100000
theorem ru_small {l : List Ru} (h : gOk l = true) : ∀ r ∈ l, r.1.size ≤ 1 := by
  intro r hr
  obtain ⟨k, hk, rfl⟩ := List.mem_iff_getElem.1 hr
  have hru := gOk_rule h hk
  have e : ruA l k = l[k] := by rw [ruA, List.getD, List.getElem?_eq_getElem hk]; rfl
  rw [e] at hru
  by_cases hz : l[k].1.size = 0
  · omega
  · have := (hru.2 hz).1; omega
theorem raR_fst (r : Ru) (d : Int) : (raR r d).1 = r.1 := by unfold raR; split <;> rfl
theorem joA_len (l m : List Ru) : (joA l m).length = l.length + (m.length + 1) := by
  rw [joA, List.length_append, joR_len (Nat.le_refl _)]; simp; omega
theorem joA_small {l m : List Ru} (h : ∀ r ∈ l, r.1.size ≤ 1) (h2 : ∀ r ∈ m, r.1.size ≤ 1) : ∀ r ∈ joA l m, r.1.size ≤ 1 := by
  intro r hr
  rw [joA, joR, List.mem_append, List.mem_append, List.mem_map] at hr
  rcases hr with (hr | ⟨q, hq, rfl⟩) | hr
  · exact h r hr
  · rw [raR_fst]; exact h2 q (List.mem_of_mem_take hq)
  · simp at hr; subst hr; simp [ByteArray.size]
/-- what a maker of grammars gives: a right one that is not empty, or a code -/
def GrOut (b : Nat) (w' : World) (v : Value) (c : Int) : Prop := (c = 0 ∧ ∃ L, gOk L = true ∧ L ≠ [] ∧ OwnRu w' b v L) ∨ (c = 3 ∧ v = .slice none 0 0)
theorem s_JoinGrammars (a b : Option Addr) (ca cb : Nat) (l m : List Ru) (w : World) (h0 : l ≠ []) (h1 : m ≠ []) (hl : gOk l = true) (hm : gOk m = true)
    (hil : InRu w (.slice a l.length ca) l) (him : InRu w (.slice b m.length cb) m) :
    Calls Try.prog 54 #[.agg #[.slice a l.length ca], .agg #[.slice b m.length cb]] w fun e w' => ∃ v c, e = .returned (.tuple #[.agg #[v], .int .i64 c]) ∧ GrOut w.heap.size w' v c ∧ Below w.heap.size w w' := by
  have hl4 := (gOk_some hl).1
  have hm4 := (gOk_some hm).1
  have sl := ru_small hl
  have sm := ru_small hm
  have hbx := (((Below.refl w.heap.size w).alloc (Nat.le_refl _) (.cells #[.slice a l.length ca] 26)).alloc (by simp) (.cells #[.slice b m.length cb] 26)).alloc (by first | (simp; done) | (simp; omega)) (.cells #[.slice none 0 0] 26)
  have HIL := Lib.hid (inRu_below hil hbx)
  have HIM := Lib.hid (inRu_below him hbx)
  have HBX : Hid (∀ w', Below (((w.alloc (.cells #[.slice a l.length ca] 26)).alloc (.cells #[.slice b m.length cb] 26)).alloc (.cells #[.slice none 0 0] 26)).heap.size (((w.alloc (.cells #[.slice a l.length ca] 26)).alloc (.cells #[.slice b m.length cb] 26)).alloc (.cells #[.slice none 0 0] 26)) w' → Below w.heap.size w w') := fun w' h => below_box (below_box (below_box h))
  have HOK1 := Lib.hid (fun w1 c i => s_l02Ok w.heap.size 0 ca a l w1 (by omega) (fun r hr => by have := sl r hr; omega) c i)
  have HOK2 := Lib.hid (fun w1 c i => s_l02Ok (w.heap.size + 1) 0 cb b m w1 (by omega) (fun r hr => by have := sm r hr; omega) c i)
  have HJ := Lib.hid (fun w1 c1 i1 c2 i2 => s_l02Join w.heap.size 0 ca (w.heap.size + 1) 0 cb a b l m w1 h0 h1 hl4 hm4 c1 i1 c2 i2)
  have HT : Hid (∀ g c w1, InRu w1 (.slice (some ⟨g, 0, none⟩) (joA l m).length c) (joA l m) → _) := Lib.hid (fun g c w1 i => s_l02Told (some ⟨g, 0, none⟩) c (joA l m) w1 (by rw [joA_len]; omega) (fun r hr => by have := joA_small sl sm r hr; omega) i)
  rw [hl] at HOK1
  rw [hm] at HOK2
  clear hil him hbx sl sm hl hm h0 h1
  go_enter Try.func54, Try.ntmps54
  go_wp2_with fail
  refine (HOK1.out _ (by simp [go_sem]) HIL.out).mono ?_
  rintro e w3 ⟨rfl, hb3⟩
  have c1 : w3.cell? ⟨w.heap.size, 0, none⟩ = some (.slice a l.length ca) := by rw [hb3.cell (by first | (simp; done) | (simp; omega))]; simp [go_sem]
  have c2 : w3.cell? ⟨w.heap.size + 1, 0, none⟩ = some (.slice b m.length cb) := by rw [hb3.cell (by first | (simp; done) | (simp; omega))]; simp [go_sem]
  have c3 : w3.cell? ⟨w.heap.size + 1 + 1, 0, none⟩ = some (.slice none 0 0) := by rw [hb3.cell (by simp)]; simp [go_sem]
  have f3 : w3.frozen? ⟨w.heap.size + 1 + 1, 0, none⟩ = false := by rw [hb3.frozen (by simp)]; simp [go_sem]
  have i1 := inRu_below HIL.out hb3
  have i2 := inRu_below HIM.out hb3
  have z3 : w.heap.size + 1 + 1 < w3.heap.size := by have := hb3.size; simp at this; omega
  have B3 := Lib.hid (HBX.out _ hb3)
  clear hb3
  go_wp2_with fail
  refine (HOK2.out _ c2 i2).mono ?_
  rintro e w4 ⟨rfl, hb4⟩
  have d1 := cell_later hb4 c1
  have d2 := cell_later hb4 c2
  have d3 := cell_later hb4 c3
  have g3 : w4.frozen? ⟨w.heap.size + 1 + 1, 0, none⟩ = false := by rw [hb4.frozen (by simpa using z3)]; exact f3
  have j1 := inRu_below i1 hb4
  have j2 := inRu_below i2 hb4
  have z4 := hb4.size
  have B4 := Lib.hid (B3.out.trans (hb4.mono B3.out.size))
  clear hb4 c1 c2 c3 f3 i1 i2
  go_wp2_with fail
  refine (HJ.out _ d1 j1 d2 j2).mono ?_
  rintro e w5 ⟨v5, rfl, ho5, hb5⟩
  have hne : joA l m ≠ [] := by intro e; have := joA_len l m; rw [e] at this; simp at this
  obtain ⟨g5, cc5, rfl, -, -⟩ := owns_some3 ho5 (by rw [joA_len]; omega)
  have k3 := cell_later hb5 d3
  have h3 : w5.frozen? ⟨w.heap.size + 1 + 1, 0, none⟩ = false := by rw [hb5.frozen (by first | (simp; done) | (simp; omega))]; exact g3
  have z5 := hb5.size
  have B5 := Lib.hid (B4.out.trans (hb5.mono B4.out.size))
  have O5 := Lib.hid ho5
  clear hb5 d1 d2 d3 g3 j1 j2 ho5
  go_wp2_with fail
  refine (HT.out g5 cc5 _ (inRu_of_own O5.out hne)).mono ?_
  rintro e w6 ⟨hb6, hcase⟩
  have r3 := cell_later hb6 k3
  have q3 : w6.frozen? ⟨w.heap.size + 1 + 1, 0, none⟩ = false := by rw [hb6.frozen (by first | (simp; done) | (simp; omega))]; exact h3
  have z6 := hb6.size
  have B6 := Lib.hid (B5.out.trans (hb6.mono B5.out.size))
  have O6 := Lib.hid (owns_after O5.out hb6)
  clear hb6 k3 h3 O5
  rcases hcase with ⟨hok, rfl⟩ | ⟨-, rfl⟩
  · have HK := Lib.hid hok
    clear hok
    go_wp2
    refine bodyPost_ret (v := .tuple #[.agg #[.slice (some ⟨g5, 0, none⟩) (joA l m).length cc5], .int .i64 0]) (by simp [results, Try.results54, go_sem, cell_st_same _ r3]) rfl ⟨_, _, rfl, .inl ⟨rfl, joA l m, HK.out, hne, ?_⟩, B6.out.setCell (by first | (simp; done) | (simp; omega)) _⟩
    exact owns_weak (ownsRow_setCell_below O6.out (by first | (simp; done) | (simp; omega)) _) (by omega)
  · go_wp2
    exact bodyPost_ret (v := .tuple #[.agg #[.slice none 0 0], .int .i64 3]) (by simp [results, Try.results54, go_sem, cell_st_same _ r3]) rfl ⟨_, _, rfl, .inr ⟨rfl, rfl⟩, B6.out.setCell (by first | (simp; done) | (simp; omega)) _⟩
end Go.Proofs.Ytimfbnjgodbgoaa

/- Drawn grammars: powered grammars. -/
namespace Go.Proofs.Ytimfbnjgodbgoaa
open Go.ChangeShapes Go.WideShapes Go.RowKit
set_option linter.unusedVariables false
set_option linter.unusedSimpArgs false
set_option maxHeartbeats 2000000
set_option maxRecDepth 100000
theorem pow_pos50 {t d : Nat} (ht : t ≤ 1000000000000000) (h : 0 < (t : Int) / 2 ^ d) : d < 50 := by
  rcases Nat.lt_or_ge d 50 with hd | hd
  · exact hd
  · exfalso
    have h1 : (2 : Nat) ^ 50 ≤ 2 ^ d := Nat.pow_le_pow_right (by decide) hd
    have h2 : t < 2 ^ d := by have : (1000000000000000 : Nat) < 2 ^ 50 := by decide
                              omega
    have h3 : t / 2 ^ d = 0 := Nat.div_eq_of_lt h2
    have h4 : ((t : Int) / 2 ^ d) = ((t / 2 ^ d : Nat) : Int) := by simp
    rw [h4, h3] at h
    simp at h
/-- all letters are short -/
def SmR (L : List Ru) : Prop := ∀ r ∈ L, r.1.size ≤ 1
theorem SmR.app {L : List Ru} (h : SmR L) (p q : Int) : SmR (L ++ [(⟨#[]⟩, p, q)]) := by
  intro r hr
  rcases List.mem_append.1 hr with hr | hr
  · exact h r hr
  · simp at hr; subst hr; simp [ByteArray.size]
/-- the loop that makes a power -/
def PwR (w : World) (bx : Nat) (x : Int) (wr : World) : Prop := ∃ (L : List Ru) (g c : Nat), 1 ≤ L.length ∧ (L.length : Int) ≤ 600 - 2 * x ∧ SmR L ∧ wr.cell? ⟨bx, 0, none⟩ = some (.slice (some ⟨g, 0, none⟩) L.length c) ∧ wr.frozen? ⟨bx, 0, none⟩ = false ∧ g ≠ bx ∧ OwnRu wr (w.heap.size + 2) (.slice (some ⟨g, 0, none⟩) L.length c) L ∧ Below w.heap.size w wr ∧ bx < wr.heap.size ∧ wr.cell? ⟨w.heap.size + 1, 0, none⟩ = some (.slice none 0 0) ∧ wr.frozen? ⟨w.heap.size + 1, 0, none⟩ = false
theorem pwR_end {w w5 : World} {bx g5 c5 n : Nat} {L : List Ru} {x : Int} {u : Value} (hbx : w.heap.size + 1 < bx) (hn : L.length = n) (h1 : 1 ≤ n) (h2 : (n : Int) ≤ 600 - 2 * x) (hs : SmR L) (hc : w5.cell? ⟨bx, 0, none⟩ = some u) (hf : w5.frozen? ⟨bx, 0, none⟩ = false) (hne : g5 ≠ bx)
    (ho : OwnRu w5 (w.heap.size + 2) (.slice (some ⟨g5, 0, none⟩) n c5) L) (hb : Below w.heap.size w w5) (hz : bx < w5.heap.size) (hr : w5.cell? ⟨w.heap.size + 1, 0, none⟩ = some (.slice none 0 0)) (hrf : w5.frozen? ⟨w.heap.size + 1, 0, none⟩ = false) :
    PwR w bx x (w5.setCell ⟨bx, 0, none⟩ (.slice (some ⟨g5, 0, none⟩) n c5)) := by
  subst hn
  refine ⟨L, g5, c5, h1, h2, hs, cell_st_same _ hc, by simpa using hf, hne, ho.kept (grownBy_set _ _ _) (.inr (by simp [Value.ownBlock]; omega)), hb.setCell (by simp; omega) _, by simpa using hz, ?_, by simpa using hrf⟩
  rw [World.cell?_setCell_far _ _ _ _ (by simp; omega)]; exact hr
theorem s_PowerGrammar (a : Option Addr) (ca : Nat) (l : List Ru) (t : Nat) (w : World) (h0 : l ≠ []) (hl : gOk l = true) (ht : 1 ≤ t) (ht2 : t ≤ 1000000000000000) (hil : InRu w (.slice a l.length ca) l) :
    Calls Try.prog 53 #[.agg #[.slice a l.length ca], .int .i64 t] w fun e w' => ∃ v c, e = .returned (.tuple #[.agg #[v], .int .i64 c]) ∧ GrOut w.heap.size w' v c ∧ Below w.heap.size w w' := by
  have hp : 0 < l.length := List.length_pos_iff.2 h0
  have hl4 := (gOk_some hl).1
  have sl := ru_small hl
  have hpe : ((l.length : Int) == 0) = false := by rw [beq_eq_false_iff_ne]; omega
  have hte : ((t : Int) == 0) = false := by rw [beq_eq_false_iff_ne]; omega
  have hbx := ((Below.refl w.heap.size w).alloc (Nat.le_refl _) (.cells #[.slice a l.length ca] 26)).alloc (by simp) (.cells #[.slice none 0 0] 26)
  have HIL := Lib.hid (inRu_below hil hbx)
  have HBX : Hid (∀ w', Below ((w.alloc (.cells #[.slice a l.length ca] 26)).alloc (.cells #[.slice none 0 0] 26)).heap.size ((w.alloc (.cells #[.slice a l.length ca] 26)).alloc (.cells #[.slice none 0 0] 26)) w' → Below w.heap.size w w') := fun w' h => below_box (below_box h)
  have HOK := Lib.hid (fun w1 c i => s_l02Ok w.heap.size 0 ca a l w1 (by omega) (fun r hr => by have := sl r hr; omega) c i)
  have HO := Lib.hid (fun w1 c i => s_l02Own w.heap.size 0 ca a l w1 h0 (by omega) c i)
  have HT := Lib.hid (fun g c (L : List Ru) w1 hn hs i => s_l02Told (some ⟨g, 0, none⟩) c L w1 hn hs i)
  have HIn := Lib.hid (show (decide ((0 : Int) ≤ t) && decide ((t : Int) ≤ 1000000000000000)) = true by simp; omega)
  have HSL := Lib.hid sl
  rw [hl] at HOK
  clear hil hbx sl hl h0
  go_enter Try.func53, Try.ntmps53
  go_wp2_with fail
  refine (HOK.out _ (by simp [go_sem]) HIL.out).mono ?_
  rintro e w3 ⟨rfl, hb3⟩
  have c1 : w3.cell? ⟨w.heap.size, 0, none⟩ = some (.slice a l.length ca) := by rw [hb3.cell (by first | (simp; done) | (simp; omega))]; simp [go_sem]
  have c3 : w3.cell? ⟨w.heap.size + 1, 0, none⟩ = some (.slice none 0 0) := by rw [hb3.cell (by first | (simp; done) | (simp; omega))]; simp [go_sem]
  have f3 : w3.frozen? ⟨w.heap.size + 1, 0, none⟩ = false := by rw [hb3.frozen (by first | (simp; done) | (simp; omega))]; simp [go_sem]
  have i1 := inRu_below HIL.out hb3
  have z3 : w.heap.size + 1 < w3.heap.size := by have := hb3.size; simp at this; omega
  have B3 := Lib.hid (HBX.out _ hb3)
  clear hb3
  go_wp2_with fail
  refine (s_l00In_r _ _ _ true HIn.out _).mono ?_
  rintro e w' ⟨rfl, rfl⟩
  go_wp2_with fail
  refine (HO.out _ c1 i1).mono ?_
  rintro e w4 ⟨v4, rfl, ho4, hb4⟩
  obtain ⟨g4, cc4, rfl, hg4, hg4'⟩ := owns_some3 ho4 (by omega)
  have d3 := cell_later hb4 c3
  have e3 : w4.frozen? ⟨w.heap.size + 1, 0, none⟩ = false := by rw [hb4.frozen (by simpa using z3)]; exact f3
  have d1 := cell_later hb4 c1
  have z4 : w.heap.size + 1 < w4.heap.size := by have := hb4.size; omega
  have z5 : w.heap.size < w4.heap.size := by omega
  have B4 := Lib.hid (B3.out.trans (hb4.mono B3.out.size))
  have O4 := Lib.hid (owns_weak ho4 (show w.heap.size + 2 ≤ _ by omega))
  clear hb4 ho4 c1 c3 f3 i1 HO HOK HIL hg4
  go_wp2
  go_loop [8] (fun i => ∃ d : Nat, d ≤ 50 ∧ i = .int .i64 d) (fun i => 50 - (intOf i).toNat)
  case atStart => exact ⟨0, by omega, rfl⟩
  case round =>
    obtain ⟨d, hd, rfl⟩ := hrel
    by_cases hpos : 0 < (t : Int) / 2 ^ d
    · have hd2 := pow_pos50 ht2 hpos
      go_wp2
      go_round
      case rel => exact ⟨d + 1, by omega, by go_num⟩
      case measure => simp [intOf]; omega
    · go_wp2
      go_loopw [9] (fun j wr => ∃ x : Int, j = .int .i64 x ∧ -2 ≤ x ∧ x ≤ 48 ∧ PwR w w4.heap.size x wr) (fun j _ => (intOf j + 2).toNat)
      case atStart =>
        refine ⟨(d : Int) - 2, by go_num, by omega, by omega, l, g4, cc4, hp, by omega, HSL.out, by simp [go_sem], by simp [go_sem], by omega, O4.out.alloc _, B4.out.alloc (by omega) _, by simp, ?_, ?_⟩
        · exact cell_later ((Below.refl _ _).alloc (Nat.le_refl _) _) d3
        · rw [((Below.refl w4.heap.size w4).alloc (Nat.le_refl _) _).frozen (by simpa using z4)]; exact e3
      case round =>
        obtain ⟨x, rfl, hx0, hx1, L, g, c, hL1, hL2, hsm, hct, hft, hne, hown, hb, hsz, hcr, hfr⟩ := hrel
        have hg2 := (hown.lt g rfl).1
        have HO := Lib.hid hown
        have HB := Lib.hid hb
        have HSM := Lib.hid hsm
        have hz1 : w.heap.size + 1 < wr.heap.size := by omega
        have hne1 : g ≠ w.heap.size + 1 := by omega
        clear hown hb hsm
        by_cases hx : 0 ≤ x
        · obtain ⟨k, rfl⟩ := Int.eq_ofNat_of_zero_le hx
          go_wp2_with (first | (at_builtin; refine list_app_ru rfl _ _ rfl (w.heap.size + 2) _ _ L (⟨#[]⟩, (L.length : Int) - 1, (L.length : Int) - 1) rfl (World.ownsRow.alloc HO.out _) wr.heap.size rfl (by simp [go_sem]) (by simp [go_sem]) (by simp [go_sem]) (by omega) (by simp; omega) ?_; intro g5 c5 w5 ho5 hg5 hge5 hlt5 hor5; have hne5 := app_ne (Below.refl _ _) hor5 hne hsz; obtain ⟨ct5, f5⟩ := app_box (Below.refl _ _) hg5 hsz hne hct hft; obtain ⟨cr5, fr5⟩ := app_box (Below.refl _ _) hg5 hz1 hne1 hcr hfr; have HO5 := Lib.hid ho5; have HB5 := Lib.hid (app_below HB.out (Nat.le_refl _) (Below.refl _ _) hg5 (show w.heap.size ≤ g by omega)); have hs5 : wr.heap.size + 1 ≤ w5.heap.size := (by have := hg5.size; simpa using this); clear ho5 hg5 hor5) | (at_builtin; refine list_app_ru rfl _ _ rfl (w.heap.size + 2) _ _ (L ++ [((⟨#[]⟩ : ByteArray), (L.length : Int) - 1, (L.length : Int) - 1)]) ((⟨#[]⟩ : ByteArray), (L.length : Int), (l.length : Int) - 1) rfl (OwnRu.alloc (OwnRu.kept HO5.out (grownBy_set _ _ _) (.inr (by simp [Value.ownBlock]; omega))) _) w5.heap.size rfl (by simp [go_sem]) (by simp [go_sem]) (by simp [go_sem]) (by simp; omega) (by simp; omega) ?_; intro g7 c7 w7 ho7 hg7 hge7 hlt7 hor7; have hne7 := app_ne (Below.refl _ _) hor7 hne5 (by simp; omega); obtain ⟨ct7, f7⟩ := app_box (Below.refl _ _) hg7 (by simp; omega) hne5 (cell_st_same _ ct5) (by simpa using f5); obtain ⟨cr7, fr7⟩ := app_box (bx := w.heap.size + 1) (Below.refl _ _) hg7 (by simp; omega) (show g5 ≠ w.heap.size + 1 by omega) ((World.cell?_setCell_far _ _ _ _ (by simp; omega)).trans cr5) (by simpa using fr5); have HO7 := Lib.hid ho7; have HB7 := Lib.hid (app_below (HB5.out.setCell (by simp; omega) _) (Nat.le_refl _) (Below.refl _ _) hg7 (show w.heap.size ≤ g5 by omega)); have hs7 : w5.heap.size + 1 ≤ w7.heap.size := (by have := hg7.size; simpa using this); clear ho7 hg7 hor7))
          · go_roundw
            case rel =>
              have ho7 := HO7.out
              have hlen : (L ++ [((⟨#[]⟩ : ByteArray), (L.length : Int) - 1, (L.length : Int) - 1)]).length = L.length + 1 := by simp
              rw [hlen] at ho7
              exact ⟨(k : Int) - 1, by go_num, by omega, by omega, pwR_end z4 (by simp) (by omega) (by omega) ((HSM.out.app _ _).app _ _) ct7 f7 hne7 ho7 HB7.out (by omega) cr7 fr7⟩
            case measure => simp [intOf]; omega
          · go_roundw
            case rel => exact ⟨(k : Int) - 1, by go_num, by omega, by omega, pwR_end z4 (by simp) (by omega) (by omega) (HSM.out.app _ _) ct5 f5 hne5 HO5.out HB5.out (by omega) cr5 fr5⟩
            case measure => simp [intOf]; omega
        · have hin := inRu_of_own HO.out (by intro e; subst e; simp at hL1)
          have HTT := Lib.hid (HT.out g c L wr (by omega) (fun r hr => by have := HSM.out r hr; omega) hin)
          clear hin
          go_wp2_with fail
          refine HTT.out.mono ?_
          rintro e w6 ⟨hb6, hcase⟩
          have r3 := cell_later hb6 hcr
          have q3 : w6.frozen? ⟨w.heap.size + 1, 0, none⟩ = false := by rw [hb6.frozen (by simpa using hz1)]; exact hfr
          have z6 := hb6.size
          have B6 := Lib.hid (HB.out.trans (hb6.mono HB.out.size))
          have O6 := Lib.hid (owns_after HO.out hb6)
          clear hb6 HTT hcr hfr hct hft
          rcases hcase with ⟨hok, rfl⟩ | ⟨-, rfl⟩
          · have HK := Lib.hid hok
            clear hok
            go_wp2
            refine bodyPost_ret (v := .tuple #[.agg #[.slice (some ⟨g, 0, none⟩) L.length c], .int .i64 0]) (by simp [results, Try.results53, go_sem, cell_st_same _ r3]) rfl ⟨_, _, rfl, .inl ⟨rfl, L, HK.out, (by intro e; subst e; simp at hL1), ?_⟩, B6.out.setCell (by first | (simp; done) | (simp; omega)) _⟩
            exact owns_weak (ownsRow_setCell_below O6.out (by first | (simp; done) | (simp; omega)) _) (by omega)
          · go_wp2
            exact bodyPost_ret (v := .tuple #[.agg #[.slice none 0 0], .int .i64 3]) (by simp [results, Try.results53, go_sem, cell_st_same _ r3]) rfl ⟨_, _, rfl, .inr ⟨rfl, rfl⟩, B6.out.setCell (by first | (simp; done) | (simp; omega)) _⟩
end Go.Proofs.Ytimfbnjgodbgoaa

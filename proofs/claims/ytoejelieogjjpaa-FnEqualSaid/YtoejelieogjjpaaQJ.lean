/- A grammar without rules that do not matter: the walk. -/
import Derived.Test.YtoejelieogjjpaaQI
import Derived.Test.YtoejelieogjjpaaUT
import Derived.Laws.StructEq
import Derived.Deep.DeepCutAuto
namespace Go.Proofs.Ytoejelieogjjpaa
open Go.ChangeShapes Go.WideShapes Go.RowKit
set_option linter.unusedVariables false
set_option linter.unusedSimpArgs false
set_option maxHeartbeats 4000000
set_option maxRecDepth 100000
theorem ru_eqInT (x1 y1 : ByteArray) (x2 x3 y2 y3 : Int) (r : Bool) (hr : r = decide (x1 = y1 ∧ x2 = y2 ∧ x3 = y3)) (w : World) : (Op.equalIn 10000 59 (.agg #[.string x1, .int .i64 x2, .int .i64 x3]) (.agg #[.string y1, .int .i64 y2, .int .i64 y3])).run Try.prog w = .ok r w := by
  subst hr
  have hp : Try.prog.stoodInHeld 59 = false := by kernel_rfl
  have hu := Try.underlying59
  have h1 : (x1.toList == y1.toList) = decide (x1 = y1) := by
    rw [Bool.eq_iff_iff, beq_iff_eq, decide_eq_true_iff, ByteArray.toList_eq, ByteArray.toList_eq, Array.toList_inj, ByteArray.ext_iff]
  simp [go_sem, hp, hu, part, h1]
  by_cases e1 : x1 = y1 <;> by_cases e2 : x2 = y2 <;> by_cases e3 : x3 = y3 <;> simp [e1, e2, e3, go_sem]
theorem ru_guardT (X Y : Operand) (xs ys : Array Value) (w : World) : (eqGuard .eql 59 X Y (.agg xs) (.agg ys)).run Try.prog w = .ok () w :=
  run_eqGuard_agg w .eql _ X Y xs ys (by kernel_rfl)
theorem info_boolT : (Try.prog.info? 4).map (fun i => (i.zero, i.size, i.bytes)) = some (some (.bool false), 1, 1) := by kernel_rfl
theorem own_setB {w : World} {base e : Nat} {g n cap : Nat} {xs : List Bool} (h : w.ownsRow base e 1 (.slice (some ⟨g, 0, none⟩) n cap) n (xs.map Value.bool)) (k : Nat) (x : Bool) :
    (w.setCell ⟨g, k, none⟩ (.bool x)).ownsRow base e 1 (.slice (some ⟨g, 0, none⟩) n cap) n ((xs.set k x).map Value.bool) := by
  have := (h.stored k (.bool x)).1
  rwa [← List.map_set] at this
theorem own_getB {w : World} {base e : Nat} {g n cap : Nat} {xs : List Bool} (h : w.ownsRow base e 1 (.slice (some ⟨g, 0, none⟩) n cap) n (xs.map Value.bool)) (hl : xs.length = n) {k : Nat} (hk : k < n) : w.cell? ⟨g, k, none⟩ = some (.bool (xs.getD k false)) := by
  rw [h.cellAt k (by omega)]; simp [List.getD, show k < xs.length by omega]
theorem makeB {ops : Array Oper} {rest : List Oper} {o : Oper} {a : Act} {Q : Exit → Act → World → Prop} (w : World) (hg : o.guard = none) (l c : Operand) (hop : o.op = Op.makeSlice 97 l c) (base : Nat) (hbase : base ≤ w.heap.size) (n : Nat) (hl : a.eval l = .int .i64 n) (hc : a.eval c = .int .i64 n) (hn : n ≤ 1048576)
    (hK : ∀ w', w'.ownsRow base 4 1 (.slice (some ⟨w.heap.size, 0, none⟩) n n) n ((List.replicate n false).map Value.bool) → Below w.heap.size w w' → wpList Try.prog ops Q rest (a.put o.dst (.slice (some ⟨w.heap.size, 0, none⟩) n n)) w') :
    wpList Try.prog ops Q (o :: rest) a w := by
  obtain ⟨ii, hi, hz0, hz1, hz2⟩ := info_parts info_boolT
  refine wpList_make_full w hg l c _ hop base 4 ii (.bool false) 1 Try.underlying97 hi hz0 hz1 .i64 .i64 _ _ n hl hc rfl rfl (by rw [hz2]; omega) (by unfold maxLen; omega) hbase ?_
  intro w1 ho1 hg1
  refine hK w1 ?_ (below_of_grown hg1 (Nat.le_refl _) (fun k hk => by cases hk))
  rw [Nat.mul_one] at ho1
  have := toList_madeCells_one (.bool false) n
  rw [show (Value.bool false).cells = #[.bool false] from rfl, this] at ho1
  simpa using ho1
/-- a rule in a box -/
def BxT (bx : Nat) (r : Ru) (X : World) : Prop := X.cell? ⟨bx, 0, none⟩ = some (.string r.1) ∧ X.cell? ⟨bx, 1, none⟩ = some (.int .i64 r.2.1) ∧ X.cell? ⟨bx, 2, none⟩ = some (.int .i64 r.2.2)
theorem BxT.bel {bx : Nat} {r : Ru} {X Y : World} (h : BxT bx r X) (hb : Below X.heap.size X Y) : BxT bx r Y := ⟨cell_later hb h.1, cell_later hb h.2.1, cell_later hb h.2.2⟩
theorem st_off {w : World} {b i j : Nat} {v : Value} (h : i ≠ j) : (w.setCell ⟨b, i, none⟩ v).cell? ⟨b, j, none⟩ = w.cell? ⟨b, j, none⟩ := by
  rw [World.cell?_setCell_other (h := by intro e; injection e with _ e _; first | exact h e | exact h e.symm)]
theorem BxT.set {w X : World} {bx : Nat} {r s : Ru} (h : BxT bx r X) (hb : Below w.heap.size w X) (hbx : w.heap.size ≤ bx) : BxT bx s (((X.setCell ⟨bx, 0, none⟩ (.string s.1)).setCell ⟨bx, 1, none⟩ (.int .i64 s.2.1)).setCell ⟨bx, 2, none⟩ (.int .i64 s.2.2)) ∧ Below w.heap.size w (((X.setCell ⟨bx, 0, none⟩ (.string s.1)).setCell ⟨bx, 1, none⟩ (.int .i64 s.2.1)).setCell ⟨bx, 2, none⟩ (.int .i64 s.2.2)) := by
  obtain ⟨t0, t1, t2⟩ := h
  refine ⟨⟨?_, ?_, ?_⟩, ((hb.setCell (p := ⟨bx, 0, none⟩) hbx _).setCell (p := ⟨bx, 1, none⟩) hbx _).setCell (p := ⟨bx, 2, none⟩) hbx _⟩
  · rw [st_off (by decide), st_off (by decide)]; exact cell_st_same _ t0
  · rw [st_off (by decide)]; exact cell_st_same _ (by rw [st_off (by decide)]; exact t1)
  · exact cell_st_same _ (by rw [st_off (by decide), st_off (by decide)]; exact t2)
theorem apart_symm {v u : Value} (h : Apart2 v u) : Apart2 u v := by
  rcases h with h | h
  · cases hu : u.ownBlock with
    | none => exact .inl hu
    | some k => exact .inr (by rw [h, hu]; intro e; cases e)
  · exact .inr (fun e => h e.symm)
/-- the rows of the first loop -/
def TrF (w1 : World) (l : List Ru) (i : Nat) (vf vk : Value) (F : List Int) (K : List Ru) (X : World) : Prop := T1 l i F K ∧ X.ownsRow w1.heap.size 2 1 vf i (F.map (Value.int .i64)) ∧ OwnRu X w1.heap.size vk K ∧ Apart2 vf vk ∧ Apart2 vk vf ∧ Below w1.heap.size w1 X
theorem TrF.bel {w1 : World} {l : List Ru} {i : Nat} {vf vk : Value} {F : List Int} {K : List Ru} {X Y : World} (h : TrF w1 l i vf vk F K X) (hb : Below X.heap.size X Y) : TrF w1 l i vf vk F K Y := by
  obtain ⟨h1, h2, h3, h4, h5, h6⟩ := h
  exact ⟨h1, owns_after h2 hb, owns_after h3 hb, h4, h5, h6.trans (hb.mono h6.size)⟩
theorem s_l02Trim (bq oq cap : Nat) (a : Option Addr) (l : List Ru) (w : World) (h0 : l ≠ []) (hok : gOk l = true) (hcell : w.cell? ⟨bq, oq, none⟩ = some (.slice a l.length cap)) (hin : InRu w (.slice a l.length cap) l) :
    Calls Try.prog 45 #[.pointer (some ⟨bq, oq, none⟩)] w fun e w' => ∃ v O, e = .returned (.agg #[v]) ∧ OwnRu w' w.heap.size v O ∧ gOk O = true ∧ wd O = wd l ∧ O ≠ [] ∧ O.length ≤ l.length ∧ (abcL l → abcL O) ∧ Below w.heap.size w w' := by
  have hB := (Below.refl w.heap.size w).alloc (Nat.le_refl _) (.cells #[.slice none 0 0] 26)
  have hp : 0 < l.length := List.length_pos_iff.2 h0
  have hl4 := (gOk_some hok).1
  have HC := Lib.hid (cell_later hB hcell)
  have HI := Lib.hid (inRu_below hin hB)
  have HR : Hid ((w.alloc (.cells #[.slice none 0 0] 26)).cell? ⟨w.heap.size, 0, none⟩ = some (.slice none 0 0) ∧ (w.alloc (.cells #[.slice none 0 0] 26)).frozen? ⟨w.heap.size, 0, none⟩ = false) := ⟨by simp [go_sem], by simp [go_sem]⟩
  have hz1 : (w.alloc (.cells #[.slice none 0 0] 26)).heap.size = w.heap.size + 1 := by simp
  have HZ1 := Lib.hid hz1
  have HB := Lib.hid hB
  have HW := Lib.hid (gW_of hok)
  clear hB hcell hin hz1
  go_enter Try.func45, Try.ntmps45
  go_upto_region 1 with fail
  obtain ⟨w1, hw1⟩ : ∃ w1, w1 = w.alloc (.cells #[.slice none 0 0] 26) := ⟨_, rfl⟩
  rw [← hw1] at HC HI HR HB HZ1 ⊢
  clear hw1
  have hc1 := HC.out
  obtain ⟨b', off, rfl, hbl, -, -, -⟩ := inRu_at HI.out hp
  have hal2 : Below w1.heap.size w1 ((w1.alloc (.cells #[] 2)).alloc (.cells #[] 59)) := ((Below.refl _ _).alloc (Nat.le_refl _) _).alloc (by simp) _
  have hT0 : TrF w1 l 0 (.slice (some ⟨w1.heap.size, 0, none⟩) 0 0) (.slice (some ⟨w1.heap.size + 1, 0, none⟩) 0 0) [] [] ((w1.alloc (.cells #[] 2)).alloc (.cells #[] 59)) := by
    refine ⟨T1.nil l, ?_, ?_, .inr (by simp [Value.ownBlock]), .inr (by simp [Value.ownBlock]), hal2⟩
    · exact (World.ownsRow_made w1 #[] 0 (Nat.le_refl _) (by decide) (by simp)).alloc _
    · have := World.ownsRow_made (base := w1.heap.size) (e := 59) (size := 3) (w1.alloc (.cells #[] 2)) #[] 0 (by simp) (by decide) (by simp)
      simpa [OwnRu, ruV] using this
  have HT0 := Lib.hid hT0
  clear hal2 hT0
  go_wp2
  go_loopw [4, 5, 6, 7, 8, 9] (fun vf vk ii _ _ _ wr => ∃ (i : Nat) (F : List Int) (K : List Ru), ii = .int .i64 (i : Nat) ∧ i ≤ l.length ∧ TrF w1 l i vf vk F K wr) (fun _ _ ii _ _ _ _ => l.length - (intOf ii).toNat)
  case atStart => exact ⟨0, [], [], rfl, by omega, HT0.out⟩
  case round =>
    obtain ⟨i, F, K, rfl, hi, hT⟩ := hrel
    have HT := Lib.hid hT
    clear hT HT0
    by_cases hlt : i < l.length
    · have hiI : (i : Int) < l.length := by omega
      obtain ⟨b2, off2, he2, hbl2, hc0, hcr1, hcr2⟩ := inRu_at HI.out hlt
      obtain ⟨rfl, rfl⟩ : b' = b2 ∧ off = off2 := by injection he2 with e; injection e with e1 e2; exact ⟨e1, e2⟩
      clear he2
      have hbw := HT.out.2.2.2.2.2
      have hc0 := cell_later hbw hc0
      have hcr1 := cell_later hbw hcr1
      have hcr2 := cell_later hbw hcr2
      have hcw := cell_later hbw hc1
      have hrule := HW.out i hlt
      have HST := Lib.hid (fun own ho => HT.out.1.step HW.out hlt (own := own) ho)
      obtain ⟨r, hr⟩ : ∃ r, ruA l i = r := ⟨_, rfl⟩
      rw [hr] at hc0 hcr1 hcr2 hrule HST
      obtain ⟨x1, x2, x3⟩ := r
      simp only at hc0 hcr1 hcr2
      have HRU := Lib.hid hrule
      have HBX : Hid (BxT wr.heap.size (x1, x2, x3) (wr.alloc (.cells #[.string x1, .int .i64 x2, .int .i64 x3] 59))) := ⟨by simp [go_sem], by simp [go_sem], by simp [go_sem]⟩
      have hal := (Below.refl wr.heap.size wr).alloc (Nat.le_refl _) (.cells #[.string x1, .int .i64 x2, .int .i64 x3] 59)
      have HT2 := Lib.hid (HT.out.bel hal)
      have hwz := hbw.size
      have hb0 := hal
      clear hr hrule hbw
      have HB0 := Lib.hid hb0
      clear hal hb0
      obtain ⟨bx, hbx⟩ : ∃ b, b = wr.heap.size := ⟨_, rfl⟩
      have hbxz : bx < (wr.alloc (.cells #[.string x1, .int .i64 x2, .int .i64 x3] 59)).heap.size := by rw [hbx]; simp
      have hfx : (wr.alloc (.cells #[.string x1, .int .i64 x2, .int .i64 x3] 59)).frozen? ⟨bx, 0, none⟩ = false ∧ (wr.alloc (.cells #[.string x1, .int .i64 x2, .int .i64 x3] 59)).frozen? ⟨bx, 1, none⟩ = false ∧ (wr.alloc (.cells #[.string x1, .int .i64 x2, .int .i64 x3] 59)).frozen? ⟨bx, 2, none⟩ = false := by rw [hbx]; exact ⟨by simp [go_sem], by simp [go_sem], by simp [go_sem]⟩
      go_upto_region 8 with fail
      rw [← hbx] at HBX ⊢
      have HBXE := Lib.hid hbx
      clear hbx
      generalize wr.alloc (.cells #[.string x1, .int .i64 x2, .int .i64 x3] 59) = wA at *
      obtain ⟨t0, t1, t2⟩ := HBX.out
      simp only at t0 t1 t2
      obtain ⟨f0, f1, f2⟩ := hfx
      go_upto_if 37 with fail
      generalize hzb : x1.toList.isEmpty = zb
      go_cut [] (fun wx => BxT bx (tmR F (x1, x2, x3)) wx ∧ Below wr.heap.size wr wx)
      case first =>
        cases zb
        case true =>
          have hz : x1.size = 0 := by
            rw [List.isEmpty_iff, ByteArray.toList_eq] at hzb
            have : x1.data.toList.length = x1.size := by rw [Array.length_toList]; rfl
            rw [hzb] at this; exact this.symm
          have ex := size_zero hz
          subst ex
          clear hzb
          obtain ⟨q1, q2, q3, q4⟩ := HRU.out.1 rfl
          simp only at q1 q2 q3 q4
          obtain ⟨p, rfl⟩ := Int.eq_ofNat_of_zero_le q1
          obtain ⟨q, rfl⟩ := Int.eq_ofNat_of_zero_le q3
          have hpi : p < i := by omega
          have hqi : q < i := by omega
          obtain ⟨h1, h2, h3, h4, h5, h6⟩ := HT2.out
          obtain ⟨gf, cf, rfl, hgf, hgf2⟩ := owns_some3 h2 (by omega)
          have cp := own_get h2 h1.fl hpi
          have cq := own_get h2 h1.fl hqi
          have HTM : Hid (tmR F ((⟨#[]⟩ : ByteArray), (p : Int), (q : Int)) = ((⟨#[]⟩ : ByteArray), F.getD p 0, F.getD q 0)) := by show _ = _; simp [tmR, ByteArray.size]
          clear q1 q2 q3 q4 hz h1 h2 h3 h4 h5 h6
          generalize F.getD p 0 = fp at *
          generalize F.getD q 0 = fq at *
          go_wp2
          refine wp_region_L (S := fun w' => w'.cell? ⟨bx, 1, none⟩ = some (.int .i64 p) ∧ w'.cell? ⟨bx, 2, none⟩ = some (.int .i64 q) ∧ w'.cell? ⟨gf, p, none⟩ = some (.int .i64 fp) ∧ w'.cell? ⟨gf, q, none⟩ = some (.int .i64 fq)) (T := [11]) (by kernel_rfl) ⟨by assumption, by assumption, by assumption, by assumption⟩ (fun hHeld => ?_)
          refine wpAnyL_take (i := 0) (v := ?_) rfl (by kernel_rfl) (by kernel_rfl) (by kernel_rfl) (by kernel_rfl) (fun _ _ _ h => h) (Or.inl ⟨by rfl, ?_⟩) (by assumption) ?_
          rotate_left
          · intro w hSw
            try dsimp only at hSw
            go_simp
            all_goals with_reducible rfl
          try simp only [Act.put, List.setIfInBounds_toArray, List.set_cons_zero, List.set_cons_succ]
          refine wpAnyL_take (i := 1) (v := ?_) rfl (by kernel_rfl) (by kernel_rfl) (by kernel_rfl) (by kernel_rfl) (fun _ _ _ h => h) (Or.inl ⟨by rfl, ?_⟩) (by assumption) ?_
          rotate_left
          · intro w hSw
            try dsimp only at hSw
            go_simp
            all_goals with_reducible rfl
          try simp only [Act.put, List.setIfInBounds_toArray, List.set_cons_zero, List.set_cons_succ]
          refine wpAnyL_take (i := 2) (v := ?_) rfl (by kernel_rfl) (by kernel_rfl) (by kernel_rfl) (by kernel_rfl) (fun _ _ _ h => h) (Or.inl ⟨by rfl, ?_⟩) (by assumption) ?_
          rotate_left
          · intro w hSw
            try dsimp only at hSw
            go_simp
            all_goals with_reducible rfl
          try simp only [Act.put, List.setIfInBounds_toArray, List.set_cons_zero, List.set_cons_succ]
          refine wpAnyL_take (i := 3) (v := ?_) rfl (by kernel_rfl) (by kernel_rfl) (by kernel_rfl) (by kernel_rfl) (fun _ _ _ h => h) (Or.inl ⟨by rfl, ?_⟩) (by assumption) ?_
          rotate_left
          · intro w hSw
            try dsimp only at hSw
            go_simp
            all_goals with_reducible rfl
          try simp only [Act.put, List.setIfInBounds_toArray, List.set_cons_zero, List.set_cons_succ]
          refine wpAnyL_take (i := 4) (v := ?_) rfl (by kernel_rfl) (by kernel_rfl) (by kernel_rfl) (by kernel_rfl) (fun _ _ _ h => h) (Or.inl ⟨by rfl, ?_⟩) (by assumption) ?_
          rotate_left
          · intro w hSw
            try dsimp only at hSw
            go_simp
            all_goals with_reducible rfl
          try simp only [Act.put, List.setIfInBounds_toArray, List.set_cons_zero, List.set_cons_succ]
          refine wpAnyL_take (i := 5) (v := ?_) rfl (by kernel_rfl) (by kernel_rfl) (by kernel_rfl) (by kernel_rfl) (fun _ _ _ h => h) (Or.inl ⟨by rfl, ?_⟩) (by assumption) ?_
          rotate_left
          · intro w hSw
            try dsimp only at hSw
            go_simp
            all_goals with_reducible rfl
          try simp only [Act.put, List.setIfInBounds_toArray, List.set_cons_zero, List.set_cons_succ]
          refine wpAnyL_take (i := 6) (v := ?_) rfl (by kernel_rfl) (by kernel_rfl) (by kernel_rfl) (by kernel_rfl) (fun _ _ _ h => h) (Or.inl ⟨by rfl, ?_⟩) (by assumption) ?_
          rotate_left
          · intro w hSw
            try dsimp only at hSw
            go_simp
            all_goals with_reducible rfl
          try simp only [Act.put, List.setIfInBounds_toArray, List.set_cons_zero, List.set_cons_succ]
          refine wpAnyL_take (i := 7) (v := ?_) rfl (by kernel_rfl) (by kernel_rfl) (by kernel_rfl) (by kernel_rfl) (fun _ _ _ h => h) (Or.inl ⟨by rfl, ?_⟩) (by assumption) ?_
          rotate_left
          · intro w hSw
            try dsimp only at hSw
            go_simp
            all_goals with_reducible rfl
          try simp only [Act.put, List.setIfInBounds_toArray, List.set_cons_zero, List.set_cons_succ]
          refine wpAnyL_take (i := 8) (v := ?_) rfl (by kernel_rfl) (by kernel_rfl) (by kernel_rfl) (by kernel_rfl) (fun _ _ _ h => h) (Or.inl ⟨by rfl, ?_⟩) (by assumption) ?_
          rotate_left
          · intro w hSw
            try dsimp only at hSw
            go_simp
            all_goals with_reducible rfl
          try simp only [Act.put, List.setIfInBounds_toArray, List.set_cons_zero, List.set_cons_succ]
          refine wpAnyL_take (i := 9) (v := ?_) rfl (by kernel_rfl) (by kernel_rfl) (by kernel_rfl) (by kernel_rfl) (fun _ _ _ h => h) (Or.inl ⟨by rfl, ?_⟩) (by assumption) ?_
          rotate_left
          · intro w hSw
            try dsimp only at hSw
            go_simp
            all_goals with_reducible rfl
          try simp only [Act.put, List.setIfInBounds_toArray, List.set_cons_zero, List.set_cons_succ]
          refine wpAnyL_take (i := 10) (v := ?_) rfl (by kernel_rfl) (by kernel_rfl) (by kernel_rfl) (by kernel_rfl) (fun _ _ _ h => h) (Or.inl ⟨by rfl, ?_⟩) (by assumption) ?_
          rotate_left
          · intro w hSw
            try dsimp only at hSw
            go_simp
            all_goals with_reducible rfl
          try simp only [Act.put, List.setIfInBounds_toArray, List.set_cons_zero, List.set_cons_succ]
          clear hHeld
          refine wpAnyL_tail (i := 11) (by kernel_rfl) (by rfl) rfl (fun K hK => ?_)
          go_simp
          go_wp2_with fail
          refine hK.out _ _ ?_
          clear hK K
          try simp only [Act.put, List.setIfInBounds_toArray, List.set_cons_zero, List.set_cons_succ]
          refine wpAny_done (by kernel_rfl) ?_ _
          go_wp2
          go_meet
          rw [HTM.out]
          have hS := HBX.out.set (s := ((⟨#[]⟩ : ByteArray), fp, fq)) HB0.out (Nat.le_of_eq HBXE.out.symm)
          first | exact ⟨hS.1.bel (Below.drew (Below.refl _ _)), hS.2.drew⟩ | exact hS
        case false =>
          have hz : x1.size ≠ 0 := by
            intro e
            have ex := size_zero e
            rw [ex, ByteArray.toList_eq] at hzb
            exact absurd hzb (by simp)
          clear hzb
          have HTM : Hid (tmR F (x1, x2, x3) = (x1, x2, x3)) := by show _ = _; rw [tmR, if_neg hz]
          clear hz
          go_wp2
          go_meet
          rw [HTM.out]
          exact ⟨HBX.out, HB0.out⟩
      case rest =>
        obtain ⟨hbx2, hb2⟩ := hcut
        have HFN : Hid (u4.ownBlock ≠ some bx ∧ u5.ownBlock ≠ some bx) := by
          have e := HBXE.out
          exact ⟨fun h => by have := (HT.out.2.1.lt _ h).2; omega, fun h => by have := (HT.out.2.2.1.lt _ h).2; omega⟩
        have HBX2 := Lib.hid hbx2
        have HT3 := Lib.hid (HT.out.bel hb2)
        have hwz2 : bx < wc.heap.size := World.block_lt_of_cell? _ _ hbx2.1
        clear hbx2 hb2 HBX HB0 t0 t1 t2 f0 f1 f2 hbxz HT HT2 hc0 hcr1 hcr2 HRU hwz HBXE hzb
        obtain ⟨r', hr'⟩ : ∃ r', tmR F (x1, x2, x3) = r' := ⟨_, rfl⟩
        rw [hr'] at HBX2 HST
        clear hr'
        obtain ⟨y1, y2, y3⟩ := r'
        go_wp2
        go_loopw [8, 9] (fun ow kk wx => ∃ (own k : Nat), ow = .int .i64 (own : Nat) ∧ kk = .int .i64 (k : Nat) ∧ k ≤ i ∧ (own = i ∨ (own < i ∧ ruA K own = (y1, y2, y3))) ∧ Below wc.heap.size wc wx) (fun _ kk _ => i - (intOf kk).toNat)
        case atStart => exact ⟨i, 0, rfl, rfl, by omega, .inl rfl, Below.refl _ _⟩
        case round =>
          obtain ⟨own, k, rfl, rfl, hki, how, hbk⟩ := hrel
          by_cases hgo : k < i ∧ own = i
          · obtain ⟨hki2, rfl⟩ := hgo
            have hT4 := HT3.out.bel hbk
            have hB4 := HBX2.out.bel hbk
            have HBK := Lib.hid hbk
            obtain ⟨h1, h2, h3, h4, h5, h6⟩ := hT4
            obtain ⟨gf, cf, rfl, hgf, hgf2⟩ := owns_some3 h2 (by omega)
            have ck := own_get h2 h1.fl hki2
            obtain ⟨gk, cgk, rfl, hgk, hgk2⟩ := owns_some3 h3 (by rw [h1.kl]; omega)
            have hkl := h1.kl
            have hKi : K ≠ [] := by intro e; rw [e] at hkl; simp at hkl; omega
            obtain ⟨bk, ok, hek, -, k0, k1, k2⟩ := inRu_at (inRu_of_own h3 hKi) (show k < K.length by omega)
            injection hek with hek; injection hek with hek1 hek2
            subst hek1 hek2
            rw [Nat.zero_add] at k0 k1 k2
            obtain ⟨t0, t1, t2⟩ := hB4
            simp only at t0 t1 t2
            have hkI : (k : Int) < (own : Int) := by omega
            clear h1 h2 h3 h4 h5 h6 how hbk hKi
            rw [hkl]
            have hgd := ru_guardT
            by_cases hfk : F.getD k 0 = (k : Int)
            · rw [hfk] at ck
              clear hfk
              obtain ⟨z, hz⟩ : ∃ z, ruA K k = z := ⟨_, rfl⟩
              rw [hz] at k0 k1 k2
              obtain ⟨z1, z2, z3⟩ := z
              simp only at k0 k1 k2
              have HZK := Lib.hid hz
              clear hz
              by_cases heq : z1 = y1 ∧ z2 = y2 ∧ z3 = y3
              · have hei := ru_eqInT z1 y1 z2 z3 y2 y3 true (by simp [heq])
                have HEQ : Hid (ruA K k = (y1, y2, y3)) := by rw [HZK.out, heq.1, heq.2.1, heq.2.2]; exact rfl
                clear heq
                go_wp2
                go_big_quiet (fail)
                have hbq := below_drewN HBK.out nq
                go_wp2
                go_roundw
                case rel => exact ⟨k, k + 1, rfl, by go_num, by omega, .inr ⟨by omega, HEQ.out⟩, hbq⟩
                case measure => first | (simp [intOf]; done) | (simp [intOf]; omega)
              · have hei := ru_eqInT z1 y1 z2 z3 y2 y3 false (by simp only [heq, decide_false])
                clear heq
                go_wp2
                go_big_quiet (fail)
                have hbq := below_drewN HBK.out nq
                go_wp2
                go_roundw
                case rel => exact ⟨own, k + 1, rfl, by go_num, by omega, .inl rfl, hbq⟩
                case measure => first | (simp [intOf]; done) | (simp [intOf]; omega)
            · have hfk2 : (F.getD k 0 == (k : Int)) = false := by rw [beq_eq_false_iff_ne]; exact hfk
              clear hfk
              generalize F.getD k 0 = fk at *
              go_wp2
              go_big_quiet (fail)
              have hbq := below_drewN HBK.out nq
              go_wp2
              go_roundw
              case rel => exact ⟨own, k + 1, rfl, by go_num, by omega, .inl rfl, hbq⟩
              case measure => first | (simp [intOf]; done) | (simp [intOf]; omega)
          · have HHOW := Lib.hid how
            have HBX5 := Lib.hid (HBX2.out.bel hbk)
            have HT5 := Lib.hid (HT3.out.bel hbk)
            clear hbk how
            go_upto_region 12 with fail
            go_cut [57] (fun s57 wx => s57 = .bool false ∧ wx = wr)
            case first =>
              by_cases hki3 : k < i
              · have hoi : ((own : Int) == (i : Int)) = false := by rw [beq_eq_false_iff_ne]; omega
                have hkI : (k : Int) < (i : Int) := by omega
                go_wp2
                go_meet
                exact ⟨rfl, rfl⟩
              · have hkI : ¬ (k : Int) < (i : Int) := by omega
                go_wp2
                go_meet
                exact ⟨rfl, rfl⟩
            case rest =>
              obtain ⟨rfl, rfl⟩ := hcut
              rename_i wr
              have hTT := HT5.out
              obtain ⟨h1, h2, h3, h4, h5, h6⟩ := hTT
              have HF := Lib.hid h2
              have HK := Lib.hid h3
              have HAP := Lib.hid h5
              have HBB := Lib.hid h6
              have hkl := h1.kl
              have hz6 := h6.size
              have HKL := Lib.hid hkl
              have hbx5 := World.block_lt_of_cell? _ _ HBX5.out.1
              clear h1 h2 h3 h4 h5 h6 HT5 HT3 HBX2 hgo hki hkl
              go_upto_region 17 with (at_builtin; refine app2 rfl (.tmp 75) (.tmp 77) 67 rfl w1.heap.size 2 (.int .i64 0) 1 8 Try.underlying67 info_i64 rfl (by decide) _ _ _ _ _ rfl HF.out [.int .i64 own] rfl (by simp [Value.oneCell']) rfl (by simp) (by omega) (by decide) hz6 ?_; intro v6 w6 ho6 hg6 hor6)
              change World.grownBy _ _ u4.ownBlock at hg6
              change v6.ownBlock = u4.ownBlock ∨ _ at hor6
              have hK6 : OwnRu w6 w1.heap.size u5 K := OwnRu.kept HK.out hg6 HAP.out
              have hA6 : Apart2 v6 u5 := apart_symm (apart_step HK.out HAP.out hor6)
              have hz66 := hg6.size
              have hb6 : Below w1.heap.size w1 w6 := Below.grown HBB.out hg6 hz6 (fun q hq => (HF.out.lt q hq).1)
              have q0 : w6.cell? ⟨bx, 0, none⟩ = some (.string y1) := (hg6.cell_far ⟨bx, 0, none⟩ hbx5 (fun e => HFN.out.1 e.symm)).trans HBX5.out.1
              have q1 : w6.cell? ⟨bx, 1, none⟩ = some (.int .i64 y2) := (hg6.cell_far ⟨bx, 1, none⟩ hbx5 (fun e => HFN.out.1 e.symm)).trans HBX5.out.2.1
              have q2 : w6.cell? ⟨bx, 2, none⟩ = some (.int .i64 y3) := (hg6.cell_far ⟨bx, 2, none⟩ hbx5 (fun e => HFN.out.1 e.symm)).trans HBX5.out.2.2
              have HO6 := Lib.hid ho6
              have HK6 := Lib.hid hK6
              have HA6 := Lib.hid hA6
              have HB6 := Lib.hid hb6
              clear ho6 hK6 hA6 hb6 hg6 hor6 HF HK HAP HBX5 HBB
              have hz67 : w1.heap.size ≤ w6.heap.size := HB6.out.size
              go_wp2_with (at_builtin; refine list_app_ru rfl _ _ rfl w1.heap.size _ _ K (y1, y2, y3) rfl (OwnRu.alloc HK6.out _) w6.heap.size rfl (by simp [go_sem]) (by simp [go_sem]) (by simp [go_sem]) (by rw [HKL.out]; omega) (by simp; omega) ?_; rw [HKL.out]; intro g7 c7 w7 ho7 hg7 hge7 hlt7 hor7)
              have hF7 : w7.ownsRow w1.heap.size 2 1 v6 (i + 1) ((F ++ [(own : Int)]).map (Value.int .i64)) := by
                have := World.ownsRow.kept (HO6.out.alloc (.cells #[.string y1, .int .i64 y2, .int .i64 y3] 59)) hg7 HA6.out
                simpa using this
              have hA7 : Apart2 v6 (.slice (some ⟨g7, 0, none⟩) (i + 1) c7) := by
                refine apart_step (HO6.out.alloc (.cells #[.string y1, .int .i64 y2, .int .i64 y3] 59)) HA6.out ?_
                rcases hor7 with e | e
                · exact .inl e.symm
                · exact .inr ⟨g7, rfl, by omega⟩
              have hb7 : Below w1.heap.size w1 w7 := Below.grown (HB6.out.alloc hz67 _) hg7 (by simp; omega) (fun q hq => (HK6.out.lt q hq).1)
              have hT7 : TrF w1 l (i + 1) v6 (.slice (some ⟨g7, 0, none⟩) (i + 1) c7) (F ++ [(own : Int)]) (K ++ [(y1, y2, y3)]) w7 := ⟨HST.out own HHOW.out, hF7, by rw [OwnRu, List.length_append, HKL.out]; rw [OwnRu, List.length_append, HKL.out] at ho7; exact ho7, hA7, apart_symm hA7, hb7⟩
              have HT7 := Lib.hid hT7
              clear hT7 hF7 hA7 hb7 ho7 hg7 hor7 HO6 HK6 HA6 HB6 q0 q1 q2
              go_wp2
              go_roundw
              case rel => exact ⟨i + 1, _, _, by go_num, by omega, HT7.out⟩
              case measure => first | (simp [intOf]; done) | (simp [intOf]; omega)
    · obtain rfl : i = l.length := by omega
      obtain ⟨wS, rfl⟩ : ∃ x, x = wr := ⟨_, rfl⟩
      have hTT := HT.out
      obtain ⟨h1, h2, h3, h4, h5, h6⟩ := hTT
      obtain ⟨gf, cf, rfl, hgf, hgf2⟩ := owns_some3 h2 (by omega)
      obtain ⟨gk, cgk, rfl, hgk, hgk2⟩ := owns_some3 h3 (by rw [h1.kl]; omega)
      have hkl := h1.kl
      obtain ⟨m, hm⟩ : ∃ m, m = l.length - 1 := ⟨_, rfl⟩
      have hmn : (l.length : Int) - 1 = (m : Int) := by omega
      have hml : m < l.length := by omega
      have hfb := h1.fb m hml
      obtain ⟨ro, hro⟩ := Int.eq_ofNat_of_zero_le hfb.1
      have hron : ro < l.length := by omega
      have HFR := Lib.hid (fun (X : World) (hb : Below wS.heap.size wS X) => own_get (owns_after h2 hb) h1.fl hml)
      rw [hro] at HFR
      have hKn : K ≠ [] := by intro e; rw [e] at hkl; simp at hkl; omega
      have HKR : Hid (∀ (X : World), Below wS.heap.size wS X → ∀ k, k < l.length → X.cell? ⟨gk, k * 3, none⟩ = some (.string (ruA K k).1) ∧ X.cell? ⟨gk, k * 3 + 1, none⟩ = some (.int .i64 (ruA K k).2.1) ∧ X.cell? ⟨gk, k * 3 + 2, none⟩ = some (.int .i64 (ruA K k).2.2)) := by
        intro X hb k hk
        obtain ⟨bk, ok, hek, -, k0, k1, k2⟩ := inRu_at (inRu_of_own (owns_after h3 hb) hKn) (show k < K.length by omega)
        injection hek with hek; injection hek with hek1 hek2
        subst hek1 hek2
        rw [Nat.zero_add] at k0 k1 k2
        exact ⟨k0, k1, k2⟩
      have HT1 := Lib.hid h1
      have HBW := Lib.hid h6
      have HM := Lib.hid (And.intro hm hro)
      have HKW := Lib.hid h1.kw
      rw [hkl]
      have HKL := Lib.hid hkl
      have hiI : ¬ ((l.length : Nat) : Int) < l.length := by omega
      have hn0 : (0 : Int) < l.length := by omega
      clear h1 h2 h3 h4 h5 h6 hkl hm hfb hro hKn HT hi hlt
      go_upto_region 18 with fail
      go_wp2_with (at_make; refine makeB _ rfl _ _ rfl wS.heap.size (Nat.le_refl _) l.length rfl rfl (by omega) ?_; intro w2 ho2 hb2; have c2 := HFR.out _ hb2; have e2 := own_getB ho2 (by simp) hron; have f2 : w2.frozen? ⟨wS.heap.size, ro, none⟩ = false := ho2.frozenAt ro; have HO2 := Lib.hid ho2; have HB2 := Lib.hid hb2; have hz2 : wS.heap.size < w2.heap.size := (ho2.lt _ rfl).2; clear ho2 hb2)
      have HN0 := Lib.hid (own_setB HO2.out ro true)
      have HT20 := Lib.hid (T2.start (K := K) (n := l.length) (ro := ro) hron)
      have HB20 := Lib.hid (HB2.out.setCell (p := ⟨wS.heap.size, ro, none⟩) (Nat.le_refl _) (.bool true))
      have hz20 : wS.heap.size < (w2.setCell ⟨wS.heap.size, ro, none⟩ (.bool true)).heap.size := by simpa using hz2
      go_loopw [11] (fun ii wx => ∃ (t : Nat) (ix : Int) (N : List Bool), ii = .int .i64 ix ∧ ix = (t : Int) - 1 ∧ t ≤ l.length ∧ T2 K l.length ro t N ∧ wx.ownsRow wS.heap.size 4 1 (.slice (some ⟨wS.heap.size, 0, none⟩) l.length l.length) l.length (N.map Value.bool) ∧ Below wS.heap.size wS wx ∧ wS.heap.size < wx.heap.size) (fun ii _ => (intOf ii + 1).toNat)
      case atStart => exact ⟨l.length, m, _, rfl, hmn.symm, Nat.le_refl _, HT20.out, HN0.out, HB20.out, hz20⟩
      case round =>
        obtain ⟨t, ix, N, rfl, hix, ht, hT2, hown, hb, hzx⟩ := hrel
        have HO := Lib.hid hown
        have HB3 := Lib.hid hb
        have HT2 := Lib.hid hT2
        clear hown hb hT2 HN0 HT20 HB20 c2 e2 f2 HO2 HB2
        by_cases ht0 : 0 < t
        · obtain ⟨j, rfl⟩ : ∃ j, t = j + 1 := ⟨t - 1, by omega⟩
          obtain rfl : ix = (j : Int) := by omega
          have hjl : j < l.length := by omega
          have hjI : (j : Int) < l.length := by omega
          have hj0 : (0 : Int) ≤ (j : Int) := by omega
          have cn := own_getB HO.out HT2.out.nl hjl
          obtain ⟨k0, k1, k2⟩ := HKR.out _ HB3.out j hjl
          clear hix ht ht0
          cases hNj : N.getD j false
          · rw [hNj] at cn
            have HT3 := Lib.hid (HT2.out.skip (fun h => by rw [hNj] at h; cases h.1))
            clear hNj
            go_wp2
            go_roundw
            case rel => exact ⟨j, (j : Int) - 1, N, by go_num, rfl, by omega, HT3.out, HO.out, HB3.out, by omega⟩
            case measure => first | (simp [intOf]; done) | (simp [intOf]; omega)
          · rw [hNj] at cn
            by_cases hz : (ruA K j).1.size = 0
            · obtain ⟨q1, q2, q3, q4⟩ := (HKW.out j (by rw [HKL.out]; exact hjl)).1 hz
              have HT3 := Lib.hid (HT2.out.mark HKW.out HKL.out hjl hNj hz)
              have ex := size_zero hz
              obtain ⟨p, hp1⟩ := Int.eq_ofNat_of_zero_le q1
              obtain ⟨q, hq1⟩ := Int.eq_ofNat_of_zero_le q3
              rw [hp1, hq1] at HT3
              simp only [Int.toNat_natCast] at HT3
              rw [ex] at k0
              rw [hp1] at k1
              have K2 := Lib.hid (fun X hb => (HKR.out X hb j hjl).2.2)
              rw [hq1] at k2 K2
              have hpl : p < l.length := by omega
              have hql : q < l.length := by omega
              have hpI : (p : Int) < l.length := by omega
              have hqI : (q : Int) < l.length := by omega
              have cp := own_getB HO.out HT2.out.nl hpl
              have fp : wr.frozen? ⟨wS.heap.size, p, none⟩ = false := HO.out.frozenAt p
              have HNL := Lib.hid HT2.out.nl
              clear hNj hz q1 q2 q3 q4 hp1 hq1 ex
              go_upto_region 26 with fail
              refine gen_world2 (fun X => X.ownsRow wS.heap.size 4 1 (.slice (some ⟨wS.heap.size, 0, none⟩) l.length l.length) l.length ((N.set p true).map Value.bool) ∧ Below wS.heap.size wS X ∧ wS.heap.size < X.heap.size) ⟨own_setB HO.out p true, HB3.out.setCell (p := ⟨wS.heap.size, p, none⟩) (Nat.le_refl _) _, by simpa using hzx⟩ ?_
              rintro X ⟨hoX, hbX, hzX⟩
              have kq := K2.out X hbX
              have cq := own_getB hoX (by rw [List.length_set]; exact HNL.out) hql
              have fq : X.frozen? ⟨wS.heap.size, q, none⟩ = false := hoX.frozenAt q
              have HOX := Lib.hid (own_setB hoX q true)
              have HBX := Lib.hid (hbX.setCell (p := ⟨wS.heap.size, q, none⟩) (Nat.le_refl _) (.bool true))
              have hzX2 : wS.heap.size < (X.setCell ⟨wS.heap.size, q, none⟩ (.bool true)).heap.size := by simpa using hzX
              clear hoX hbX cp fp k0 k1 k2 cn
              go_wp2
              go_roundw
              case rel => exact ⟨j, (j : Int) - 1, _, by go_num, rfl, by omega, HT3.out, HOX.out, HBX.out, hzX2⟩
              case measure => first | (simp [intOf]; done) | (simp [intOf]; omega)
            · have hne := neq_empty hz
              have hne2 := not_empty hz
              have HT3 := Lib.hid (HT2.out.skip (fun h => hz h.2))
              clear hNj hz
              generalize (ruA K j).1 = x1 at *
              go_wp2
              go_roundw
              case rel => exact ⟨j, (j : Int) - 1, N, by go_num, rfl, by omega, HT3.out, HO.out, HB3.out, by omega⟩
              case measure => first | (simp [intOf]; done) | (simp [intOf]; omega)
        · obtain rfl : t = 0 := by omega
          obtain rfl : ix = -1 := by omega
          obtain ⟨wT, rfl⟩ : ∃ x, x = wr := ⟨_, rfl⟩
          clear hix ht ht0 hz20
          have HND := Lib.hid (fun (X : World) (hb : Below wT.heap.size wT X) (j : Nat) (hj : j < l.length) => own_getB (owns_after HO.out hb) HT2.out.nl hj)
          have HK2 := Lib.hid (fun (X : World) (hb : Below wT.heap.size wT X) => HKR.out X (HB3.out.trans (hb.mono HB3.out.size)))
          have HBT := Lib.hid (HBW.out.trans (HB3.out.mono HBW.out.size))
          have hzt : w1.heap.size ≤ wT.heap.size := HBT.out.size
          clear HKR HFR HO HBW
          go_upto_region 27 with fail
          go_wp2_with (at_make; refine make64 _ rfl _ _ rfl wT.heap.size (Nat.le_refl _) l.length rfl rfl (by omega) ?_; intro w5 ho5 hb5; have HO5 := Lib.hid ho5; have HB5 := Lib.hid hb5; have hz5 : wT.heap.size < w5.heap.size := (ho5.lt _ rfl).2; clear ho5 hb5)
          obtain ⟨bo, hbo⟩ : ∃ b, b = w5.heap.size := ⟨_, rfl⟩
          have hal5 := (Below.refl w5.heap.size w5).alloc (Nat.le_refl _) (.cells #[.slice none 0 0] 26)
          have HOW : Hid (∃ vo, (w5.alloc (.cells #[.slice none 0 0] 26)).cell? ⟨bo, 0, none⟩ = some vo ∧ (w5.alloc (.cells #[.slice none 0 0] 26)).frozen? ⟨bo, 0, none⟩ = false ∧ OwnRu (w5.alloc (.cells #[.slice none 0 0] 26)) (bo + 1) vo [] ∧ bo < (w5.alloc (.cells #[.slice none 0 0] 26)).heap.size) := by
            rw [hbo]
            exact ⟨.slice none 0 0, by simp [go_sem], by simp [go_sem], ⟨rfl, .inl ⟨rfl, rfl⟩⟩, by simp⟩
          have HO6 := Lib.hid (owns_after HO5.out hal5)
          have HB6 := Lib.hid (HB5.out.trans (hal5.mono HB5.out.size))
          have hbz : wT.heap.size < bo := by omega
          rw [← hbo]
          clear hbo hal5 HO5 HB5 hz5
          go_loopw [14, 15] (fun ii _ wx => ∃ (i : Nat) (M : List Int) (O : List Ru) (vo : Value), ii = .int .i64 (i : Nat) ∧ i ≤ l.length ∧ T3 l K l.length ro i N M O ∧ wx.ownsRow wT.heap.size 2 1 (.slice (some ⟨wT.heap.size, 0, none⟩) l.length l.length) l.length (M.map (Value.int .i64)) ∧ wx.cell? ⟨bo, 0, none⟩ = some vo ∧ wx.frozen? ⟨bo, 0, none⟩ = false ∧ OwnRu wx (bo + 1) vo O ∧ bo < wx.heap.size ∧ Below wT.heap.size wT wx) (fun ii _ _ => l.length - (intOf ii).toNat)
          case atStart =>
            obtain ⟨vo, o1, o2, o3, o4⟩ := HOW.out
            exact ⟨0, _, [], vo, rfl, by omega, T3.start l K l.length ro N, HO6.out, o1, o2, o3, o4, HB6.out⟩
          case round =>
            obtain ⟨i, M, O, vo, rfl, hi, hT3, hrow, hbc, hbf, hown, hbs, hbel⟩ := hrel
            have HT3 := Lib.hid hT3
            have HRW := Lib.hid hrow
            have HOO := Lib.hid hown
            have HBL := Lib.hid hbel
            clear HOW HO6 HB6 hT3 hrow hown hbel
            by_cases hil : i < l.length
            · have hiI2 : (i : Int) < l.length := by omega
              have cn := HND.out _ HBL.out i hil
              cases hNi : N.getD i false
              · rw [hNi] at cn
                have HT4 := Lib.hid (HT3.out.skip HT2.out hNi)
                clear hNi
                go_wp2
                go_roundw
                case rel => exact ⟨i + 1, M, O, vo, by go_num, by omega, HT4.out, HRW.out, hbc, hbf, HOO.out, hbs, HBL.out⟩
                case measure => first | (simp [intOf]; done) | (simp [intOf]; omega)
              · rw [hNi] at cn
                have HT4 := Lib.hid (HT3.out.add (F' := []) HT1.out HT2.out hil hNi)
                obtain ⟨ao, co, rfl⟩ : ∃ ao co, vo = .slice ao O.length co := by
                  rcases owns_cases3 HOO.out with ⟨e1, e2, -⟩ | ⟨g, cap, e1, -⟩
                  · exact ⟨none, 0, by rw [e1, e2]⟩
                  · exact ⟨_, _, e1⟩
                have cm := own_get HRW.out HT3.out.ml hil
                have fm : wr.frozen? ⟨wT.heap.size, i, none⟩ = false := HRW.out.frozenAt i
                have HM1 := Lib.hid (own_set HRW.out i (O.length : Int))
                have HML : Hid ((M.set i (O.length : Int)).length = l.length) := by show _ = _; rw [List.length_set]; exact HT3.out.ml
                have hOl : O.length ≤ i := HT3.out.ol
                have HBX := Lib.hid (HBL.out.setCell (p := ⟨wT.heap.size, i, none⟩) (Nat.le_refl _) (.int .i64 (O.length : Int)))
                have hbo2 : bo ≠ wT.heap.size := by omega
                clear hNi HT3
                go_upto_region 34 with fail
                refine gen_world2 (fun X => X.ownsRow wT.heap.size 2 1 (.slice (some ⟨wT.heap.size, 0, none⟩) l.length l.length) l.length ((M.set i (O.length : Int)).map (Value.int .i64)) ∧ X.cell? ⟨bo, 0, none⟩ = some (.slice ao O.length co) ∧ X.frozen? ⟨bo, 0, none⟩ = false ∧ OwnRu X (bo + 1) (.slice ao O.length co) O ∧ bo < X.heap.size ∧ Below wT.heap.size wT X) ⟨HM1.out, ?_, ?_, ?_, by simpa using hbs, HBX.out⟩ ?_
                · rw [World.cell?_setCell_far _ _ _ _ (by simp; omega)]; exact hbc
                · simpa using hbf
                · refine HOO.out.kept (grownBy_set _ _ _) ?_
                  cases he : (Value.slice ao O.length co).ownBlock with
                  | none => exact .inl rfl
                  | some g => exact .inr (by have := (HOO.out.lt g he).1; intro e; injection e with e; simp at e; omega)
                clear HM1 HBX HRW HOO cm fm hbc hbf hbs HBL cn
                rintro X ⟨hrowX, hbcX, hbfX, hownX, hbsX, hbelX⟩
                obtain ⟨M1, hM1⟩ : ∃ M1, M.set i (O.length : Int) = M1 := ⟨_, rfl⟩
                rw [hM1] at hrowX HML HT4
                clear hM1
                obtain ⟨k0, k1, k2⟩ := HK2.out X hbelX i hil
                have hKok := HKW.out i (by rw [HKL.out]; exact hil)
                obtain ⟨r, hr⟩ : ∃ r, ruA K i = r := ⟨_, rfl⟩
                rw [hr] at k0 k1 k2 hKok HT4
                clear hr
                obtain ⟨x1, x2, x3⟩ := r
                simp only at k0 k1 k2
                have HRX := Lib.hid hrowX
                have HOX := Lib.hid (And.intro hbcX (And.intro hbfX (And.intro hownX hbsX)))
                have HBLX := Lib.hid hbelX
                have HKO := Lib.hid hKok
                obtain ⟨bx, hbx⟩ : ∃ b, b = X.heap.size := ⟨_, rfl⟩
                have HBXX : Hid (BxT X.heap.size (x1, x2, x3) (X.alloc (.cells #[.string x1, .int .i64 x2, .int .i64 x3] 59))) := ⟨by simp [go_sem], by simp [go_sem], by simp [go_sem]⟩
                have HBA := Lib.hid ((Below.refl X.heap.size X).alloc (Nat.le_refl _) (.cells #[.string x1, .int .i64 x2, .int .i64 x3] 59))
                have hbxz : bx < (X.alloc (.cells #[.string x1, .int .i64 x2, .int .i64 x3] 59)).heap.size := by rw [hbx]; simp
                have hfx : (X.alloc (.cells #[.string x1, .int .i64 x2, .int .i64 x3] 59)).frozen? ⟨bx, 0, none⟩ = false ∧ (X.alloc (.cells #[.string x1, .int .i64 x2, .int .i64 x3] 59)).frozen? ⟨bx, 1, none⟩ = false ∧ (X.alloc (.cells #[.string x1, .int .i64 x2, .int .i64 x3] 59)).frozen? ⟨bx, 2, none⟩ = false := by rw [hbx]; exact ⟨by simp [go_sem], by simp [go_sem], by simp [go_sem]⟩
                clear hrowX hbcX hbfX hownX hbsX hbelX hKok
                go_upto_region 35 with fail
                rw [← hbx] at HBXX ⊢
                have HBXE := Lib.hid hbx
                clear hbx
                generalize X.alloc (.cells #[.string x1, .int .i64 x2, .int .i64 x3] 59) = wA at *
                obtain ⟨t0, t1, t2⟩ := HBXX.out
                simp only at t0 t1 t2
                obtain ⟨f0, f1, f2⟩ := hfx
                go_upto_if 151 with fail
                generalize hzb : x1.toList.isEmpty = zb
                go_cut [] (fun wx => BxT bx (tmR M1 (x1, x2, x3)) wx ∧ Below X.heap.size X wx)
                case first =>
                  cases zb
                  case true =>
                    have hz : x1.size = 0 := by
                      rw [List.isEmpty_iff, ByteArray.toList_eq] at hzb
                      have : x1.data.toList.length = x1.size := by rw [Array.length_toList]; rfl
                      rw [hzb] at this; exact this.symm
                    have ex := size_zero hz
                    subst ex
                    clear hzb
                    obtain ⟨q1, q2, q3, q4⟩ := HKO.out.1 rfl
                    simp only at q1 q2 q3 q4
                    obtain ⟨p, rfl⟩ := Int.eq_ofNat_of_zero_le q1
                    obtain ⟨q, rfl⟩ := Int.eq_ofNat_of_zero_le q3
                    have hpl : p < l.length := by omega
                    have hql : q < l.length := by omega
                    have hpI : (p : Int) < l.length := by omega
                    have hqI : (q : Int) < l.length := by omega
                    have hrowA := owns_after HRX.out HBA.out
                    have cp := own_get hrowA HML.out hpl
                    have cq := own_get hrowA HML.out hql
                    have HTM : Hid (tmR M1 ((⟨#[]⟩ : ByteArray), (p : Int), (q : Int)) = ((⟨#[]⟩ : ByteArray), M1.getD p 0, M1.getD q 0)) := by show _ = _; simp [tmR, ByteArray.size]
                    clear q1 q2 q3 q4 hz hrowA
                    generalize M1.getD p 0 = fp at *
                    generalize M1.getD q 0 = fq at *
                    go_wp2
                    refine wp_region_L (S := fun w' => w'.cell? ⟨bx, 1, none⟩ = some (.int .i64 p) ∧ w'.cell? ⟨bx, 2, none⟩ = some (.int .i64 q) ∧ w'.cell? ⟨wT.heap.size, p, none⟩ = some (.int .i64 fp) ∧ w'.cell? ⟨wT.heap.size, q, none⟩ = some (.int .i64 fq)) (T := [11]) (by kernel_rfl) ⟨by assumption, by assumption, by assumption, by assumption⟩ (fun hHeld => ?_)
                    refine wpAnyL_take (i := 0) (v := ?_) rfl (by kernel_rfl) (by kernel_rfl) (by kernel_rfl) (by kernel_rfl) (fun _ _ _ h => h) (Or.inl ⟨by rfl, ?_⟩) (by assumption) ?_
                    rotate_left
                    · intro w hSw
                      try dsimp only at hSw
                      go_simp
                      all_goals with_reducible rfl
                    try simp only [Act.put, List.setIfInBounds_toArray, List.set_cons_zero, List.set_cons_succ]
                    refine wpAnyL_take (i := 1) (v := ?_) rfl (by kernel_rfl) (by kernel_rfl) (by kernel_rfl) (by kernel_rfl) (fun _ _ _ h => h) (Or.inl ⟨by rfl, ?_⟩) (by assumption) ?_
                    rotate_left
                    · intro w hSw
                      try dsimp only at hSw
                      go_simp
                      all_goals with_reducible rfl
                    try simp only [Act.put, List.setIfInBounds_toArray, List.set_cons_zero, List.set_cons_succ]
                    refine wpAnyL_take (i := 2) (v := ?_) rfl (by kernel_rfl) (by kernel_rfl) (by kernel_rfl) (by kernel_rfl) (fun _ _ _ h => h) (Or.inl ⟨by rfl, ?_⟩) (by assumption) ?_
                    rotate_left
                    · intro w hSw
                      try dsimp only at hSw
                      go_simp
                      all_goals with_reducible rfl
                    try simp only [Act.put, List.setIfInBounds_toArray, List.set_cons_zero, List.set_cons_succ]
                    refine wpAnyL_take (i := 3) (v := ?_) rfl (by kernel_rfl) (by kernel_rfl) (by kernel_rfl) (by kernel_rfl) (fun _ _ _ h => h) (Or.inl ⟨by rfl, ?_⟩) (by assumption) ?_
                    rotate_left
                    · intro w hSw
                      try dsimp only at hSw
                      go_simp
                      all_goals with_reducible rfl
                    try simp only [Act.put, List.setIfInBounds_toArray, List.set_cons_zero, List.set_cons_succ]
                    refine wpAnyL_take (i := 4) (v := ?_) rfl (by kernel_rfl) (by kernel_rfl) (by kernel_rfl) (by kernel_rfl) (fun _ _ _ h => h) (Or.inl ⟨by rfl, ?_⟩) (by assumption) ?_
                    rotate_left
                    · intro w hSw
                      try dsimp only at hSw
                      go_simp
                      all_goals with_reducible rfl
                    try simp only [Act.put, List.setIfInBounds_toArray, List.set_cons_zero, List.set_cons_succ]
                    refine wpAnyL_take (i := 5) (v := ?_) rfl (by kernel_rfl) (by kernel_rfl) (by kernel_rfl) (by kernel_rfl) (fun _ _ _ h => h) (Or.inl ⟨by rfl, ?_⟩) (by assumption) ?_
                    rotate_left
                    · intro w hSw
                      try dsimp only at hSw
                      go_simp
                      all_goals with_reducible rfl
                    try simp only [Act.put, List.setIfInBounds_toArray, List.set_cons_zero, List.set_cons_succ]
                    refine wpAnyL_take (i := 6) (v := ?_) rfl (by kernel_rfl) (by kernel_rfl) (by kernel_rfl) (by kernel_rfl) (fun _ _ _ h => h) (Or.inl ⟨by rfl, ?_⟩) (by assumption) ?_
                    rotate_left
                    · intro w hSw
                      try dsimp only at hSw
                      go_simp
                      all_goals with_reducible rfl
                    try simp only [Act.put, List.setIfInBounds_toArray, List.set_cons_zero, List.set_cons_succ]
                    refine wpAnyL_take (i := 7) (v := ?_) rfl (by kernel_rfl) (by kernel_rfl) (by kernel_rfl) (by kernel_rfl) (fun _ _ _ h => h) (Or.inl ⟨by rfl, ?_⟩) (by assumption) ?_
                    rotate_left
                    · intro w hSw
                      try dsimp only at hSw
                      go_simp
                      all_goals with_reducible rfl
                    try simp only [Act.put, List.setIfInBounds_toArray, List.set_cons_zero, List.set_cons_succ]
                    refine wpAnyL_take (i := 8) (v := ?_) rfl (by kernel_rfl) (by kernel_rfl) (by kernel_rfl) (by kernel_rfl) (fun _ _ _ h => h) (Or.inl ⟨by rfl, ?_⟩) (by assumption) ?_
                    rotate_left
                    · intro w hSw
                      try dsimp only at hSw
                      go_simp
                      all_goals with_reducible rfl
                    try simp only [Act.put, List.setIfInBounds_toArray, List.set_cons_zero, List.set_cons_succ]
                    refine wpAnyL_take (i := 9) (v := ?_) rfl (by kernel_rfl) (by kernel_rfl) (by kernel_rfl) (by kernel_rfl) (fun _ _ _ h => h) (Or.inl ⟨by rfl, ?_⟩) (by assumption) ?_
                    rotate_left
                    · intro w hSw
                      try dsimp only at hSw
                      go_simp
                      all_goals with_reducible rfl
                    try simp only [Act.put, List.setIfInBounds_toArray, List.set_cons_zero, List.set_cons_succ]
                    refine wpAnyL_take (i := 10) (v := ?_) rfl (by kernel_rfl) (by kernel_rfl) (by kernel_rfl) (by kernel_rfl) (fun _ _ _ h => h) (Or.inl ⟨by rfl, ?_⟩) (by assumption) ?_
                    rotate_left
                    · intro w hSw
                      try dsimp only at hSw
                      go_simp
                      all_goals with_reducible rfl
                    try simp only [Act.put, List.setIfInBounds_toArray, List.set_cons_zero, List.set_cons_succ]
                    clear hHeld
                    refine wpAnyL_tail (i := 11) (by kernel_rfl) (by rfl) rfl (fun K hK => ?_)
                    go_simp
                    go_wp2_with fail
                    refine hK.out _ _ ?_
                    clear hK K
                    try simp only [Act.put, List.setIfInBounds_toArray, List.set_cons_zero, List.set_cons_succ]
                    refine wpAny_done (by kernel_rfl) ?_ _
                    go_wp2
                    go_meet
                    rw [HTM.out]
                    have hS := HBXX.out.set (s := ((⟨#[]⟩ : ByteArray), fp, fq)) HBA.out (Nat.le_of_eq HBXE.out.symm)
                    first | exact ⟨hS.1.bel (Below.drew (Below.refl _ _)), hS.2.drew⟩ | exact hS
                  case false =>
                    have hz : x1.size ≠ 0 := by
                      intro e
                      have ex := size_zero e
                      rw [ex, ByteArray.toList_eq] at hzb
                      exact absurd hzb (by simp)
                    clear hzb
                    have HTM : Hid (tmR M1 (x1, x2, x3) = (x1, x2, x3)) := by show _ = _; rw [tmR, if_neg hz]
                    clear hz
                    go_wp2
                    go_meet
                    rw [HTM.out]
                    exact ⟨HBXX.out, HBA.out⟩
                case rest =>
                  obtain ⟨hbx2, hb2⟩ := hcut
                  obtain ⟨oc1, oc2, oc3, oc4⟩ := HOX.out
                  have bc := cell_later hb2 oc1
                  have bf : wc.frozen? ⟨bo, 0, none⟩ = false := (hb2.frozen (p := ⟨bo, 0, none⟩) oc4).trans oc2
                  have bown := owns_after oc3 hb2
                  have bz : bo < wc.heap.size := Nat.lt_of_lt_of_le oc4 hb2.size
                  have HRC := Lib.hid (owns_after HRX.out hb2)
                  have HBC := Lib.hid (HBLX.out.trans (hb2.mono HBLX.out.size))
                  have HBO := Lib.hid bown
                  obtain ⟨r', hr'⟩ : ∃ r', tmR M1 (x1, x2, x3) = r' := ⟨_, rfl⟩
                  rw [hr'] at hbx2 HT4
                  clear hr' HBXX HBA t0 t1 t2 f0 f1 f2 hbxz HOX HRX HBLX HKO HBXE hzb oc1 oc2 oc3 oc4 bown hb2 k0 k1 k2
                  obtain ⟨y1, y2, y3⟩ := r'
                  obtain ⟨t0, t1, t2⟩ := hbx2
                  simp only at t0 t1 t2
                  have hOl4 : O.length ≤ 1048576 := by omega
                  go_wp2_with (at_builtin; refine list_app_ru rfl _ _ rfl (bo + 1) _ _ O (y1, y2, y3) rfl (OwnRu.alloc HBO.out _) wc.heap.size rfl (by simp [go_sem]) (by simp [go_sem]) (by simp [go_sem]) hOl4 (by simp; omega) ?_; intro g7 c7 w7 ho7 hg7 hge7 hlt7 hor7; have hboc : w7.cell? ⟨bo, 0, none⟩ = some (.slice ao O.length co) := (by rw [hg7.cell_far _ (by simp; omega) (by simp; intro e; have := (HBO.out.lt _ e.symm).1; omega)]; exact cell_later ((Below.refl _ _).alloc (Nat.le_refl _) _) bc); have hbof : w7.frozen? ⟨bo, 0, none⟩ = false := (by rw [hg7.frozen_far _ (by simp; omega) (by simp; intro e; have := (HBO.out.lt _ e.symm).1; omega)]; exact (((Below.refl wc.heap.size wc).alloc (Nat.le_refl _) _).frozen (p := ⟨bo, 0, none⟩) bz).trans bf))
                  have hbc7 : Below wT.heap.size wT w7 := Below.grown (HBC.out.alloc (by omega) _) hg7 (by simp; omega) (fun q hq => by have := (HBO.out.lt q hq).1; omega)
                  have hz7 : wc.heap.size + 1 ≤ w7.heap.size := by have := hg7.size; simpa using this
                  have hr7 : w7.ownsRow wT.heap.size 2 1 (.slice (some ⟨wT.heap.size, 0, none⟩) l.length l.length) l.length (M1.map (Value.int .i64)) := by
                    refine World.ownsRow.kept (HRC.out.alloc _) hg7 (.inr ?_)
                    intro e
                    have h9 : bo + 1 ≤ wT.heap.size := (HBO.out.lt _ e.symm).1
                    omega
                  have HR8 := Lib.hid (World.ownsRow.kept hr7 (grownBy_set w7 ⟨bo, 0, none⟩ (.slice (some ⟨g7, 0, none⟩) (O.length + 1) c7)) (.inr (by simp [Value.ownBlock]; omega)))
                  have HO8 : Hid (OwnRu (w7.setCell ⟨bo, 0, none⟩ (.slice (some ⟨g7, 0, none⟩) (O.length + 1) c7)) (bo + 1) (.slice (some ⟨g7, 0, none⟩) (O.length + 1) c7) (O ++ [(y1, y2, y3)])) := by
                    refine OwnRu.kept ?_ (grownBy_set w7 ⟨bo, 0, none⟩ (.slice (some ⟨g7, 0, none⟩) (O.length + 1) c7)) (.inr (by simp [Value.ownBlock]; omega))
                    simpa [OwnRu] using ho7
                  have HB8 := Lib.hid (hbc7.setCell (p := ⟨bo, 0, none⟩) (Nat.le_of_lt hbz) (.slice (some ⟨g7, 0, none⟩) (O.length + 1) c7))
                  have HC8 := Lib.hid (cell_st_same (.slice (some ⟨g7, 0, none⟩) (O.length + 1) c7) hboc)
                  have hf8 : (w7.setCell ⟨bo, 0, none⟩ (.slice (some ⟨g7, 0, none⟩) (O.length + 1) c7)).frozen? ⟨bo, 0, none⟩ = false := by simpa using hbof
                  have hs8 : bo < (w7.setCell ⟨bo, 0, none⟩ (.slice (some ⟨g7, 0, none⟩) (O.length + 1) c7)).heap.size := by simp; omega
                  have HOL : Hid ((O ++ [(y1, y2, y3)]).length = O.length + 1) := by show _ = _; simp
                  generalize w7.setCell ⟨bo, 0, none⟩ (.slice (some ⟨g7, 0, none⟩) (O.length + 1) c7) = w8 at *
                  clear hbc7 hr7 ho7 hg7 hor7 hboc hbof HRC HBC HBO bc bf t0 t1 t2
                  go_roundw
                  case rel => exact ⟨i + 1, M1, O ++ [(y1, y2, y3)], _, by go_num, by omega, HT4.out, HR8.out, HC8.out, hf8, HO8.out, hs8, HB8.out⟩
                  case measure => first | (simp [intOf]; done) | (simp [intOf]; omega)
            · obtain rfl : i = l.length := by omega
              have hiI2 : ¬ ((l.length : Nat) : Int) < l.length := by omega
              have hro2 := HM.out.2
              have hm2 := HM.out.1
              have hT2' : T2 K l.length (F.getD (l.length - 1) 0).toNat 0 N := by rw [← hm2, hro2, Int.toNat_natCast]; exact HT2.out
              have hT3' : T3 l K l.length (F.getD (l.length - 1) 0).toNat l.length N M O := by rw [← hm2, hro2, Int.toNat_natCast]; exact HT3.out
              have HFIN := Lib.hid (T3.fin hok h0 rfl HT1.out hT2' hT3')
              clear hT2' hT3' hro2 hm2
              obtain ⟨ao, co, rfl⟩ : ∃ ao co, vo = .slice ao O.length co := by
                rcases owns_cases3 HOO.out with ⟨e1, e2, -⟩ | ⟨g, cap, e1, -⟩
                · exact ⟨none, 0, by rw [e1, e2]⟩
                · exact ⟨_, _, e1⟩
              have hz9 := HZ1.out
              have hb9 := HBT.out.trans (HBL.out.mono HBT.out.size)
              have cr9 := cell_later hb9 HR.out.1
              have HBF := Lib.hid (HB.out.trans (hb9.mono HB.out.size))
              have cf9 : wr.frozen? ⟨w.heap.size, 0, none⟩ = false := (hb9.frozen (p := ⟨w.heap.size, 0, none⟩) (by simp; omega)).trans HR.out.2
              clear hb9
              go_wp2
              refine bodyPost_ret (v := .agg #[.slice ao O.length co]) (by simp [results, Try.results45, go_sem, cell_st_same _ cr9]) rfl ?_
              have hres : OwnRu (wr.setCell ⟨w.heap.size, 0, none⟩ (.slice ao O.length co)) w.heap.size (.slice ao O.length co) O := by
                refine OwnRu.weak (OwnRu.kept HOO.out (grownBy_set _ _ _) ?_) (show w.heap.size ≤ bo + 1 by omega)
                cases he : (Value.slice ao O.length co).ownBlock with
                | none => exact .inl rfl
                | some g => exact .inr (by have := (HOO.out.lt g he).1; intro e; injection e with e; simp at e; omega)
              have hbe := HBF.out.setCell (p := ⟨w.heap.size, 0, none⟩) (Nat.le_refl _) (.slice ao O.length co)
              first
                | exact ⟨_, O, rfl, hres, HFIN.out.1, HFIN.out.2.1, HFIN.out.2.2.1, HFIN.out.2.2.2.1, HFIN.out.2.2.2.2, hbe⟩
                | exact ⟨_, rfl, O, hres, HFIN.out.1, HFIN.out.2.1, HFIN.out.2.2.1, HFIN.out.2.2.2.1, HFIN.out.2.2.2.2, hbe⟩
end Go.Proofs.Ytoejelieogjjpaa

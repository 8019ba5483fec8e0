/- UsesOf, of the program and of the reference, and its law. -/
import Derived.Test.YtmcfjjhflnhehaaG8
import Derived.Test.YtmcfjjhflnhehaaG9
namespace Go.Proofs.Ytmcfjjhflnhehaa
open Go.ChangeShapes Go.WideShapes Go.RowKit
set_option linter.unusedVariables false
set_option linter.unusedSimpArgs false
set_option maxHeartbeats 2000000
set_option maxRecDepth 100000
/-- one rule's share is laid on its two rules -/
def usS (l : List Ru) (out : List Int) (i : Nat) : List Int :=
  if (ruA l i).1.size = 0 then
    let o1 := out.set (ruA l i).2.1.toNat (wrap64 (out.getD (ruA l i).2.1.toNat 0 + out.getD i 0))
    o1.set (ruA l i).2.2.toNat (wrap64 (o1.getD (ruA l i).2.2.toNat 0 + o1.getD i 0))
  else out
def usD (l : List Ru) : Nat → List Int → List Int
  | 0, out => out
  | k + 1, out => usD l k (usS l out k)
def usZ (n : Nat) : List Int := (List.replicate n 0).set (n - 1) 1
def gU (l : List Ru) : List Int := usD l l.length (usZ l.length)
def gUs (l : List Ru) : List Int := if gOk l then gU l else []
theorem usS_len (l : List Ru) (out : List Int) (i : Nat) : (usS l out i).length = out.length := by
  unfold usS; split <;> simp
theorem usD_len (l : List Ru) : ∀ (k : Nat) (out : List Int), (usD l k out).length = out.length
  | 0, out => rfl
  | k + 1, out => by rw [usD, usD_len l k, usS_len]
theorem gU_len (l : List Ru) : (gU l).length = l.length := by rw [gU, usD_len]; simp [usZ]
theorem usS_pair {l : List Ru} {out o1 : List Int} {i p q : Nat} (h : (ruA l i).1.size = 0) (hp : (ruA l i).2.1 = p) (hq : (ruA l i).2.2 = q) (h1 : o1 = out.set p (wrap64 (out.getD p 0 + out.getD i 0))) : usS l out i = o1.set q (wrap64 (o1.getD q 0 + o1.getD i 0)) := by
  unfold usS; rw [if_pos h, hp, hq, h1]; rfl
theorem usS_let {l : List Ru} {out : List Int} {i : Nat} (h : (ruA l i).1.size ≠ 0) : usS l out i = out := by unfold usS; rw [if_neg h]
theorem make64 {ops : Array Oper} {rest : List Oper} {o : Oper} {a : Act} {Q : Exit → Act → World → Prop} (w : World) (hg : o.guard = none) (l c : Operand) (hop : o.op = Op.makeSlice 36 l c) (base : Nat) (hbase : base ≤ w.heap.size) (n : Nat) (hl : a.eval l = .int .i64 n) (hc : a.eval c = .int .i64 n) (hn : n ≤ 1048576)
    (hK : ∀ w', w'.ownsRow base 2 1 (.slice (some ⟨w.heap.size, 0, none⟩) n n) n ((List.replicate n (0 : Int)).map (Value.int .i64)) → Below w.heap.size w w' → wpList Try.prog ops Q rest (a.put o.dst (.slice (some ⟨w.heap.size, 0, none⟩) n n)) w') :
    wpList Try.prog ops Q (o :: rest) a w := by
  obtain ⟨ii, hi, hz0, hz1, hz2⟩ := info_parts info_i64
  refine wpList_make_full w hg l c _ hop base 2 ii (.int .i64 0) 1 Try.underlying36 hi hz0 hz1 .i64 .i64 _ _ n hl hc rfl rfl (by rw [hz2]; omega) (by unfold maxLen; omega) hbase ?_
  intro w1 ho1 hg1
  refine hK w1 ?_ (below_of_grown hg1 (Nat.le_refl _) (fun k hk => by cases hk))
  rw [Nat.mul_one] at ho1
  have := toList_madeCells_one (.int .i64 0) n
  rw [show (Value.int IntKind.i64 0).cells = #[.int .i64 0] from rfl, this] at ho1
  simpa using ho1
theorem gen_world2 {c : Code} {Q : Exit → Act → World → Prop} {a : Act} {w' : World} (P : World → Prop) (h : P w') (k : ∀ w2, P w2 → Code.wp Try.prog c Q a w2) : Code.wp Try.prog c Q a w' := k w' h
theorem ownsRow_drew {w : World} {base e size : Nat} {v : Value} {n : Nat} {xs : List Value} (h : w.ownsRow base e size v n xs) : w.drew.ownsRow base e size v n xs := by
  exact h.drew
theorem own_set {w : World} {base e : Nat} {g n cap : Nat} {xs : List Int} (h : w.ownsRow base e 1 (.slice (some ⟨g, 0, none⟩) n cap) n (xs.map (Value.int .i64))) (k : Nat) (x : Int) :
    (w.setCell ⟨g, k, none⟩ (.int .i64 x)).ownsRow base e 1 (.slice (some ⟨g, 0, none⟩) n cap) n ((xs.set k x).map (Value.int .i64)) := by
  have := (h.stored k (.int .i64 x)).1
  rwa [← List.map_set] at this
theorem own_get {w : World} {base e : Nat} {g n cap : Nat} {xs : List Int} (h : w.ownsRow base e 1 (.slice (some ⟨g, 0, none⟩) n cap) n (xs.map (Value.int .i64))) (hl : xs.length = n) {k : Nat} (hk : k < n) : w.cell? ⟨g, k, none⟩ = some (.int .i64 (xs.getD k 0)) := by
  rw [h.cellAt k (by omega)]; simp [List.getD, show k < xs.length by omega]
theorem i_uses (v : Value) (l : List Ru) (w : World) (hok : gOk l = true) (hin : InRu w v l) :
    Calls Try.prog 59 #[.agg #[v]] w fun e w' => ∃ v', e = .returned v' ∧ Own64 w w' v' (gU l) := by
  obtain ⟨a, cap, rfl⟩ := inRu_sl hin
  obtain ⟨ii, hi, hz0, hz1, hz2⟩ := info_parts info_i64
  have b0 := box_cell w (.slice a l.length cap) 29
  have i0 := inRu_box (o := .cells #[.slice a l.length cap] 29) hin
  have HR := Lib.hid (fun k hk => @gOk_rule l hok k hk)
  have hl400 := (gOk_some hok).1
  have HBX : Hid (∀ w', Below (w.heap.size + 1) (w.alloc (.cells #[.slice a l.length cap] 29)) w' → Below w.heap.size w w') := fun w' h => below_box (by simpa using h)
  have HIN := Lib.hid i0
  have HB0 := Lib.hid b0
  clear hin i0 hok
  go_enter Try.func59, Try.ntmps59
  go_wp2_with (at_make; refine wpList_make_full _ rfl _ _ 36 rfl (w.heap.size + 1) 2 ii (.int .i64 0) 1 Try.underlying36 hi hz0 hz1 .i64 .i64 _ _ l.length rfl rfl rfl rfl (by rw [hz2]; omega) (by unfold maxLen; omega) (by simp) ?_; intro w1 ho1 hg1)
  have hbel : Below (w.heap.size + 1) (w.alloc (.cells #[.slice a l.length cap] 29)) w1 := below_of_grown hg1 (by simp) (fun k hk => by cases hk)
  have ho1' : w1.ownsRow (w.heap.size + 1) 2 1 (.slice (some ⟨w.heap.size + 1, 0, none⟩) l.length l.length) l.length ((List.replicate l.length (0 : Int)).map (Value.int .i64)) := by
    rw [Nat.mul_one] at ho1
    have := toList_madeCells_one (.int .i64 0) l.length
    rw [show (Value.int IntKind.i64 0).cells = #[.int .i64 0] from rfl, this] at ho1
    simpa using ho1
  have HO := Lib.hid ho1'
  have hgl : w.heap.size + 1 < w1.heap.size := (ho1'.lt _ rfl).2
  have HBEL := Lib.hid hbel
  clear ho1 ho1' b0 hbel hg1
  go_wp2
  go_loopw [4, 5] (fun i _ wr => Below (w.heap.size + 1) (w.alloc (.cells #[.slice a l.length cap] 29)) wr ∧ w.heap.size + 1 < wr.heap.size ∧ ∃ (k : Nat) (ix : Int) (out : List Int), k ≤ l.length ∧ i = .int .i64 ix ∧ ix = (k : Int) - 1 ∧ out.length = l.length ∧ wr.ownsRow (w.heap.size + 1) 2 1 (.slice (some ⟨w.heap.size + 1, 0, none⟩) l.length l.length) l.length (out.map (Value.int .i64)) ∧ usD l k (if k = l.length then out.set (l.length - 1) 1 else out) = gU l) (fun i _ _ => (intOf i + 1).toNat)
  case atStart =>
    refine ⟨HBEL.out, hgl, l.length, _, List.replicate l.length 0, Nat.le_refl _, rfl, by go_num, by simp, HO.out, ?_⟩
    rw [if_pos rfl]; rfl
  case round =>
    obtain ⟨hb, hgs, k, ix, out, hk, rfl, hix, hol, hown, hus⟩ := hrel
    have HB := Lib.hid hb
    have HOL := Lib.hid hol
    have HUS := Lib.hid hus
    by_cases hlt : 0 < k
    · obtain ⟨j, rfl⟩ : ∃ j, k = j + 1 := ⟨k - 1, by omega⟩
      obtain rfl : ix = (j : Int) := by omega
      have hjl : j < l.length := by omega
      have hin : ((j : Nat) : Int) < l.length := by omega
      obtain ⟨hr1, hr2⟩ := HR.out j hjl
      have hge : (0 : Int) ≤ (j : Int) := by omega
      have hcj := own_get hown hol hjl
      have hfj : wr.frozen? ⟨w.heap.size + 1, j, none⟩ = false := hown.frozenAt j
      clear hb hus hix hlt hol
      by_cases hlast : j + 1 = l.length
      · have hls : ((j : Int) == (l.length : Int) - 1) = true := by rw [beq_iff_eq]; omega
        have hbn := HB.out.setCell (p := ⟨w.heap.size + 1, j, none⟩) (Nat.le_refl _) (.int .i64 1)
        have hon := own_set hown j 1
        have HU2 : Hid (usD l (j + 1) (out.set j 1) = gU l) := by show _ = _; have := HUS.out; rw [if_pos hlast, ← hlast] at this; exact this
        obtain ⟨b, off, rfl, hbl, hc0, hc1, hc2⟩ := inRu_at (inRu_from HIN.out (by simp) hbn) hjl
        have hol2 : (out.set j 1).length = l.length := by simp; exact HOL.out
        have hgs2 : w.heap.size + 1 < (wr.setCell ⟨w.heap.size + 1, j, none⟩ (.int .i64 1)).heap.size := by simpa using hgs
        clear hown HUS HOL HB hgs
        generalize out.set j 1 = outn at *
        have hcb : ((wr.setCell ⟨w.heap.size + 1, j, none⟩ (.int .i64 1))).cell? ⟨w.heap.size, 0, none⟩ = some (.slice (some ⟨b, off, none⟩) l.length cap) := by rw [hbn.cell (p := ⟨w.heap.size, 0, none⟩) (by simp)]; exact HB0.out
        have hsz : ((wr.setCell ⟨w.heap.size + 1, j, none⟩ (.int .i64 1))).heap.size = wr.heap.size := by simp
        by_cases hz : (ruA l j).1.size = 0
        · obtain ⟨q1, q2, q3, q4⟩ := hr1 hz
          obtain ⟨p, hp⟩ := Int.eq_ofNat_of_zero_le q1
          obtain ⟨q, hq⟩ := Int.eq_ofNat_of_zero_le q3
          have hpj : p < j := by omega
          have hqj : q < j := by omega
          have HST := Lib.hid (fun o1 h => @usS_pair l outn o1 j p q hz hp hq h)
          have HD : Hid (usD l (j + 1) outn = usD l j (usS l outn j)) := rfl
          have hd : decide ((ruA l j).1.size = 0) = true := by simpa using hz
          rw [hp] at hc1
          rw [hq] at hc2
          clear hr1 hr2 hz hp hq q1 q2 q3 q4
          generalize (ruA l j).1 = x1 at *
          have HIS := Lib.hid (fun w => i_isPair x1 p q w)
          rw [hd] at HIS
          clear hd
          go_wp2_with fail
          refine (HIS.out _).mono ?_
          rintro e w2 ⟨rfl, hb2⟩
          have hb3 := below_box hb2
          have r1 : w2.cell? ⟨wr.heap.size, 1, none⟩ = some (.int .i64 p) := by rw [hb2.cell (by simp)]; simp [go_sem]
          have r2 : w2.cell? ⟨wr.heap.size, 2, none⟩ = some (.int .i64 q) := by rw [hb2.cell (by simp)]; simp [go_sem]
          have hown2 := owns_after hon hb3
          have hB2 := hbn.trans (hb3.mono (by have := hbn.size; simpa using this))
          have c0 := own_get hown2 hol2 (show p < l.length by omega)
          have c1 := own_get hown2 hol2 (show j < l.length by omega)
          have f0 : w2.frozen? ⟨w.heap.size + 1, p, none⟩ = false := hown2.frozenAt p
          have hpi : (p : Int) < l.length := by omega
          have hqi : (q : Int) < l.length := by omega
          have hbs : w2.heap.size > w.heap.size + 1 := by have := hb3.size; simp at this ⊢; omega
          have HON2 := Lib.hid hown2
          have HB2 := Lib.hid hB2
          clear hb2 hb3 hon hbn hc0 hc1 hc2 hcb hcj hfj hown2 hB2 HIS
          generalize outn.getD p 0 = np at *
          generalize outn.getD j 0 = nj at *
          go_wp2
          go_region
          go_wp2
          refine gen_world2 (fun w3 => ∃ o1 : List Int, o1.length = l.length ∧ usS l outn j = o1.set q (wrap64 (o1.getD q 0 + o1.getD j 0)) ∧ w3.ownsRow (w.heap.size + 1) 2 1 (.slice (some ⟨w.heap.size + 1, 0, none⟩) l.length l.length) l.length (o1.map (Value.int .i64)) ∧ w3.cell? ⟨wr.heap.size, 2, none⟩ = some (.int .i64 q) ∧ Below (w.heap.size + 1) (w.alloc (.cells #[.slice (some ⟨b, off, none⟩) l.length cap] 29)) w3) ?_ ?_
          · refine ⟨_, ?_, HST.out _ rfl, ownsRow_drew (own_set HON2.out p _), ?_, (HB2.out.setCell (p := ⟨w.heap.size + 1, p, none⟩) (Nat.le_refl _) _).drew⟩
            · simpa using hol2
            · simp only [World.cell?_drew]; rw [cell_st_ne _ (by show w.heap.size + 1 ≠ wr.heap.size; first | (simp at hgs2; omega) | omega)]; exact r2
          · clear r1 r2 f0 c0 c1 HON2 HB2 HST hol2
            rintro w3 ⟨o1, ol1, e1, hown3, r2, hB3⟩
            have c0 := own_get hown3 ol1 (show q < l.length by omega)
            have c1 := own_get hown3 ol1 (show j < l.length by omega)
            have f0 : w3.frozen? ⟨w.heap.size + 1, q, none⟩ = false := hown3.frozenAt q
            have HON3 := Lib.hid hown3
            have HB3 := Lib.hid hB3
            have E1 := Lib.hid e1
            clear e1 hown3 hB3
            generalize o1.getD q 0 = np2 at *
            generalize o1.getD j 0 = nj2 at *
            go_region
            go_wp2
            go_roundw
            case rel =>
              refine ⟨(HB3.out.setCell (p := ⟨w.heap.size + 1, q, none⟩) (Nat.le_refl _) _).drew, ?_, j, (j : Int) - 1, o1.set q (wrap64 (np2 + nj2)), by omega, by go_num, rfl, by simpa using ol1, ownsRow_drew (own_set HON3.out q _), ?_⟩
              · have h9 : wr.heap.size < w3.heap.size := World.block_lt_of_cell? _ _ r2; simp; omega
              · rw [if_neg (by omega), ← E1.out, ← HU2.out, HD.out]
            case measure => first | (simp [intOf]; done) | (simp [intOf]; omega)
        · have HE : Hid (usS l outn j = outn) := usS_let hz
          have HD : Hid (usD l (j + 1) outn = usD l j (usS l outn j)) := rfl
          have hd : decide ((ruA l j).1.size = 0) = false := by simpa using hz
          clear hr1 hr2 hz
          generalize (ruA l j).1 = x1 at *
          generalize (ruA l j).2.1 = x2 at *
          generalize (ruA l j).2.2 = x3 at *
          have HIS := Lib.hid (fun w => i_isPair x1 x2 x3 w)
          rw [hd] at HIS
          clear hd
          go_wp2_with fail
          refine (HIS.out _).mono ?_
          rintro e w2 ⟨rfl, hb2⟩
          have hb3 := below_box hb2
          have hown2 := owns_after hon hb3
          have hB2 := hbn.trans (hb3.mono (by have := hbn.size; simpa using this))
          have hbs : w2.heap.size > w.heap.size + 1 := by have := hb3.size; simp at this ⊢; omega
          clear hb2 hb3 hon hbn hc0 hc1 hc2 hcb hcj hfj HIS
          go_wp2
          go_roundw
          case rel =>
            refine ⟨hB2, hbs, j, (j : Int) - 1, outn, by omega, by go_num, rfl, hol2, hown2, ?_⟩
            rw [if_neg (by omega), ← HU2.out, HD.out, HE.out]
          case measure => first | (simp [intOf]; done) | (simp [intOf]; omega)
      · have hls : ((j : Int) == (l.length : Int) - 1) = false := by rw [beq_eq_false_iff_ne]; omega
        have hbn := HB.out
        have hon := hown
        have HU2 : Hid (usD l (j + 1) out = gU l) := by show _ = _; have := HUS.out; rw [if_neg hlast] at this; exact this
        obtain ⟨b, off, rfl, hbl, hc0, hc1, hc2⟩ := inRu_at (inRu_from HIN.out (by simp) hbn) hjl
        have hol2 : out.length = l.length := HOL.out
        have hgs2 : w.heap.size + 1 < wr.heap.size := by simpa using hgs
        clear hown HUS HOL HB hgs
        generalize out = outn at *
        have hcb : (wr).cell? ⟨w.heap.size, 0, none⟩ = some (.slice (some ⟨b, off, none⟩) l.length cap) := by rw [hbn.cell (p := ⟨w.heap.size, 0, none⟩) (by simp)]; exact HB0.out
        have hsz : (wr).heap.size = wr.heap.size := by simp
        by_cases hz : (ruA l j).1.size = 0
        · obtain ⟨q1, q2, q3, q4⟩ := hr1 hz
          obtain ⟨p, hp⟩ := Int.eq_ofNat_of_zero_le q1
          obtain ⟨q, hq⟩ := Int.eq_ofNat_of_zero_le q3
          have hpj : p < j := by omega
          have hqj : q < j := by omega
          have HST := Lib.hid (fun o1 h => @usS_pair l outn o1 j p q hz hp hq h)
          have HD : Hid (usD l (j + 1) outn = usD l j (usS l outn j)) := rfl
          have hd : decide ((ruA l j).1.size = 0) = true := by simpa using hz
          rw [hp] at hc1
          rw [hq] at hc2
          clear hr1 hr2 hz hp hq q1 q2 q3 q4
          generalize (ruA l j).1 = x1 at *
          have HIS := Lib.hid (fun w => i_isPair x1 p q w)
          rw [hd] at HIS
          clear hd
          go_wp2_with fail
          refine (HIS.out _).mono ?_
          rintro e w2 ⟨rfl, hb2⟩
          have hb3 := below_box hb2
          have r1 : w2.cell? ⟨wr.heap.size, 1, none⟩ = some (.int .i64 p) := by rw [hb2.cell (by simp)]; simp [go_sem]
          have r2 : w2.cell? ⟨wr.heap.size, 2, none⟩ = some (.int .i64 q) := by rw [hb2.cell (by simp)]; simp [go_sem]
          have hown2 := owns_after hon hb3
          have hB2 := hbn.trans (hb3.mono (by have := hbn.size; simpa using this))
          have c0 := own_get hown2 hol2 (show p < l.length by omega)
          have c1 := own_get hown2 hol2 (show j < l.length by omega)
          have f0 : w2.frozen? ⟨w.heap.size + 1, p, none⟩ = false := hown2.frozenAt p
          have hpi : (p : Int) < l.length := by omega
          have hqi : (q : Int) < l.length := by omega
          have hbs : w2.heap.size > w.heap.size + 1 := by have := hb3.size; simp at this ⊢; omega
          have HON2 := Lib.hid hown2
          have HB2 := Lib.hid hB2
          clear hb2 hb3 hon hbn hc0 hc1 hc2 hcb hcj hfj hown2 hB2 HIS
          generalize outn.getD p 0 = np at *
          generalize outn.getD j 0 = nj at *
          go_wp2
          go_region
          go_wp2
          refine gen_world2 (fun w3 => ∃ o1 : List Int, o1.length = l.length ∧ usS l outn j = o1.set q (wrap64 (o1.getD q 0 + o1.getD j 0)) ∧ w3.ownsRow (w.heap.size + 1) 2 1 (.slice (some ⟨w.heap.size + 1, 0, none⟩) l.length l.length) l.length (o1.map (Value.int .i64)) ∧ w3.cell? ⟨wr.heap.size, 2, none⟩ = some (.int .i64 q) ∧ Below (w.heap.size + 1) (w.alloc (.cells #[.slice (some ⟨b, off, none⟩) l.length cap] 29)) w3) ?_ ?_
          · refine ⟨_, ?_, HST.out _ rfl, ownsRow_drew (own_set HON2.out p _), ?_, (HB2.out.setCell (p := ⟨w.heap.size + 1, p, none⟩) (Nat.le_refl _) _).drew⟩
            · simpa using hol2
            · simp only [World.cell?_drew]; rw [cell_st_ne _ (by show w.heap.size + 1 ≠ wr.heap.size; first | (simp at hgs2; omega) | omega)]; exact r2
          · clear r1 r2 f0 c0 c1 HON2 HB2 HST hol2
            rintro w3 ⟨o1, ol1, e1, hown3, r2, hB3⟩
            have c0 := own_get hown3 ol1 (show q < l.length by omega)
            have c1 := own_get hown3 ol1 (show j < l.length by omega)
            have f0 : w3.frozen? ⟨w.heap.size + 1, q, none⟩ = false := hown3.frozenAt q
            have HON3 := Lib.hid hown3
            have HB3 := Lib.hid hB3
            have E1 := Lib.hid e1
            clear e1 hown3 hB3
            generalize o1.getD q 0 = np2 at *
            generalize o1.getD j 0 = nj2 at *
            go_region
            go_wp2
            go_roundw
            case rel =>
              refine ⟨(HB3.out.setCell (p := ⟨w.heap.size + 1, q, none⟩) (Nat.le_refl _) _).drew, ?_, j, (j : Int) - 1, o1.set q (wrap64 (np2 + nj2)), by omega, by go_num, rfl, by simpa using ol1, ownsRow_drew (own_set HON3.out q _), ?_⟩
              · have h9 : wr.heap.size < w3.heap.size := World.block_lt_of_cell? _ _ r2; simp; omega
              · rw [if_neg (by omega), ← E1.out, ← HU2.out, HD.out]
            case measure => first | (simp [intOf]; done) | (simp [intOf]; omega)
        · have HE : Hid (usS l outn j = outn) := usS_let hz
          have HD : Hid (usD l (j + 1) outn = usD l j (usS l outn j)) := rfl
          have hd : decide ((ruA l j).1.size = 0) = false := by simpa using hz
          clear hr1 hr2 hz
          generalize (ruA l j).1 = x1 at *
          generalize (ruA l j).2.1 = x2 at *
          generalize (ruA l j).2.2 = x3 at *
          have HIS := Lib.hid (fun w => i_isPair x1 x2 x3 w)
          rw [hd] at HIS
          clear hd
          go_wp2_with fail
          refine (HIS.out _).mono ?_
          rintro e w2 ⟨rfl, hb2⟩
          have hb3 := below_box hb2
          have hown2 := owns_after hon hb3
          have hB2 := hbn.trans (hb3.mono (by have := hbn.size; simpa using this))
          have hbs : w2.heap.size > w.heap.size + 1 := by have := hb3.size; simp at this ⊢; omega
          clear hb2 hb3 hon hbn hc0 hc1 hc2 hcb hcj hfj HIS
          go_wp2
          go_roundw
          case rel =>
            refine ⟨hB2, hbs, j, (j : Int) - 1, outn, by omega, by go_num, rfl, hol2, hown2, ?_⟩
            rw [if_neg (by omega), ← HU2.out, HD.out, HE.out]
          case measure => first | (simp [intOf]; done) | (simp [intOf]; omega)
    · have k0 : k = 0 := by omega
      subst k0
      obtain rfl : ix = -1 := by omega
      have hfin : out = gU l := by
        have := HUS.out
        rw [usD] at this
        by_cases h0 : 0 = l.length
        · have e : out = [] := List.eq_nil_of_length_eq_zero (by have := HOL.out; omega)
          rw [if_pos h0, e] at this
          rw [← this, e]; rfl
        · rw [if_neg h0] at this; exact this
      have hlg := HOL.out
      subst hfin
      clear hus hol hlt hix
      go_wp2
      go_ret
      refine ⟨_, rfl, ?_, HBX.out _ hb⟩
      rw [hlg]
      exact owns_weak hown (by omega)
theorem s_l02Uses (bq oq cap : Nat) (a : Option Addr) (l : List Ru) (w : World) (hok : gOk l = true) (hcell : w.cell? ⟨bq, oq, none⟩ = some (.slice a l.length cap)) (hin : InRu w (.slice a l.length cap) l) :
    Calls Try.prog 58 #[.pointer (some ⟨bq, oq, none⟩)] w fun e w' => ∃ v', e = .returned v' ∧ Own64 w w' v' (gU l) := by
  have HR := Lib.hid (fun k hk => @gOk_rule l hok k hk)
  have hl400 := (gOk_some hok).1
  have hbq := World.block_lt_of_cell? _ _ hcell
  have HIN := Lib.hid hin
  have HC := Lib.hid hcell
  clear hin hok
  by_cases hl0 : l.length = 0
  · have e : l = [] := List.eq_nil_of_length_eq_zero hl0
    subst e
    clear hl0 hl400
    simp only [List.length_nil] at hcell
    go_enter Try.func58, Try.ntmps58
    go_wp2_with (at_make; refine make64 _ rfl _ _ rfl w.heap.size (Nat.le_refl _) 0 rfl rfl (by omega) ?_; intro w1 ho1 hb1; have hcb := cell_later hb1 hcell)
    refine wp_loop_rounds 1 ?_
    rw [rounds_succ]
    go_wp2
    go_ret
    exact ⟨_, rfl, ho1, hb1⟩
  · have hl0' : (0 : Int) < l.length := by omega
    obtain ⟨m, hm⟩ : ∃ m, l.length = m + 1 := ⟨l.length - 1, by omega⟩
    have hmi : (l.length : Int) - 1 = (m : Int) := by omega
    have hml : m < l.length := by omega
    have hmlI : (m : Int) < l.length := by omega
    have HM := Lib.hid hm
    clear hm
    go_enter Try.func58, Try.ntmps58
    go_wp2_with (at_make; refine make64 _ rfl _ _ rfl w.heap.size (Nat.le_refl _) l.length rfl rfl (by omega) ?_; intro w1 ho1 hb1; have hcb := cell_later hb1 hcell; have hcm := own_get ho1 (by simp) hml; have hfm : w1.frozen? ⟨w.heap.size, m, none⟩ = false := ho1.frozenAt m; have hcb2 : (w1.setCell ⟨w.heap.size, m, none⟩ (.int .i64 1)).cell? ⟨bq, oq, none⟩ = some (.slice a l.length cap) := cell_later (hb1.setCell (p := ⟨w.heap.size, m, none⟩) (Nat.le_refl _) (.int .i64 1)) hcell)
    have HOS := Lib.hid (own_set ho1 m 1)
    have HBS := Lib.hid (hb1.setCell (p := ⟨w.heap.size, m, none⟩) (Nat.le_refl _) (.int .i64 1))
    clear ho1 hb1
    go_loopw [4] (fun i wr => Below w.heap.size w wr ∧ ∃ (k : Nat) (ix : Int) (out : List Int), k ≤ l.length ∧ i = .int .i64 ix ∧ ix = (k : Int) - 1 ∧ out.length = l.length ∧ wr.ownsRow w.heap.size 2 1 (.slice (some ⟨w.heap.size, 0, none⟩) l.length l.length) l.length (out.map (Value.int .i64)) ∧ usD l k out = gU l) (fun i _ => (intOf i + 1).toNat)
    case atStart =>
      refine ⟨HBS.out, l.length, _, (List.replicate l.length 0).set m 1, Nat.le_refl _, rfl, by omega, by simp, HOS.out, ?_⟩
      rw [gU, usZ, show l.length - 1 = m by have := HM.out; omega]
    case round =>
      clear hcb hcb2 hcm hfm
      obtain ⟨hb, k, ix, out, hk, rfl, hix, hol, hown, hus⟩ := hrel
      have hgs : w.heap.size < wr.heap.size := (hown.lt _ rfl).2
      have hcw := cell_later hb hcell
      by_cases hlt : 0 < k
      · obtain ⟨j, rfl⟩ : ∃ j, k = j + 1 := ⟨k - 1, by omega⟩
        obtain rfl : ix = (j : Int) := by omega
        have hjl : j < l.length := by omega
        have hin : ((j : Nat) : Int) < l.length := by omega
        have hge : (0 : Int) ≤ (j : Int) := by omega
        obtain ⟨hr1, hr2⟩ := HR.out j hjl
        obtain ⟨b, off, rfl, hbl, hc0, hc1, hc2⟩ := inRu_at (inRu_from HIN.out (by simp) hb) hjl
        have hbl2 : b < w.heap.size := by
          obtain ⟨b', off', e, h', -⟩ := inRu_at HIN.out hjl
          injection e with e; injection e with e; omega
        have HUS := Lib.hid hus
        clear hix hlt hus
        by_cases hz : (ruA l j).1.size = 0
        · obtain ⟨q1, q2, q3, q4⟩ := hr1 hz
          obtain ⟨p, hp⟩ := Int.eq_ofNat_of_zero_le q1
          obtain ⟨q, hq⟩ := Int.eq_ofNat_of_zero_le q3
          have hpj : p < j := by omega
          have hqj : q < j := by omega
          have HST := Lib.hid (fun o1 h => @usS_pair l out o1 j p q hz hp hq h)
          have HD : Hid (usD l (j + 1) out = usD l j (usS l out j)) := rfl
          rw [hp] at hc1
          rw [hq] at hc2
          have ex := size_zero hz
          rw [ex] at hc0
          clear hr1 hr2 hz hp hq q1 q2 q3 q4 ex
          have c0 := own_get hown hol (show p < l.length by omega)
          have c1 := own_get hown hol (show j < l.length by omega)
          have f0 : wr.frozen? ⟨w.heap.size, p, none⟩ = false := hown.frozenAt p
          have hpi : (p : Int) < l.length := by omega
          have hqi : (q : Int) < l.length := by omega
          have HON := Lib.hid hown
          have HB := Lib.hid hb
          clear hown hb
          generalize out.getD p 0 = np at *
          generalize out.getD j 0 = nj at *
          go_wp2
          go_region
          go_wp2
          refine gen_world2 (fun w3 => ∃ o1 : List Int, o1.length = l.length ∧ usS l out j = o1.set q (wrap64 (o1.getD q 0 + o1.getD j 0)) ∧ w3.ownsRow w.heap.size 2 1 (.slice (some ⟨w.heap.size, 0, none⟩) l.length l.length) l.length (o1.map (Value.int .i64)) ∧ w3.cell? ⟨b, off + j * 3 + 2, none⟩ = some (.int .i64 q) ∧ w3.cell? ⟨bq, oq, none⟩ = some (.slice (some ⟨b, off, none⟩) l.length cap) ∧ Below w.heap.size w w3) ?_ ?_
          · refine ⟨_, ?_, HST.out _ rfl, ownsRow_drew (own_set HON.out p _), ?_, ?_, (HB.out.setCell (p := ⟨w.heap.size, p, none⟩) (Nat.le_refl _) _).drew⟩
            · simpa using hol
            · simp only [World.cell?_drew]; rw [cell_st_ne _ (by show w.heap.size ≠ b; omega)]; exact hc2
            · simp only [World.cell?_drew]; rw [cell_st_ne _ (by show w.heap.size ≠ bq; first | (simp at hbq; omega) | omega)]; exact hcw
          · clear f0 c0 c1 HON HB HST hol hc0 hc1 hc2 hcw
            rintro w3 ⟨o1, ol1, e1, hown3, hc2, hcw, hB3⟩
            have c0 := own_get hown3 ol1 (show q < l.length by omega)
            have c1 := own_get hown3 ol1 (show j < l.length by omega)
            have f0 : w3.frozen? ⟨w.heap.size, q, none⟩ = false := hown3.frozenAt q
            have HON3 := Lib.hid hown3
            have HB3 := Lib.hid hB3
            have E1 := Lib.hid e1
            clear e1 hown3 hB3
            generalize o1.getD q 0 = np2 at *
            generalize o1.getD j 0 = nj2 at *
            go_region
            go_wp2
            go_roundw
            case rel =>
              refine ⟨(HB3.out.setCell (p := ⟨w.heap.size, q, none⟩) (Nat.le_refl _) _).drew, j, (j : Int) - 1, o1.set q (wrap64 (np2 + nj2)), by omega, by go_num, rfl, by simpa using ol1, ownsRow_drew (own_set HON3.out q _), ?_⟩
              rw [← E1.out, ← HUS.out, HD.out]
            case measure => first | (simp [intOf]; done) | (simp [intOf]; omega)
        · have HE : Hid (usS l out j = out) := usS_let hz
          have HD : Hid (usD l (j + 1) out = usD l j (usS l out j)) := rfl
          have hne := neq_empty hz
          have hne2 := not_empty hz
          clear hr1 hr2 hz
          generalize (ruA l j).1 = x1 at *
          have HON := Lib.hid hown
          have HB := Lib.hid hb
          clear hown hb
          go_wp2
          go_roundw
          case rel =>
            refine ⟨HB.out, j, (j : Int) - 1, out, by omega, by go_num, rfl, hol, HON.out, ?_⟩
            rw [← HUS.out, HD.out, HE.out]
          case measure => first | (simp [intOf]; done) | (simp [intOf]; omega)
      · have k0 : k = 0 := by omega
        subst k0
        obtain rfl : ix = -1 := by omega
        have hfin : out = gU l := hus
        subst hfin
        clear hus hlt hix
        go_wp2
        go_ret
        refine ⟨_, rfl, ?_, hb⟩
        rw [hol]
        exact hown
theorem gUs_bad {l : List Ru} (h : gOk l = false) : gUs l = [] := by simp [gUs, h]
theorem gUs_ok {l : List Ru} (h : gOk l = true) : gUs l = gU l := by simp [gUs, h]
theorem gUs_len {l : List Ru} (h : l.length ≤ 1048576) : (gUs l).length ≤ 1048576 := by
  unfold gUs
  cases hok : gOk l
  · simp
  · simp; rw [gU_len]; exact h
theorem s_UsesOf (v : Value) (l : List Ru) (w : World) (hn : l.length ≤ 1048576) (hsz : ∀ r ∈ l, r.1.size ≤ 1048576) (hin : InRu w v l) :
    Calls Try.prog 32 #[.agg #[v]] w fun e w' => ∃ v', e = .returned (.tuple #[v', .int .i64 (gC l)]) ∧ Own64 w w' v' (gUs l) := by
  obtain ⟨a, cap, rfl⟩ := inRu_sl hin
  have b0 := box_cell w (.slice a l.length cap) 29
  have i0 := inRu_box (o := .cells #[.slice a l.length cap] 29) hin
  have HS := Lib.hid (s_l02Ok w.heap.size 0 cap a l _ hn hsz b0 i0)
  cases hok : gOk l
  · have HF := Lib.hid (g_bad hok)
    have HU := Lib.hid (gUs_bad hok)
    rw [hok] at HS
    clear hsz hin b0 i0 hok
    go_enter Try.func32, Try.ntmps32
    go_wp2_with fail
    refine HS.out.mono ?_
    rintro e w2 ⟨rfl, hb2⟩
    have hb3 := below_box hb2
    have s3 := hb3.size
    clear hb2
    go_wp2
    go_ret2
    refine ⟨_, by rw [HF.out.2.1]; rfl, ?_, hb3.alloc s3 _⟩
    rw [HU.out]
    exact World.ownsRow_made w2 #[] 0 s3 (by decide) (by simp)
  · have HF := Lib.hid (g_ok hok)
    have HU := Lib.hid (gUs_ok hok)
    have HL := Lib.hid (fun (wz : Nat × World) h i => s_l02Uses wz.1 0 cap a l wz.2 hok h i)
    rw [hok] at HS
    clear hsz hin hok
    go_enter Try.func32, Try.ntmps32
    go_wp2_with fail
    refine HS.out.mono ?_
    rintro e w2 ⟨rfl, hb2⟩
    have b2 := cell_later hb2 b0
    have i2 := inRu_below i0 hb2
    go_wp2_with fail
    refine (HL.out (w.heap.size, w2) b2 i2).mono ?_
    rintro e w3 ⟨v', rfl, ho, hb3⟩
    have hb4 := below_box (hb2.trans (hb3.mono hb2.size))
    have ho' := owns_weak ho (below_box hb2).size
    clear hb2 hb3 b0 i0 b2 i2 ho
    go_wp2
    go_ret2
    refine ⟨_, by rw [HF.out.2.1]; rfl, ?_, hb4⟩
    rw [HU.out]
    exact ho'
theorem i_UsesOf (v : Value) (l : List Ru) (w : World) (hn : l.length ≤ 1048576) (hsz : ∀ r ∈ l, r.1.size ≤ 1048576) (hin : InRu w v l) :
    Calls Try.prog 33 #[.agg #[v]] w fun e w' => ∃ v', e = .returned (.tuple #[v', .int .i64 (gC l)]) ∧ Own64 w w' v' (gUs l) := by
  have b0 := box_cell w v 29
  have i0 := inRu_box (o := .cells #[v] 29) hin
  have HS := Lib.hid (i_ValidGrammar v l _ hn hsz i0)
  cases hok : gOk l
  · have HF := Lib.hid (g_bad hok)
    have HU := Lib.hid (gUs_bad hok)
    rw [hok] at HS
    clear hsz hin b0 i0 hok
    go_enter Try.func33, Try.ntmps33
    go_wp2_with fail
    refine HS.out.mono ?_
    rintro e w2 ⟨rfl, hb2⟩
    have hb3 := below_box hb2
    clear hb2
    go_wp2
    go_ret2
    exact ⟨_, by rw [HF.out.2.1]; rfl, by rw [HU.out]; exact own64_nil hb3⟩
  · have HF := Lib.hid (g_ok hok)
    have HU := Lib.hid (gUs_ok hok)
    have HL := Lib.hid (fun w i => i_uses v l w hok i)
    rw [hok] at HS
    clear hsz hin hok
    go_enter Try.func33, Try.ntmps33
    go_wp2_with fail
    refine HS.out.mono ?_
    rintro e w2 ⟨rfl, hb2⟩
    have b2 := cell_later hb2 b0
    have i2 := inRu_below i0 hb2
    go_wp2_with fail
    refine (HL.out w2 i2).mono ?_
    rintro e w3 ⟨v', rfl, ho, hb3⟩
    have hb4 := below_box (hb2.trans (hb3.mono hb2.size))
    have ho' := owns_weak ho (below_box hb2).size
    clear hb2 hb3 b0 i0 b2 i2 ho
    go_wp2
    go_ret2
    refine ⟨_, by rw [HF.out.2.1]; rfl, ?_, hb4⟩
    rw [HU.out]
    exact ho'
theorem walk_FnExactUsesOf (v : Value) (l : List Ru) (w : World) (h0 : GrIn w v l) (h0b : l.length ≤ 9223372036854775807) (h0c : ∀ r ∈ l, r.1.size ≤ 9223372036854775807) :
    Calls Try.prog 8 #[v] w fun e w' => e = .returned (.bool true) ∧ Below w.heap.size w w' := by
  obtain ⟨u, rfl, hin⟩ := h0
  have HS := Lib.hid (fun (u : Value) w => s_UsesOf u l w)
  have HI := Lib.hid (fun (u : Value) w => i_UsesOf u l w)
  have HLE := Lib.hid (@gUs_len l)
  have b0 := box_cell w u 24
  have i0 := inRu_box (o := .cells #[u] 24) hin
  have HBX : Hid (∀ w', Below (w.alloc (.cells #[u] 24)).heap.size (w.alloc (.cells #[u] 24)) w' → Below w.heap.size w w') := fun w' h => below_box h
  generalize gUs l = R at *
  clear hin
  go_enter Try.func8, Try.ntmps8
  go_wp2_with fail
  refine (l_szGrammar u l 1048576 _ (by omega) i0 h0b h0c).mono ?_
  rintro e w1 ⟨hb1, rfl | ⟨n0, rfl, hn0, hln, hsz⟩⟩
  · clear h0b h0c HS HI b0 i0 HLE
    have hbb := HBX.out _ hb1
    clear hb1
    go_wp2
    go_ret
    exact ⟨rfl, hbb⟩
  · have HSZ := Lib.hid hsz
    have hRl := HLE.out hln
    have i1 := inRu_below i0 hb1
    have b1 := cell_later hb1 b0
    clear h0b h0c hsz HLE
    go_wp2_with fail
    refine (l_toGrammar u l w1 hln i1).mono ?_
    rintro e w2 ⟨g2, c2, rfl, ho2, hb2⟩
    have B2 := hb1.trans (hb2.mono hb1.size)
    have i2 := inRu_below i0 B2
    have b2 := cell_later B2 b0
    clear b1 i1
    go_wp2_with fail
    refine (HS.out _ w2 hln HSZ.out (inRu_own rfl ho2)).mono ?_
    rintro e w3 ⟨v1, rfl, o1, hb3⟩
    have B3 := B2.trans (hb3.mono B2.size)
    have i3 := inRu_below i0 B3
    have b3 := cell_later B3 b0
    clear b2 i2 ho2
    go_wp2_with fail
    refine (l_toGrammar u l w3 hln i3).mono ?_
    rintro e w4 ⟨g4, c4, rfl, ho4, hb4⟩
    have B4 := B3.trans (hb4.mono B3.size)
    have hg4 : w3.heap.size ≤ g4 ∧ g4 < w4.heap.size := ho4.lt _ rfl
    have hv1 : ∀ k, v1.ownBlock = some k → k < w3.heap.size := fun k hk => (o1.lt k hk).2
    have B4' := B4.alloc B4.size (.cells #[.slice (some ⟨g4, 0, none⟩) l.length c4] 29)
    have b4 := cell_later B4' b0
    have x4 := box_cell w4 (.slice (some ⟨g4, 0, none⟩) l.length c4) 29
    have a4 := (Below.refl _ w4).alloc (Nat.le_refl _) (.cells #[.slice (some ⟨g4, 0, none⟩) l.length c4] 29)
    have ho4' := owns_after ho4 a4
    have o4 := owns_after (owns_after o1 hb4) a4
    clear b3 i3 ho4 o1
    go_wp2_with fail
    refine (HI.out _ _ hln HSZ.out (inRu_own rfl ho4')).mono ?_
    rintro e w5 ⟨v2, rfl, p5, hb5⟩
    have B5 := B4'.trans (hb5.mono B4'.size)
    have b5 := cell_later hb5 b4
    have x5 := cell_later hb5 x4
    have o5 := owns_after o4 hb5
    have ho5 := owns_after ho4' hb5
    clear b4 x4 ho4' o4
    go_wp2_with fail
    refine (l_eqInt64S _ _ R R _ _ _ p5 o5 (by omega) (by omega)).mono ?_
    rintro e w6 ⟨rfl, q6, rfl⟩
    have B6 := below_drewN B5 q6
    have i6 := inRu_below i0 B6
    have b6 : (w5.drewN q6).cell? ⟨w.heap.size, 0, none⟩ = some u := by simpa using b5
    have x6 : (w5.drewN q6).cell? ⟨w4.heap.size, 0, none⟩ = some (.slice (some ⟨g4, 0, none⟩) l.length c4) := by simpa using x5
    have ix6 := inRu_own rfl (ownsRow_drewN ho5 q6)
    have HO5 := Lib.hid ho5
    have HP5 := Lib.hid p5
    have HQ5 := Lib.hid o5
    have s3 := B3.size
    have hv2 : ∀ k, v2.ownBlock = some k → w4.heap.size < k := fun k hk => by have := (p5.lt k hk).1; simp at this; omega
    have HV1 := Lib.hid hv1
    have HV2 := Lib.hid hv2
    clear hb1 hb2 hb3 hb4 hb5 B2 B3 B4 B4' a4 ho5 o5 p5 b5 x5 hv1 hv2
    have hz : w4.heap.size < (w5.drewN q6).heap.size := World.block_lt_of_cell? _ _ x6
    go_wp2
    go_region_held3 (fun w' => Below (w5.drewN q6).heap.size (w5.drewN q6) w' ∧ w'.cell? ⟨w.heap.size, 0, none⟩ = some u ∧ w'.cell? ⟨w4.heap.size, 0, none⟩ = some (.slice (some ⟨g4, 0, none⟩) l.length c4) ∧ InRu w' u l ∧ InRu w' (.slice (some ⟨g4, 0, none⟩) l.length c4) l) (first | (go_split_ands; refine ⟨?_, ?_, ?_, ?_, ?_⟩ <;> first | assumption | exact Below.drew (Below.refl _ _) | exact Below.drew (by assumption) | exact inRu_below (by assumption) (Below.drew (Below.refl _ _)) | exact cell_later hbA (by assumption) | exact inRu_below (by assumption) hbA | exact Below.trans ‹Below (w5.drewN q6).heap.size (w5.drewN q6) _› (hbA.mono (Below.size ‹Below (w5.drewN q6).heap.size (w5.drewN q6) _›)) | simp [*])) (first | (go_at_call 17; refine (l_toGrammar u l _ hln (by assumption)).mono ?_; rintro e wA ⟨g6, c6, rfl, ho6, hbA⟩) | (go_at_call 19; refine (l_eqGrammar _ _ l _ (by first | assumption | exact inRu_below (inRu_below ix6 (Below.drew (Below.refl _ _))) hbA) (by first | exact inRu_own rfl ho6 | exact inRu_below (inRu_own rfl ho6) (Below.drew (Below.refl _ _))) hln).mono ?_; rintro e wA ⟨rfl, hbA⟩))
    rename_i hS
    have hA : Below (w5.drewN q6).heap.size (w5.drewN q6) wA := hS.1
    clear hS hbA
    have BA := B6.trans (hA.mono B6.size)
    have xA := cell_later hA x6
    have oA := owns_after (ownsRow_drewN HQ5.out q6) hA
    have pA := owns_after (ownsRow_drewN HP5.out q6) hA
    have gA := owns_after (ownsRow_drewN HO5.out q6) hA
    clear x6 b6 ix6 i6 hA hz
    go_wp2_with fail
    refine (l_markGrammar _ _ _ _ _ _ hln gA).mono ?_
    rintro e w8 ⟨rfl, g8⟩
    have B8 := BA.trans (below_of_grown g8 (B := (w.alloc (.cells #[u] 24)).heap.size) BA.size (fun k hk => by injection hk with hk; omega))
    have o8 := oA.kept g8 (by
      cases h : v1.ownBlock with
      | none => exact .inl rfl
      | some k => right; intro e; injection e with e; have := HV1.out k h; omega)
    have p8 := pA.kept g8 (by
      cases h : v2.ownBlock with
      | none => exact .inl rfl
      | some k => right; intro e; injection e with e; have := HV2.out k h; omega)
    clear oA pA gA g8 xA BA B6
    have b8 := cell_later B8 b0
    have i8 := inRu_below i0 B8
    go_wp2_with fail
    refine (l_eqInt64S _ _ R R _ _ _ p8 o8 (by omega) (by omega)).mono ?_
    rintro e w9 ⟨rfl, q9, rfl⟩
    have B9 := below_drewN B8 q9
    have p9 := ownsRow_drewN p8 q9
    have o9 := ownsRow_drewN o8 q9
    clear p8 o8 b8
    go_wp2_with fail
    refine (l_mark1 _ R.length _ _ _ (by omega) p9).mono ?_
    rintro e w10 ⟨rfl, p10, g10⟩
    have B10 := B9.trans (below_of_grown g10 (B := (w.alloc (.cells #[u] 24)).heap.size) B9.size (fun k hk => by have := HV2.out k hk; omega))
    have o10 := o9.kept g10 (by
      cases h : v1.ownBlock with
      | none => exact .inl rfl
      | some k => right; intro e; have := HV1.out k h; have := HV2.out k e.symm; omega)
    have b10 := cell_later B10 b0
    have i10 := inRu_below i0 B10
    clear o9 p9 g10 B9 B8 i8
    go_wp2_with fail
    refine (l_held1 _ R.length _ _ (by omega) p10).mono ?_
    rintro e w11 ⟨rfl, rfl⟩
    go_wp2_with fail
    refine (l_toGrammar u l _ hln i10).mono ?_
    rintro e w12 ⟨g12, c12, rfl, ho12, hb12⟩
    have B12 := B10.trans (hb12.mono B10.size)
    have o12 := owns_after o10 hb12
    have p12 := owns_after p10 hb12
    clear b10 i10 o10 p10
    go_wp2_with fail
    refine (HI.out _ _ hln HSZ.out (inRu_own rfl ho12)).mono ?_
    rintro e w13 ⟨v3, rfl, r13, hb13⟩
    have B13 := B12.trans (hb13.mono B12.size)
    have o13 := owns_after o12 hb13
    have p13 := owns_after p12 hb13
    clear o12 p12 ho12 hb12 hb13 B12 B10
    go_wp2_with fail
    refine (l_eqInt64S _ _ R R _ _ _ r13 o13 (by omega) (by omega)).mono ?_
    rintro e w14 ⟨rfl, q14, rfl⟩
    have B14 := below_drewN B13 q14
    have p14 := ownsRow_drewN p13 q14
    clear o13 p13 r13 B13
    go_wp2_with fail
    refine (l_held1 _ R.length _ _ (by omega) p14).mono ?_
    rintro e w15 ⟨rfl, rfl⟩
    have BF := HBX.out _ B14
    clear B14 p14
    go_wp2
    go_ret
    exact ⟨rfl, BF⟩
end Go.Proofs.Ytmcfjjhflnhehaa

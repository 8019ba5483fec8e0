/- What a part of a word's rules calls: frames, the cover of a part; the walk of 'pieces' for whatever function is called. -/
import Derived.Test.YtoejelieogjjpaaY2
import Derived.StillTactics
import Derived.RegionCalls
import Derived.FnLit
namespace Go.Proofs.Ytoejelieogjjpaa
open Go.ChangeShapes Go.WideShapes Go.RowKit
set_option linter.unusedVariables false
set_option linter.unusedSimpArgs false
set_option maxHeartbeats 2000000
set_option maxRecDepth 100000
/-- w' is as w, but for blocks that may be written, and new ones -/
structure Fr (mod : World → Nat → Prop) (w w' : World) : Prop where
  os : w'.os = w.os
  tape : w'.tape = w.tape
  output : w'.output = w.output
  size : w.heap.size ≤ w'.heap.size
  block : ∀ k, k < w.heap.size → ¬ mod w k → w'.heap[k]? = w.heap[k]?
  new : ∀ k, k < w.heap.size → mod w' k → mod w k
theorem Fr.refl (mod : World → Nat → Prop) (w : World) : Fr mod w w := ⟨rfl, rfl, rfl, Nat.le_refl _, fun _ _ _ => rfl, fun _ _ h => h⟩
theorem Fr.trans {mod : World → Nat → Prop} {a b c : World} (h : Fr mod a b) (k : Fr mod b c) : Fr mod a c :=
  ⟨k.os.trans h.os, k.tape.trans h.tape, k.output.trans h.output, Nat.le_trans h.size k.size, fun i hi hm => (k.block i (by have := h.size; omega) (fun e => hm (h.new i hi e))).trans (h.block i hi hm), fun i hi hm => h.new i hi (k.new i (by have := h.size; omega) hm)⟩
theorem Fr.cell {mod : World → Nat → Prop} {w w' : World} (h : Fr mod w w') {b o : Nat} {v : Value} (hc : w.cell? ⟨b, o, none⟩ = some v) (hm : ¬ mod w b) : w'.cell? ⟨b, o, none⟩ = some v := by
  have hb := World.block_lt_of_cell? _ _ hc
  have := h.block b hb hm
  rw [← hc]
  unfold World.cell?
  rw [this]
theorem Fr.below {mod : World → Nat → Prop} {w w' : World} {B : Nat} (h : Fr mod w w') (hB : B ≤ w.heap.size) (hm : ∀ k, k < B → ¬ mod w k) : Below B w w' :=
  ⟨h.os, h.tape, h.output, h.size, fun k hk => h.block k (by omega) (hm k hk)⟩
/-- the rules that a part calls, from left to right -/
theorem Fr.alloc {mod : World → Nat → Prop} {w : World} {o : Obj} (h : ∀ k, mod (w.alloc o) k → mod w k) : Fr mod w (w.alloc o) := ⟨rfl, rfl, rfl, by simp, fun k hk _ => Below.heap_alloc _ _ _ hk, fun k _ hm => h k hm⟩
theorem Fr.drew {mod : World → Nat → Prop} {w : World} (h : ∀ k, mod w.drew k → mod w k) : Fr mod w w.drew := ⟨rfl, rfl, rfl, Nat.le_refl _, fun k hk _ => rfl, fun k _ hm => h k hm⟩
theorem Fr.not {mod : World → Nat → Prop} {w w' : World} (h : Fr mod w w') {b : Nat} (hb : b < w.heap.size) (hm : ¬ mod w b) : ¬ mod w' b := fun e => hm (h.new b hb e)
def cov (l : List Ru) (ls : List Int) (i j : Int) : Nat → Nat → Int → List Nat
  | 0, _, _ => []
  | f + 1, k, at_ =>
    if at_ + ls.getD k 0 ≤ i ∨ j ≤ at_ then [] else if i ≤ at_ ∧ at_ + ls.getD k 0 ≤ j then [k]
    else cov l ls i j f (ruA l k).2.1.toNat at_ ++ cov l ls i j f (ruA l k).2.2.toNat (at_ + ls.getD (ruA l k).2.1.toNat 0)
theorem lnT_take {l : List Ru} : ∀ {d k : Nat} {L : List Int}, lnT l (k + d) = some L → lnT l k = some (L.take k)
  | 0, k, L, h => by
    have := (lnT_bd h).1
    rw [Nat.add_zero] at h this
    rw [h, List.take_of_length_le (by omega)]
  | d + 1, k, L, h => by
    obtain ⟨L1, h1⟩ := lnT_pre (show k + d ≤ k + (d + 1) by omega) (by rw [h]; simp)
    have e1 := lnT_take h1
    have hl := (lnT_bd h1).1
    cases hp : ruP L1 (ruA l (k + d)) with
    | none => rw [show k + (d + 1) = k + d + 1 by omega, lnT_bad h1 hp] at h; cases h
    | some n =>
      rw [show k + (d + 1) = k + d + 1 by omega, lnT_step h1 hp] at h
      injection h with h
      rw [e1, ← h, List.take_append_of_le_length (by omega)]
/-- a pair is as long as its two rules; a letter is one -/
theorem gOk_len {l : List Ru} (h : gOk l = true) {k : Nat} (hk : k < l.length) : ((ruA l k).1.size = 0 → (gLn l).getD k 0 = (gLn l).getD (ruA l k).2.1.toNat 0 + (gLn l).getD (ruA l k).2.2.toNat 0) ∧ ((ruA l k).1.size ≠ 0 → (gLn l).getD k 0 = 1) := by
  obtain ⟨_, h2, hl, _⟩ := gOk_some h
  have h3 : lnT l k = some ((gLn l).take k) := lnT_take (d := l.length - k) (by rw [show k + (l.length - k) = l.length by omega]; exact h2)
  have h4 : lnT l (k + 1) = some ((gLn l).take (k + 1)) := lnT_take (d := l.length - (k + 1)) (by rw [show k + 1 + (l.length - (k + 1)) = l.length by omega]; exact h2)
  have hg : ∀ p, p < k → ((gLn l).take k).getD p 0 = (gLn l).getD p 0 := fun p hp => by
    simp [List.getD, List.getElem?_take, hp]
  have key : ∀ n, ruP ((gLn l).take k) (ruA l k) = some n → (gLn l).getD k 0 = n := by
    intro n hn
    rw [lnT_step h3 hn] at h4
    injection h4 with h4
    have e : ((gLn l).take (k + 1)).getD k 0 = (gLn l).getD k 0 := by simp [List.getD, List.getElem?_take]
    rw [← e, ← h4, List.getD, List.getElem?_append_right (by simp; omega)]
    simp [show k - min k (gLn l).length = 0 by omega]
  constructor
  · intro hz
    obtain ⟨q1, q2, q3, q4⟩ := (gOk_rule h hk).1 hz
    have hlen : ((gLn l).take k).length = k := by simp; omega
    by_cases hs : ((gLn l).take k).getD (ruA l k).2.1.toNat 0 + ((gLn l).take k).getD (ruA l k).2.2.toNat 0 ≤ 1000000000000000
    · have := key _ (ruP_pair hz (by rw [hlen]; exact ⟨q1, q2, q3, q4⟩) hs)
      rw [this, hg _ (by omega), hg _ (by omega)]
    · have := lnT_bad h3 (ruP_long hz (by rw [hlen]; exact ⟨q1, q2, q3, q4⟩) hs)
      rw [this] at h4; cases h4
  · intro hz
    obtain ⟨q1, q2, q3, q4⟩ := (gOk_rule h hk).2 hz
    exact key _ (ruP_let q1 q2 q3 q4)
theorem i_take (mod : World → Nat → Prop) (Q : List Nat → World → Prop) (ok : List Nat → Prop) (F : Nat) (C : Array Value) (eF : ∀ args w, (callFunc F args).run Try.prog w = .ok (.enter F args) w)
    (l : List Ru) (i j : Int) (w0 : World) (bl bi bj bw bg bt gl cl cap : Nat) (a : Option Addr) (hok : gOk l = true)
    (hl : w0.cell? ⟨bl, 0, none⟩ = some (.slice (some ⟨gl, 0, none⟩) l.length cl)) (ml : ¬ mod w0 bl)
    (hi : w0.cell? ⟨bi, 0, none⟩ = some (.int .i64 i)) (mi : ¬ mod w0 bi)
    (hj : w0.cell? ⟨bj, 0, none⟩ = some (.int .i64 j)) (mj : ¬ mod w0 bj)
    (hw : w0.cell? ⟨bw, 0, none⟩ = some (.func (.func F) #[] C)) (mw : ¬ mod w0 bw)
    (hg : w0.cell? ⟨bg, 0, none⟩ = some (.slice a l.length cap)) (mg : ¬ mod w0 bg)
    (ht : w0.cell? ⟨bt, 0, none⟩ = some (.func (.func 69) #[] #[.pointer (some ⟨bl, 0, none⟩), .pointer (some ⟨bi, 0, none⟩), .pointer (some ⟨bj, 0, none⟩), .pointer (some ⟨bw, 0, none⟩), .pointer (some ⟨bg, 0, none⟩), .pointer (some ⟨bt, 0, none⟩)])) (mt : ¬ mod w0 bt)
    (hgl : ∀ k, k < l.length → w0.cell? ⟨gl, k, none⟩ = some (.int .i64 ((gLn l).getD k 0))) (mgl : ¬ mod w0 gl)
    (hru : ∀ k, k < l.length → ∃ b off, a = some ⟨b, off, none⟩ ∧ ¬ mod w0 b ∧ w0.cell? ⟨b, off + k * 3, none⟩ = some (.string (ruA l k).1) ∧ w0.cell? ⟨b, off + k * 3 + 1, none⟩ = some (.int .i64 (ruA l k).2.1) ∧ w0.cell? ⟨b, off + k * 3 + 2, none⟩ = some (.int .i64 (ruA l k).2.2))
    (HW : ∀ vis k w, k < l.length → Q vis w → Fr mod w0 w → ok (vis ++ [k]) → Calls Try.prog F (#[.int .i64 k] ++ C) w fun e w' => e = .returned (.tuple #[]) ∧ Q (vis ++ [k]) w' ∧ Fr mod w w')
    (HA : ∀ vis w cs T, T ≠ 5 → Q vis w → Q vis (w.alloc (.cells cs T)) ∧ ∀ k, mod (w.alloc (.cells cs T)) k → mod w k)
    (HD : ∀ vis w, Q vis w → Q vis w.drew ∧ ∀ k, mod w.drew k → mod w k)
    (HM : ∀ vis w k, Q vis w → mod w k → k < w.heap.size)
    (hokp : ∀ a b, ok (a ++ b) → ok a) :
    ∀ (f k : Nat) (at_ : Int) (vis : List Nat) (w : World), k < f → k < l.length → 0 ≤ at_ → at_ + (gLn l).getD k 0 ≤ 1000000000000000 → Q vis w → Fr mod w0 w → ok (vis ++ cov l (gLn l) i j f k at_) →
    Calls Try.prog 69 #[.int .i64 k, .int .i64 at_, .pointer (some ⟨bl, 0, none⟩), .pointer (some ⟨bi, 0, none⟩), .pointer (some ⟨bj, 0, none⟩), .pointer (some ⟨bw, 0, none⟩), .pointer (some ⟨bg, 0, none⟩), .pointer (some ⟨bt, 0, none⟩)] w
      fun e w' => e = .returned (.tuple #[]) ∧ Q (vis ++ cov l (gLn l) i j f k at_) w' ∧ Fr mod w w'
  | 0, k, at_, vis, w, h, _, _, _, _, _, _ => by omega
  | f + 1, k, at_, vis, w, hkf, hkl, hat, hle, hQ, hF, hvis => by
    have IH := Lib.hid (i_take mod Q ok F C eF l i j w0 bl bi bj bw bg bt gl cl cap a hok hl ml hi mi hj mj hw mw hg mg ht mt hgl mgl hru HW HA HD HM hokp f)
    obtain ⟨b, off, rfl, mb, d0, d1, d2⟩ := hru k hkl
    have cl1 := hF.cell hl ml
    have ci1 := hF.cell hi mi
    have cj1 := hF.cell hj mj
    have cw1 := hF.cell hw mw
    have cg1 := hF.cell hg mg
    have ct1 := hF.cell ht mt
    have cgl1 := hF.cell (hgl k hkl) mgl
    have e0 := hF.cell d0 mb
    have e1 := hF.cell d1 mb
    have e2 := hF.cell d2 mb
    have hbd := (gOk_some hok).2.2.2 _ (getD_mem (show k < (gLn l).length by rw [(gOk_some hok).2.2.1]; exact hkl))
    have hkI : ((k : Nat) : Int) < l.length := by omega
    have HLEN := Lib.hid (gOk_len hok hkl)
    have HRUL := Lib.hid (gOk_rule hok hkl)
    have HQ := Lib.hid hQ
    have HF := Lib.hid hF
    have HVIS := Lib.hid hvis
    have HWH := Lib.hid (HW vis k)
    have HAH := Lib.hid HA
    have HDH := Lib.hid HD
    have HMH := Lib.hid HM
    have HC : Hid (cov l (gLn l) i j (f + 1) k at_ = if at_ + (gLn l).getD k 0 ≤ i ∨ j ≤ at_ then [] else if i ≤ at_ ∧ at_ + (gLn l).getD k 0 ≤ j then [k] else cov l (gLn l) i j f (ruA l k).2.1.toNat at_ ++ cov l (gLn l) i j f (ruA l k).2.2.toNat (at_ + (gLn l).getD (ruA l k).2.1.toNat 0)) := rfl
    have HGL := Lib.hid hgl
    clear hQ hF hvis d0 d1 d2 hgl HW HA HD HM
    generalize cov l (gLn l) i j (f + 1) k at_ = cv at *
    generalize hlk : (gLn l).getD k 0 = lk at *
    obtain ⟨hlk1, hlk2⟩ := hbd
    by_cases h1 : at_ + lk ≤ i
    · have e : cv = [] := by have := HC.out; rw [if_pos (.inl h1)] at this; exact this
      subst e
      clear HC
      go_enter Try.func69, Try.ntmps69
      go_wp2
      refine bodyPost_ret (v := .tuple #[]) (by simp [results, Try.results69, go_sem]) rfl ?_
      try rw [List.append_nil]
      exact ⟨rfl, HQ.out, Fr.refl _ _⟩
    · by_cases h2 : j ≤ at_
      · have e : cv = [] := by have := HC.out; rw [if_pos (.inr h2)] at this; exact this
        subst e
        clear HC
        go_enter Try.func69, Try.ntmps69
        go_wp2
        refine bodyPost_ret (v := .tuple #[]) (by simp [results, Try.results69, go_sem]) rfl ?_
        try rw [List.append_nil]
        exact ⟨rfl, HQ.out, Fr.refl _ _⟩
      · by_cases h3 : i ≤ at_ ∧ at_ + lk ≤ j
        · have e : cv = [k] := by have := HC.out; rw [if_neg (by omega), if_pos h3] at this; exact this
          subst e
          obtain ⟨h3a, h3b⟩ := h3
          have HW2 := Lib.hid (HWH.out w hkl HQ.out HF.out HVIS.out)
          clear HC
          go_enter Try.func69, Try.ntmps69
          go_wp2_with fail
          refine HW2.out.mono ?_
          rintro e w2 ⟨rfl, hq2, hf2⟩
          go_wp2
          refine bodyPost_ret (v := .tuple #[]) (by simp [results, Try.results69, go_sem]) rfl ?_
          exact ⟨rfl, hq2, hf2⟩
        · have hz : (ruA l k).1.size = 0 := by
            apply Classical.byContradiction
            intro hz
            have := HLEN.out.2 hz
            omega
          obtain ⟨q1, q2, q3, q4⟩ := HRUL.out.1 hz
          have hsum := HLEN.out.1 hz
          have hc := HC.out
          rw [if_neg (by omega), if_neg h3] at hc
          obtain ⟨p, hp⟩ := Int.eq_ofNat_of_zero_le q1
          obtain ⟨q, hq⟩ := Int.eq_ofNat_of_zero_le q3
          have hpk : p < k := by omega
          have hqk : q < k := by omega
          rw [hp, hq] at hc hsum
          simp only [Int.toNat_natCast] at hc hsum
          rw [hp] at e1
          rw [hq] at e2
          have hbp := (gOk_some hok).2.2.2 _ (getD_mem (show p < (gLn l).length by rw [(gOk_some hok).2.2.1]; omega))
          have hbq := (gOk_some hok).2.2.2 _ (getD_mem (show q < (gLn l).length by rw [(gOk_some hok).2.2.1]; omega))
          have hpl := HGL.out p (by omega)
          have IH1 := Lib.hid (IH.out p at_ vis)
          have IH2 := Lib.hid (IH.out q (at_ + (gLn l).getD p 0) (vis ++ cov l (gLn l) i j f p at_))
          subst hc
          have HOK1 : Hid (ok (vis ++ cov l (gLn l) i j f p at_)) := hokp _ (cov l (gLn l) i j f q (at_ + (gLn l).getD p 0)) (by rw [List.append_assoc]; exact HVIS.out)
          have HOK2 : Hid (ok (vis ++ cov l (gLn l) i j f p at_ ++ cov l (gLn l) i j f q (at_ + (gLn l).getD p 0))) := by show ok _; rw [List.append_assoc]; exact HVIS.out
          rw [← List.append_assoc]
          have HSUM := Lib.hid hsum
          clear hz HC hp hq q1 q2 q3 q4 IH HVIS HLEN HRUL
          generalize cov l (gLn l) i j f p at_ = c1 at *
          generalize cov l (gLn l) i j f q (at_ + (gLn l).getD p 0) = c2 at *
          generalize (gLn l).getD p 0 = lp at *
          generalize (gLn l).getD q 0 = lq at *
          generalize (ruA l k).1 = x1 at *
          obtain ⟨hbp1, hbp2⟩ := hbp
          obtain ⟨hbq1, hbq2⟩ := hbq
          have HSUM' : Hid (lk = lp + lq) := hsum
          clear hsum
          have hpI : (p : Int) < l.length := by omega
          have h5 : i ≤ at_ → ¬ at_ + lk ≤ j := fun a b => h3 ⟨a, b⟩
          clear h3 hlk
          by_cases h4 : i ≤ at_
          · have h6 := h5 h4
            clear h5
            have hA := HAH.out vis w #[.string x1, .int .i64 p, .int .i64 q] 59 (by decide) HQ.out
            have fA := Fr.alloc hA.2
            have fA0 := HF.out.trans fA
            have ct2 := fA0.cell ht mt
            have r1 : (w.alloc (.cells #[.string x1, .int .i64 p, .int .i64 q] 59)).cell? ⟨w.heap.size, 1, none⟩ = some (.int .i64 p) := by simp [go_sem]
            have r2 : (w.alloc (.cells #[.string x1, .int .i64 p, .int .i64 q] 59)).cell? ⟨w.heap.size, 2, none⟩ = some (.int .i64 q) := by simp [go_sem]
            have mr : ¬ mod (w.alloc (.cells #[.string x1, .int .i64 p, .int .i64 q] 59)) w.heap.size := fun e => by have := HMH.out _ _ _ HQ.out (hA.2 _ e); omega
            have HQA := Lib.hid hA.1
            have HFA := Lib.hid fA
            have HFA0 := Lib.hid fA0
            have HMR := Lib.hid mr
            clear hA fA fA0 mr
            go_enter Try.func69, Try.ntmps69
            go_wp2_with fail
            refine (IH1.out _ (by omega) (by omega) hat (by have := HSUM'.out; omega) HQA.out HFA0.out HOK1.out).mono ?_
            rintro e w2 ⟨rfl, hq2, hf2⟩
            have hF2 := HFA0.out.trans hf2
            have k1 := hf2.cell r1 HMR.out
            have k2 := hf2.cell r2 HMR.out
            have kt := hF2.cell ht mt
            have kl := hF2.cell hl ml
            have kp := hF2.cell hpl mgl
            have hd2 := HDH.out _ _ hq2
            have HF3 := Lib.hid (hF2.trans (Fr.drew hd2.2))
            have HF4 := Lib.hid ((HFA.out.trans hf2).trans (Fr.drew hd2.2))
            have HQ3 := Lib.hid hd2.1
            have HN : Hid (¬ mod w2.drew bt ∧ ¬ mod w2.drew w.heap.size ∧ ¬ mod w2.drew bl ∧ ¬ mod w2.drew gl) :=
              ⟨HF3.out.not (World.block_lt_of_cell? _ _ ht) mt, (hf2.trans (Fr.drew hd2.2)).not (World.block_lt_of_cell? _ _ r1) HMR.out, HF3.out.not (World.block_lt_of_cell? _ _ hl) ml, HF3.out.not (World.block_lt_of_cell? _ _ (HGL.out p (by omega))) mgl⟩
            clear hq2 hf2 hF2 hd2 r1 r2 ct2 cl1 ci1 cj1 cw1 cg1 ct1 cgl1 e0 e1 e2 HMR HFA HFA0 HQA IH1
            have hwr : IntKind.i64.wrap (at_ + lp) = at_ + lp := IntWalk.i64_in _ (by omega)
            go_wp2
            go_region_held3 (fun w' => w'.cell? ⟨bt, 0, none⟩ = some (.func (.func 69) #[] #[.pointer (some ⟨bl, 0, none⟩), .pointer (some ⟨bi, 0, none⟩), .pointer (some ⟨bj, 0, none⟩), .pointer (some ⟨bw, 0, none⟩), .pointer (some ⟨bg, 0, none⟩), .pointer (some ⟨bt, 0, none⟩)]) ∧ w'.cell? ⟨w.heap.size, 1, none⟩ = some (.int .i64 p) ∧ w'.cell? ⟨w.heap.size, 2, none⟩ = some (.int .i64 q) ∧ w'.cell? ⟨bl, 0, none⟩ = some (.slice (some ⟨gl, 0, none⟩) l.length cl) ∧ w'.cell? ⟨gl, p, none⟩ = some (.int .i64 lp)) (first | go_keep | exact ⟨hf4.cell (by simpa using kt) HN.out.1, hf4.cell (by simpa using k1) HN.out.2.1, hf4.cell (by simpa using k2) HN.out.2.1, hf4.cell (by simpa using kl) HN.out.2.2.1, hf4.cell (by simpa using kp) HN.out.2.2.2⟩) ((go_at_call 69; refine (IH2.out _ (by omega) (by omega) (by omega) (by have := HSUM'.out; omega) HQ3.out HF3.out HOK2.out).mono ?_; rintro e w4 ⟨rfl, hq4, hf4⟩))
            go_end0
            exact ⟨rfl, hq4, HF4.out.trans hf4⟩
          · clear h5
            have hA := HAH.out vis w #[.string x1, .int .i64 p, .int .i64 q] 59 (by decide) HQ.out
            have fA := Fr.alloc hA.2
            have fA0 := HF.out.trans fA
            have ct2 := fA0.cell ht mt
            have r1 : (w.alloc (.cells #[.string x1, .int .i64 p, .int .i64 q] 59)).cell? ⟨w.heap.size, 1, none⟩ = some (.int .i64 p) := by simp [go_sem]
            have r2 : (w.alloc (.cells #[.string x1, .int .i64 p, .int .i64 q] 59)).cell? ⟨w.heap.size, 2, none⟩ = some (.int .i64 q) := by simp [go_sem]
            have mr : ¬ mod (w.alloc (.cells #[.string x1, .int .i64 p, .int .i64 q] 59)) w.heap.size := fun e => by have := HMH.out _ _ _ HQ.out (hA.2 _ e); omega
            have HQA := Lib.hid hA.1
            have HFA := Lib.hid fA
            have HFA0 := Lib.hid fA0
            have HMR := Lib.hid mr
            clear hA fA fA0 mr
            go_enter Try.func69, Try.ntmps69
            go_wp2_with fail
            refine (IH1.out _ (by omega) (by omega) hat (by have := HSUM'.out; omega) HQA.out HFA0.out HOK1.out).mono ?_
            rintro e w2 ⟨rfl, hq2, hf2⟩
            have hF2 := HFA0.out.trans hf2
            have k1 := hf2.cell r1 HMR.out
            have k2 := hf2.cell r2 HMR.out
            have kt := hF2.cell ht mt
            have kl := hF2.cell hl ml
            have kp := hF2.cell hpl mgl
            have hd2 := HDH.out _ _ hq2
            have HF3 := Lib.hid (hF2.trans (Fr.drew hd2.2))
            have HF4 := Lib.hid ((HFA.out.trans hf2).trans (Fr.drew hd2.2))
            have HQ3 := Lib.hid hd2.1
            have HN : Hid (¬ mod w2.drew bt ∧ ¬ mod w2.drew w.heap.size ∧ ¬ mod w2.drew bl ∧ ¬ mod w2.drew gl) :=
              ⟨HF3.out.not (World.block_lt_of_cell? _ _ ht) mt, (hf2.trans (Fr.drew hd2.2)).not (World.block_lt_of_cell? _ _ r1) HMR.out, HF3.out.not (World.block_lt_of_cell? _ _ hl) ml, HF3.out.not (World.block_lt_of_cell? _ _ (HGL.out p (by omega))) mgl⟩
            clear hq2 hf2 hF2 hd2 r1 r2 ct2 cl1 ci1 cj1 cw1 cg1 ct1 cgl1 e0 e1 e2 HMR HFA HFA0 HQA IH1
            have hwr : IntKind.i64.wrap (at_ + lp) = at_ + lp := IntWalk.i64_in _ (by omega)
            go_wp2
            go_region_held3 (fun w' => w'.cell? ⟨bt, 0, none⟩ = some (.func (.func 69) #[] #[.pointer (some ⟨bl, 0, none⟩), .pointer (some ⟨bi, 0, none⟩), .pointer (some ⟨bj, 0, none⟩), .pointer (some ⟨bw, 0, none⟩), .pointer (some ⟨bg, 0, none⟩), .pointer (some ⟨bt, 0, none⟩)]) ∧ w'.cell? ⟨w.heap.size, 1, none⟩ = some (.int .i64 p) ∧ w'.cell? ⟨w.heap.size, 2, none⟩ = some (.int .i64 q) ∧ w'.cell? ⟨bl, 0, none⟩ = some (.slice (some ⟨gl, 0, none⟩) l.length cl) ∧ w'.cell? ⟨gl, p, none⟩ = some (.int .i64 lp)) (first | go_keep | exact ⟨hf4.cell (by simpa using kt) HN.out.1, hf4.cell (by simpa using k1) HN.out.2.1, hf4.cell (by simpa using k2) HN.out.2.1, hf4.cell (by simpa using kl) HN.out.2.2.1, hf4.cell (by simpa using kp) HN.out.2.2.2⟩) ((go_at_call 69; refine (IH2.out _ (by omega) (by omega) (by omega) (by have := HSUM'.out; omega) HQ3.out HF3.out HOK2.out).mono ?_; rintro e w4 ⟨rfl, hq4, hf4⟩))
            go_end0
            exact ⟨rfl, hq4, HF4.out.trans hf4⟩
/-- the rules that a part of the whole word calls -/
def pcv (l : List Ru) (i j : Int) : List Nat := if 0 < l.length ∧ i < j then cov l (gLn l) i j l.length (l.length - 1) 0 else []
theorem i_pieces (mod : World → Nat → Prop) (Q : List Nat → World → Prop) (ok : List Nat → Prop) (F : Nat) (C : Array Value) (eF : ∀ args w, (callFunc F args).run Try.prog w = .ok (.enter F args) w)
    (l : List Ru) (i j : Int) (w : World) (gl cl cap : Nat) (a lv : Option Addr) (hok : gOk l = true) (hlv : l.length ≠ 0 → lv = some ⟨gl, 0, none⟩)
    (hgl : ∀ k, k < l.length → w.cell? ⟨gl, k, none⟩ = some (.int .i64 ((gLn l).getD k 0))) (mgl : l.length ≠ 0 → ¬ mod w gl)
    (hru : ∀ k, k < l.length → ∃ b off, a = some ⟨b, off, none⟩ ∧ ¬ mod w b ∧ w.cell? ⟨b, off + k * 3, none⟩ = some (.string (ruA l k).1) ∧ w.cell? ⟨b, off + k * 3 + 1, none⟩ = some (.int .i64 (ruA l k).2.1) ∧ w.cell? ⟨b, off + k * 3 + 2, none⟩ = some (.int .i64 (ruA l k).2.2))
    (HW : ∀ vis k w', k < l.length → Q vis w' → Fr mod w w' → ok (vis ++ [k]) → Calls Try.prog F (#[.int .i64 k] ++ C) w' fun e w'' => e = .returned (.tuple #[]) ∧ Q (vis ++ [k]) w'' ∧ Fr mod w' w'')
    (HA : ∀ vis w cs T, T ≠ 5 → Q vis w → Q vis (w.alloc (.cells cs T)) ∧ ∀ k, mod (w.alloc (.cells cs T)) k → mod w k)
    (HD : ∀ vis w, Q vis w → Q vis w.drew ∧ ∀ k, mod w.drew k → mod w k)
    (HM : ∀ vis w k, Q vis w → mod w k → k < w.heap.size)
    (hokp : ∀ a b, ok (a ++ b) → ok a) (hQ : Q [] w) (hokA : ok (pcv l i j)) :
    Calls Try.prog 59 #[.agg #[.slice a l.length cap], .slice lv l.length cl, .int .i64 i, .int .i64 j, .func (.func F) #[] C] w
      fun e w' => e = .returned (.tuple #[]) ∧ Q (pcv l i j) w' ∧ Fr mod w w' := by
  have hmf : ∀ (fn : Fn) (first cap : Array Value) (w : World), (Instr.makeFunc fn first cap).run Try.prog w = .ok (.func fn first cap) w := fun _ _ _ _ => rfl
  have hsf := fun (a : Addr) (c : Array Value) (n : Nat) (w : World) => run_store Try.prog w a (.func (.func n) #[] c) .plain rfl
  have hl400 := (gOk_some hok).1
  have A1 := HA [] w #[.slice a l.length cap] 26 (by decide) hQ
  have A2 := HA [] _ #[.slice lv l.length cl] 67 (by decide) A1.1
  have A3 := HA [] _ #[.int .i64 i] 2 (by decide) A2.1
  have A4 := HA [] _ #[.int .i64 j] 2 (by decide) A3.1
  have A5 := HA [] _ #[.func (.func F) #[] C] 93 (by decide) A4.1
  have A6 := HA [] _ #[.func (.func 69) #[] #[.pointer (some ⟨w.heap.size + 1, 0, none⟩), .pointer (some ⟨w.heap.size + 1 + 1, 0, none⟩), .pointer (some ⟨w.heap.size + 1 + 1 + 1, 0, none⟩), .pointer (some ⟨w.heap.size + 1 + 1 + 1 + 1, 0, none⟩), .pointer (some ⟨w.heap.size, 0, none⟩), .pointer (some ⟨w.heap.size + 1 + 1 + 1 + 1 + 1, 0, none⟩)]] 106 (by decide) A5.1
  have HF6 := Lib.hid (((((((Fr.refl mod w).trans (Fr.alloc A1.2)).trans (Fr.alloc A2.2)).trans (Fr.alloc A3.2)).trans (Fr.alloc A4.2)).trans (Fr.alloc A5.2)).trans (Fr.alloc A6.2))
  have HM6 : Hid (∀ k, mod _ k → mod w k) := fun k h => A1.2 k (A2.2 k (A3.2 k (A4.2 k (A5.2 k (A6.2 k h)))))
  have HQ6 := Lib.hid A6.1
  have HWH := Lib.hid HW
  have HRU := Lib.hid hru
  have HGL := Lib.hid hgl
  have HLV := Lib.hid hlv
  clear A1 A2 A3 A4 A5 A6 HW hru hgl hlv
  by_cases hc : 0 < l.length ∧ i < j
  · obtain ⟨hn, hij⟩ := hc
    have e : pcv l i j = cov l (gLn l) i j l.length (l.length - 1) 0 := by rw [pcv, if_pos ⟨hn, hij⟩]
    obtain rfl := HLV.out (by omega)
    have mgl' := mgl (by omega)
    have hnI : (0 : Int) < l.length := by omega
    obtain ⟨m, hm⟩ : ∃ m, l.length = m + 1 := ⟨l.length - 1, by omega⟩
    have hmi : (l.length : Int) - 1 = (m : Int) := by omega
    have hml : m < l.length := by omega
    have e2 : cov l (gLn l) i j l.length m 0 = pcv l i j := by rw [e, show l.length - 1 = m by omega]
    have hbm := (gOk_some hok).2.2.2 _ (getD_mem (show m < (gLn l).length by rw [(gOk_some hok).2.2.1]; exact hml))
    have HE2 := Lib.hid e2
    have HBM := Lib.hid hbm
    clear hm e e2 hbm
    go_enter Try.func59, Try.ntmps59
    go_wp2_with fail
    refine (i_take mod Q ok F C eF l i j _ (w.heap.size + 1) (w.heap.size + 1 + 1) (w.heap.size + 1 + 1 + 1) (w.heap.size + 1 + 1 + 1 + 1) w.heap.size (w.heap.size + 1 + 1 + 1 + 1 + 1) gl cl cap a hok
      (by simp [go_sem]) (fun h => by have := HM [] w _ hQ (HM6.out _ h); omega)
      (by simp [go_sem]) (fun h => by have := HM [] w _ hQ (HM6.out _ h); omega)
      (by simp [go_sem]) (fun h => by have := HM [] w _ hQ (HM6.out _ h); omega)
      (by simp [go_sem]) (fun h => by have := HM [] w _ hQ (HM6.out _ h); omega)
      (by simp [go_sem]) (fun h => by have := HM [] w _ hQ (HM6.out _ h); omega)
      (by simp [go_sem]) (fun h => by have := HM [] w _ hQ (HM6.out _ h); omega)
      (fun k hk => HF6.out.cell (HGL.out k hk) mgl') (fun h => mgl' (HM6.out _ h))
      (fun k hk => by obtain ⟨b, off, e, mb, d0, d1, d2⟩ := HRU.out k hk; exact ⟨b, off, e, fun h => mb (HM6.out _ h), HF6.out.cell d0 mb, HF6.out.cell d1 mb, HF6.out.cell d2 mb⟩)
      (fun vis k w' hk hq hf ho => HWH.out vis k w' hk hq (HF6.out.trans hf) ho) HA HD HM hokp
      l.length m 0 [] _ hml hml (Int.le_refl _) (by have := HBM.out; omega) HQ6.out (Fr.refl _ _) (by rw [HE2.out, List.nil_append]; exact hokA)).mono ?_
    rintro e w7 ⟨rfl, Q7, F7⟩
    rw [HE2.out, List.nil_append] at Q7
    have HF7 := Lib.hid (HF6.out.trans F7)
    clear F7
    go_wp2
    go_end0
    exact ⟨rfl, Q7, HF7.out⟩
  · have e : pcv l i j = [] := by rw [pcv, if_neg hc]
    rw [e]
    clear e
    by_cases hn : 0 < l.length
    · have hij : ¬ i < j := fun h => hc ⟨hn, h⟩
      have hnI : (0 : Int) < l.length := by omega
      clear hc
      go_enter Try.func59, Try.ntmps59
      go_wp2
      go_end0
      exact ⟨rfl, HQ6.out, HF6.out⟩
    · have hnI : ¬ (0 : Int) < l.length := by omega
      clear hc
      go_enter Try.func59, Try.ntmps59
      go_wp2
      go_end0
      exact ⟨rfl, HQ6.out, HF6.out⟩
/-- the word of a rule -/
def exF (l : List Ru) : Nat → Nat → List UInt8
  | 0, _ => []
  | f + 1, k => if (ruA l k).1.size = 0 then exF l f (ruA l k).2.1.toNat ++ exF l f (ruA l k).2.2.toNat else (ruA l k).1.data.toList
theorem exF_pair {l : List Ru} {f k : Nat} (h : (ruA l k).1.size = 0) : exF l (f + 1) k = exF l f (ruA l k).2.1.toNat ++ exF l f (ruA l k).2.2.toNat := by rw [exF, if_pos h]
theorem exF_let {l : List Ru} {f k : Nat} (h : (ruA l k).1.size ≠ 0) : exF l (f + 1) k = (ruA l k).1.data.toList := by rw [exF, if_neg h]
theorem exF_same {l : List Ru} (hok : gOk l = true) : ∀ (f f' k : Nat), k < f → k < f' → k < l.length → exF l f k = exF l f' k
  | 0, _, k, h, _, _ => by omega
  | f + 1, 0, k, _, h, _ => by omega
  | f + 1, f' + 1, k, h, h', hk => by
    by_cases hz : (ruA l k).1.size = 0
    · obtain ⟨q1, q2, q3, q4⟩ := (gOk_rule hok hk).1 hz
      rw [exF_pair hz, exF_pair hz, exF_same hok f f' _ (by omega) (by omega) (by omega), exF_same hok f f' _ (by omega) (by omega) (by omega)]
    · rw [exF_let hz, exF_let hz]
theorem exF_len {l : List Ru} (hok : gOk l = true) : ∀ (f k : Nat), k < f → k < l.length → ((exF l f k).length : Int) = (gLn l).getD k 0
  | 0, k, h, _ => by omega
  | f + 1, k, h, hk => by
    by_cases hz : (ruA l k).1.size = 0
    · obtain ⟨q1, q2, q3, q4⟩ := (gOk_rule hok hk).1 hz
      have a := exF_len hok f (ruA l k).2.1.toNat (by omega) (by omega)
      have b := exF_len hok f (ruA l k).2.2.toNat (by omega) (by omega)
      rw [exF_pair hz, (gOk_len hok hk).1 hz, List.length_append]
      omega
    · rw [exF_let hz, (gOk_len hok hk).2 hz]
      have := ((gOk_rule hok hk).2 hz).1
      simp [this]
/-- what a part spells -/
def ptW (l : List Ru) (i j : Int) : List UInt8 := (pcv l i j).flatMap (exF l l.length)
/-- the word of a grammar -/
def wd (l : List Ru) : List UInt8 := exF l l.length (l.length - 1)
theorem cut_append (A B : List UInt8) (m d : Nat) : ((A ++ B).take m).drop d = (A.take m).drop d ++ (B.take (m - A.length)).drop (d - A.length) := by
  rw [List.take_append, List.drop_append]
  by_cases h : A.length ≤ m
  · rw [List.length_take, Nat.min_eq_right h]
  · rw [show m - A.length = 0 by omega]; simp
theorem cov_law {l : List Ru} (hok : gOk l = true) (i j : Int) : ∀ (f k : Nat) (at_ : Int), k < f → k < l.length → 0 ≤ at_ → (cov l (gLn l) i j f k at_).flatMap (exF l l.length) = ((exF l f k).take (j - at_).toNat).drop (i - at_).toNat
  | 0, k, at_, h, _, _ => by omega
  | f + 1, k, at_, h, hk, hat => by
    have hlen := exF_len hok (f + 1) k h hk
    rw [cov]
    by_cases h1 : at_ + (gLn l).getD k 0 ≤ i ∨ j ≤ at_
    · rw [if_pos h1]
      symm
      show _ = []
      rw [List.drop_eq_nil_iff, List.length_take]
      omega
    · rw [if_neg h1]
      by_cases h2 : i ≤ at_ ∧ at_ + (gLn l).getD k 0 ≤ j
      · rw [if_pos h2, List.take_of_length_le (by omega), show (i - at_).toNat = 0 by omega]
        simp only [List.flatMap_cons, List.flatMap_nil, List.append_nil, List.drop_zero]
        exact exF_same hok _ _ _ hk h hk
      · rw [if_neg h2]
        have hz : (ruA l k).1.size = 0 := by
          apply Classical.byContradiction
          intro hz
          have := (gOk_len hok hk).2 hz
          omega
        obtain ⟨q1, q2, q3, q4⟩ := (gOk_rule hok hk).1 hz
        have ha := exF_len hok f (ruA l k).2.1.toNat (by omega) (by omega)
        have hbd := (gOk_some hok).2.2.2 _ (getD_mem (show (ruA l k).2.1.toNat < (gLn l).length by rw [(gOk_some hok).2.2.1]; omega))
        rw [List.flatMap_append, cov_law hok i j f _ at_ (by omega) (by omega) hat, cov_law hok i j f _ _ (by omega) (by omega) (by omega), exF_pair hz, cut_append]
        have e1 : (j - (at_ + (gLn l).getD (ruA l k).2.1.toNat 0)).toNat = (j - at_).toNat - (exF l f (ruA l k).2.1.toNat).length := by omega
        have e2 : (i - (at_ + (gLn l).getD (ruA l k).2.1.toNat 0)).toNat = (i - at_).toNat - (exF l f (ruA l k).2.1.toNat).length := by omega
        rw [e1, e2]
theorem ptW_law {l : List Ru} (hok : gOk l = true) {i j : Int} (hi : 0 ≤ i) : ptW l i j = ((wd l).take j.toNat).drop i.toNat := by
  rw [ptW, pcv]
  by_cases h : 0 < l.length ∧ i < j
  · rw [if_pos h, cov_law hok i j l.length (l.length - 1) 0 (by omega) (by omega) (by omega), wd, Int.sub_zero, Int.sub_zero]
  · rw [if_neg h]
    symm
    show _ = []
    by_cases hl : 0 < l.length
    · rw [List.drop_eq_nil_iff, List.length_take]; omega
    · have : l = [] := List.eq_nil_of_length_eq_zero (by omega)
      subst this
      simp [wd, exF]
theorem wd_len {l : List Ru} (hok : gOk l = true) : ((wd l).length : Int) = lastI (gLn l) := by
  by_cases hl : 0 < l.length
  · rw [wd, exF_len hok _ _ (by omega) (by omega), lastI_at (by rw [(gOk_some hok).2.2.1]; omega), (gOk_some hok).2.2.1]
  · have : l = [] := List.eq_nil_of_length_eq_zero (by omega)
    subst this
    rfl
end Go.Proofs.Ytoejelieogjjpaa

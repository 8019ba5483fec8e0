/- What a rule spells; the walk of 'unpack'. -/
import Derived.Test.YtmcfjjhflnhehaaGF
namespace Go.Proofs.Ytmcfjjhflnhehaa
open Go.ChangeShapes Go.WideShapes Go.RowKit
set_option linter.unusedVariables false
set_option linter.unusedSimpArgs false
set_option maxHeartbeats 2000000
set_option maxRecDepth 100000
/-- the word of a rule -/
def exF (l : List Ru) : Nat → Nat → List UInt8
  | 0, _ => []
  | f + 1, k => if (ruA l k).1.size = 0 then exF l f (ruA l k).2.1.toNat ++ exF l f (ruA l k).2.2.toNat else (ruA l k).1.data.toList
theorem exF_pair {l : List Ru} {f k : Nat} (h : (ruA l k).1.size = 0) : exF l (f + 1) k = exF l f (ruA l k).2.1.toNat ++ exF l f (ruA l k).2.2.toNat := by rw [exF, if_pos h]
theorem exF_let {l : List Ru} {f k : Nat} (h : (ruA l k).1.size ≠ 0) : exF l (f + 1) k = (ruA l k).1.data.toList := by rw [exF, if_neg h]
theorem exF_same {l : List Ru} (hok : gOk l = true) : ∀ (f f' k : Nat), k < f → k < f' → k < l.length → exF l f k = exF l f' k
  | 0, _, k, h, _, _ => by omega
  | f + 1, 0, k, _, h, _ => by omega
  | f + 1, f' + 1, k, h, h', hk => by
    by_cases hz : (ruA l k).1.size = 0
    · obtain ⟨q1, q2, q3, q4⟩ := (gOk_rule hok hk).1 hz
      rw [exF_pair hz, exF_pair hz, exF_same hok f f' _ (by omega) (by omega) (by omega), exF_same hok f f' _ (by omega) (by omega) (by omega)]
    · rw [exF_let hz, exF_let hz]
theorem exF_len {l : List Ru} (hok : gOk l = true) : ∀ (f k : Nat), k < f → k < l.length → ((exF l f k).length : Int) = (gLn l).getD k 0
  | 0, k, h, _ => by omega
  | f + 1, k, h, hk => by
    by_cases hz : (ruA l k).1.size = 0
    · obtain ⟨q1, q2, q3, q4⟩ := (gOk_rule hok hk).1 hz
      have a := exF_len hok f (ruA l k).2.1.toNat (by omega) (by omega)
      have b := exF_len hok f (ruA l k).2.2.toNat (by omega) (by omega)
      rw [exF_pair hz, (gOk_len hok hk).1 hz, List.length_append]
      omega
    · rw [exF_let hz, (gOk_len hok hk).2 hz]
      have := ((gOk_rule hok hk).2 hz).1
      simp [this]
theorem byteCells_append (a b : List UInt8) : Lib.byteCells (a ++ b) = Lib.byteCells a ++ Lib.byteCells b := by simp [Lib.byteCells]
theorem byteCells_str (s : ByteArray) : Lib.byteCells s.data.toList = Lib.strCells s := rfl
theorem isB_fr {B b : Nat} {bs : List Value} {w w' : World} (h : Lib.IsBuilder 86 5 B b bs w) (hb : Below w.heap.size w w') : Lib.IsBuilder 86 5 B b bs w' := by
  have key : ∀ p, Lib.BuilderAt 86 5 B b p bs w → Lib.BuilderAt 86 5 B b p bs w' := by
    intro p h
    have hlt := h.lt
    obtain ⟨hB, v, hv, hown, hne⟩ := h
    exact ⟨hB, v, (hb.block b hlt).trans hv, owns_after hown hb, hne⟩
  rcases h with h | h
  · exact .inl (key _ h)
  · exact .inr (key _ h)
theorem fr_below {B b : Nat} {w w' : World} (hb : Below w.heap.size w w') : Fr (bMod B b) w w' :=
  ⟨hb.os, hb.tape, hb.output, hb.size, fun k hk _ => hb.block k hk, fun k hk hm => by
    rcases hm with rfl | ⟨hBk, cs, fr, hm⟩
    · exact .inl rfl
    · rw [hb.block k hk] at hm; exact .inr ⟨hBk, cs, fr, hm⟩⟩
theorem isB_lt {B b : Nat} {bs : List Value} {w : World} (h : Lib.IsBuilder 86 5 B b bs w) : b < w.heap.size := by
  rcases h with h | h
  · exact h.lt
  · exact h.lt
theorem bMod_rule {B b : Nat} {w : World} {cs : Array Value} {T : TypeId} {k : Nat} (hT : T ≠ 5) (hb : b < w.heap.size) (h : bMod B b (w.alloc (.cells cs T)) k) : bMod B b w k := by
  rcases h with h | ⟨hBk, c, fr, h⟩
  · exact .inl h
  · by_cases hk : k < w.heap.size
    · rw [Below.heap_alloc _ _ _ hk] at h; exact .inr ⟨hBk, c, fr, h⟩
    · have hk2 : k = w.heap.size := by
        have : k < (w.alloc (.cells cs T)).heap.size := by
          rcases Nat.lt_or_ge k (w.alloc (.cells cs T)).heap.size with h' | h'
          · exact h'
          · simp [Array.getElem?_eq_none h'] at h
        simp at this; omega
      subst hk2
      rw [heap_alloc_new] at h
      injection h with h; injection h with h1 h2; exact absurd h2 hT
theorem bMod_lt {B b : Nat} {bs : List Value} {w : World} {k : Nat} (hb : Lib.IsBuilder 86 5 B b bs w) (h : bMod B b w k) : k < w.heap.size := by
  rcases h with rfl | ⟨hBk, c, fr, h⟩
  · exact isB_lt hb
  · rcases Nat.lt_or_ge k w.heap.size with h' | h'
    · exact h'
    · simp [Array.getElem?_eq_none h'] at h
theorem i_spell (l : List Ru) (w0 : World) (B b gb sb cap : Nat) (a : Option Addr) (hok : gOk l = true)
    (hg : w0.cell? ⟨gb, 0, none⟩ = some (.slice a l.length cap)) (mg : ¬ bMod B b w0 gb)
    (hs : w0.cell? ⟨sb, 0, none⟩ = some (.func (.func 74) #[] #[.pointer (some ⟨gb, 0, none⟩), .pointer (some ⟨sb, 0, none⟩), .pointer (some ⟨b, 0, none⟩)])) (ms : ¬ bMod B b w0 sb)
    (hru : ∀ k, k < l.length → ∃ b' off, a = some ⟨b', off, none⟩ ∧ ¬ bMod B b w0 b' ∧ w0.cell? ⟨b', off + k * 3, none⟩ = some (.string (ruA l k).1) ∧ w0.cell? ⟨b', off + k * 3 + 1, none⟩ = some (.int .i64 (ruA l k).2.1) ∧ w0.cell? ⟨b', off + k * 3 + 2, none⟩ = some (.int .i64 (ruA l k).2.2)) :
    ∀ (f k : Nat) (bs : List Value) (w : World), k < f → k < l.length → Lib.IsBuilder 86 5 B b bs w → B ≤ w.heap.size → Fr (bMod B b) w0 w → bs.length + (exF l f k).length ≤ 140737488355328 →
    Calls Try.prog 74 #[.int .i64 k, .pointer (some ⟨gb, 0, none⟩), .pointer (some ⟨sb, 0, none⟩), .pointer (some ⟨b, 0, none⟩)] w
      fun e w' => e = .returned (.tuple #[]) ∧ Lib.IsBuilder 86 5 B b (bs ++ Lib.byteCells (exF l f k)) w' ∧ Fr (bMod B b) w w'
  | 0, k, bs, w, h, _, _, _, _, _ => by omega
  | f + 1, k, bs, w, hkf, hkl, hQ, hB, hF, hle => by
    have IH := Lib.hid (i_spell l w0 B b gb sb cap a hok hg mg hs ms hru f)
    obtain ⟨b', off, rfl, mb, d0, d1, d2⟩ := hru k hkl
    have cg1 := hF.cell hg mg
    have e0 := hF.cell d0 mb
    have e1 := hF.cell d1 mb
    have e2 := hF.cell d2 mb
    have hkI : ((k : Nat) : Int) < l.length := by omega
    have hsz := isB_lt hQ
    have fA : Fr (bMod B b) w (w.alloc (.cells #[.string (ruA l k).1, .int .i64 (ruA l k).2.1, .int .i64 (ruA l k).2.2] 52)) := Fr.alloc (fun j hj => bMod_rule (by decide) hsz hj)
    have mr : ¬ bMod B b (w.alloc (.cells #[.string (ruA l k).1, .int .i64 (ruA l k).2.1, .int .i64 (ruA l k).2.2] 52)) w.heap.size := fun e => by have := bMod_lt hQ (bMod_rule (by decide) hsz e); omega
    have qA := isB_fr hQ ((Below.refl _ w).alloc (Nat.le_refl _) (.cells #[.string (ruA l k).1, .int .i64 (ruA l k).2.1, .int .i64 (ruA l k).2.2] 52))
    have HQA := Lib.hid qA
    have HFA := Lib.hid fA
    have HF := Lib.hid hF
    have HMR := Lib.hid mr
    clear qA fA hF mr d0 d1 d2 hQ hsz
    by_cases hz : (ruA l k).1.size = 0
    · obtain ⟨q1, q2, q3, q4⟩ := (gOk_rule hok hkl).1 hz
      have HE := Lib.hid (exF_pair (f := f) hz)
      have hd : decide ((ruA l k).1.size = 0) = true := by simpa using hz
      obtain ⟨p, hp⟩ := Int.eq_ofNat_of_zero_le q1
      obtain ⟨q, hq⟩ := Int.eq_ofNat_of_zero_le q3
      have hpk : p < k := by omega
      have hqk : q < k := by omega
      rw [hp, hq] at HE
      rw [hp, hq] at HQA HFA HMR
      rw [hp] at e1
      rw [hq] at e2
      simp only [Int.toNat_natCast] at HE
      have hlen : bs.length + ((exF l f p).length + (exF l f q).length) ≤ 140737488355328 := by rw [HE.out, List.length_append] at hle; exact hle
      have IH1 := Lib.hid (IH.out p bs)
      have IH2 := Lib.hid (IH.out q (bs ++ Lib.byteCells (exF l f p)))
      rw [HE.out, byteCells_append, ← List.append_assoc]
      have HLB : Hid ((bs ++ Lib.byteCells (exF l f p)).length = bs.length + (exF l f p).length) := by show _ = _; simp [Lib.byteCells_length]
      clear hz hp hq q1 q2 q3 q4 IH HE hle
      generalize (ruA l k).1 = x1 at *
      have HIS := Lib.hid (fun w => i_isPair x1 p q w)
      rw [hd] at HIS
      clear hd
      go_enter Try.func74, Try.ntmps74
      go_wp2_with fail
      refine (HIS.out _).mono ?_
      rintro e w2 ⟨rfl, hb2⟩
      have r1 : w2.cell? ⟨w.heap.size, 1, none⟩ = some (.int .i64 p) := by rw [hb2.cell (by simp)]; simp [go_sem]
      have r2 : w2.cell? ⟨w.heap.size, 2, none⟩ = some (.int .i64 q) := by rw [hb2.cell (by simp)]; simp [go_sem]
      have F2 : Fr (bMod B b) w w2 := HFA.out.trans (fr_below hb2)
      have F02 := HF.out.trans F2
      have cs2 := F02.cell hs ms
      have M2 := (fr_below (B := B) (b := b) hb2).not (by simp) HMR.out
      have Q2 := isB_fr HQA.out hb2
      have hB2 : B ≤ w2.heap.size := by have := F2.size; omega
      have HF2 := Lib.hid F2
      have HF02 := Lib.hid F02
      have HQ2 := Lib.hid Q2
      have HM2 := Lib.hid M2
      clear hb2 F2 F02 Q2 M2 HIS cg1 e0 e1 e2
      go_wp2_with fail
      refine (IH1.out w2 (by omega) (by omega) HQ2.out hB2 HF02.out (by omega)).mono ?_
      rintro e w3 ⟨rfl, Q3, F3⟩
      have F03 := HF02.out.trans F3
      have cs3 := F03.cell hs ms
      have k2 := F3.cell r2 HM2.out
      have hB3 : B ≤ w3.heap.size := by have := F3.size; omega
      have HF3 := Lib.hid (HF2.out.trans F3)
      have HF03 := Lib.hid F03
      have HQ3 := Lib.hid Q3
      clear F3 F03 Q3 r1 r2 cs2
      go_wp2_with fail
      refine (IH2.out w3 (by omega) (by omega) HQ3.out hB3 HF03.out (by rw [HLB.out]; omega)).mono ?_
      rintro e w4 ⟨rfl, Q4, F4⟩
      go_wp2
      go_end0
      exact ⟨rfl, Q4, HF3.out.trans F4⟩
    · have HE := Lib.hid (exF_let (f := f) hz)
      have h1 := ((gOk_rule hok hkl).2 hz).1
      have hd : decide ((ruA l k).1.size = 0) = false := by simpa using hz
      have hlen : bs.length + (ruA l k).1.size ≤ 140737488355328 := by rw [HE.out] at hle; simpa using hle
      rw [HE.out, byteCells_str]
      clear hz HE hle IH h1
      generalize (ruA l k).1 = x1 at *
      generalize (ruA l k).2.1 = x2 at *
      generalize (ruA l k).2.2 = x3 at *
      have HIS := Lib.hid (fun w => i_isPair x1 x2 x3 w)
      rw [hd] at HIS
      clear hd
      go_enter Try.func74, Try.ntmps74
      go_wp2_with fail
      refine (HIS.out _).mono ?_
      rintro e w2 ⟨rfl, hb2⟩
      have r0 : w2.cell? ⟨w.heap.size, 0, none⟩ = some (.string x1) := by rw [hb2.cell (by simp)]; simp [go_sem]
      have F2 : Fr (bMod B b) w w2 := HFA.out.trans (fr_below hb2)
      have Q2 := isB_fr HQA.out hb2
      have hB2 : B ≤ w2.heap.size := by have := F2.size; omega
      have HF2 := Lib.hid F2
      have HW := Lib.hid (i_WriteString B b bs x1 w2 Q2 hlen hB2)
      clear hb2 F2 Q2 HIS cg1 e0 e1 e2
      go_wp2_with fail
      refine HW.out.mono ?_
      rintro e w3 ⟨rfl, Q3, F3⟩
      go_wp2
      go_end0
      exact ⟨rfl, .inr Q3, HF2.out.trans F3⟩
/-- what a part spells -/
def ptW (l : List Ru) (i j : Int) : List UInt8 := (pcv l i j).flatMap (exF l l.length)
theorem i_unpack (a lv : Option Addr) (cap gl cl base : Nat) (l : List Ru) (i j : Int) (w : World) (hok : gOk l = true) (hin : InRu w (.slice a l.length cap) l) (hlv : l.length ≠ 0 → lv = some ⟨gl, 0, none⟩) (hown : w.ownsRow base 2 1 (.slice lv l.length cl) l.length ((gLn l).map (Value.int .i64)))
    (hlim : (ptW l i j).length ≤ 140737488355328) :
    Calls Try.prog 63 #[.agg #[.slice a l.length cap], .slice lv l.length cl, .int .i64 i, .int .i64 j] w fun e w' => e = .returned (.string ⟨(ptW l i j).toArray⟩) ∧ Below w.heap.size w w' := by
  have hmf : ∀ (fn : Fn) (first cap : Array Value) (w : World), (Instr.makeFunc fn first cap).run Try.prog w = .ok (.func fn first cap) w := fun _ _ _ _ => rfl
  have hsf := fun (a : Addr) (c : Array Value) (n : Nat) (w : World) => run_store Try.prog w a (.func (.func n) #[] c) .plain rfl
  have eF : ∀ args w, (callFunc 74 args).run Try.prog w = .ok (.enter 74 args) w := enters_of Try.func74 (by kernel_rfl) rfl
  have hFn : Hid (w.heap.size = w.heap.size) := rfl
  -- the world ahead of 'pieces'
  have hb1 := (Below.refl w.heap.size w).alloc (Nat.le_refl _) (.cells #[.slice a l.length cap] 29)
  have hb2 := hb1.alloc (by simp) (.cells #[.pointer none, .slice none 0 0] 86)
  have hb3 := hb2.alloc (by simp; omega) (.cells #[.func (.func 74) #[] #[.pointer (some ⟨w.heap.size, 0, none⟩), .pointer (some ⟨w.heap.size + 1 + 1, 0, none⟩), .pointer (some ⟨w.heap.size + 1, 0, none⟩)]] 87)
  have q3 : Lib.IsBuilder 86 5 w.heap.size (w.heap.size + 1) (Lib.byteCells (([] : List Nat).flatMap (exF l l.length))) (((w.alloc (.cells #[.slice a l.length cap] 29)).alloc (.cells #[.pointer none, .slice none 0 0] 86)).alloc (.cells #[.func (.func 74) #[] #[.pointer (some ⟨w.heap.size, 0, none⟩), .pointer (some ⟨w.heap.size + 1 + 1, 0, none⟩), .pointer (some ⟨w.heap.size + 1, 0, none⟩)]] 87)) := by
    refine .inl ⟨by omega, .slice none 0 0, ?_, World.ownsRow_nil _ _ _ _, by simp [Value.ownBlock]⟩
    rw [Below.heap_alloc _ _ _ (by simp)]
    have := heap_alloc_new (w.alloc (.cells #[.slice a l.length cap] 29)) (.cells #[.pointer none, .slice none 0 0] 86)
    simpa using this
  have HP := Lib.hid (i_pieces (bMod w.heap.size (w.heap.size + 1)) (fun vis w' => Lib.IsBuilder 86 5 w.heap.size (w.heap.size + 1) (Lib.byteCells (vis.flatMap (exF l l.length))) w') (fun vis => (vis.flatMap (exF l l.length)).length ≤ 140737488355328)
    74 #[.pointer (some ⟨w.heap.size, 0, none⟩), .pointer (some ⟨w.heap.size + 1 + 1, 0, none⟩), .pointer (some ⟨w.heap.size + 1, 0, none⟩)] eF l i j _ gl cl cap a lv hok hlv
    (fun k hk => by obtain rfl := hlv (by omega); exact hb3.cell (p := ⟨gl, k, none⟩) ((hown.lt gl rfl).2) ▸ own_get hown (gOk_some hok).2.2.1 hk)
    (fun hl0 h => by
      obtain rfl := hlv hl0
      have := (hown.lt gl rfl).2
      rcases h with h | ⟨h, _⟩ <;> omega)
    (fun k hk => by
      obtain ⟨b', off, e, hb', d0, d1, d2⟩ := inRu_at hin hk
      exact ⟨b', off, e, (fun h => by rcases h with h | ⟨h, _⟩ <;> omega), cell_later hb3 d0, cell_later hb3 d1, cell_later hb3 d2⟩)
    (fun vis k w' hk hq hf ho => by
      refine (i_spell l _ w.heap.size (w.heap.size + 1) w.heap.size (w.heap.size + 1 + 1) cap a hok (by simp [go_sem]) ?_ (by simp [go_sem]) ?_ ?_ l.length k _ w' hk hk hq (by have := hf.size; simp at this; omega) hf ?_).mono ?_
      · rintro (h | ⟨_, cs, fr, h⟩)
        · omega
        · rw [Below.heap_alloc _ _ _ (by simp; omega), Below.heap_alloc _ _ _ (by simp), heap_alloc_new] at h
          injection h with h; injection h with h1 h2; cases h2
      · rintro (h | ⟨_, cs, fr, h⟩)
        · omega
        · have h9 := heap_alloc_new ((w.alloc (.cells #[.slice a l.length cap] 29)).alloc (.cells #[.pointer none, .slice none 0 0] 86)) (.cells #[.func (.func 74) #[] #[.pointer (some ⟨w.heap.size, 0, none⟩), .pointer (some ⟨w.heap.size + 1 + 1, 0, none⟩), .pointer (some ⟨w.heap.size + 1, 0, none⟩)]] 87)
          simp only [World.size_alloc] at h9
          rw [h9] at h
          injection h with h; injection h with h1 h2; cases h2
      · intro k hk
        obtain ⟨b', off, e, hb', d0, d1, d2⟩ := inRu_at hin hk
        exact ⟨b', off, e, (fun h => by rcases h with h | ⟨h, _⟩ <;> omega), cell_later hb3 d0, cell_later hb3 d1, cell_later hb3 d2⟩
      · rw [Lib.byteCells_length]
        simpa [List.flatMap_append] using ho
      · rintro e w2 ⟨rfl, hq2, hf2⟩
        refine ⟨rfl, ?_, hf2⟩
        rw [← byteCells_append] at hq2
        simpa [List.flatMap_append] using hq2)
    (fun vis w' cs T hT hq => ⟨isB_fr hq ((Below.refl _ _).alloc (Nat.le_refl _) _), fun k hk => bMod_rule hT (isB_lt hq) hk⟩)
    (fun vis w' hq => ⟨isB_fr hq (Below.drew (Below.refl _ _)), fun k hk => hk⟩)
    (fun vis w' k hq hk => bMod_lt hq hk)
    (fun a b h => by simp only [List.flatMap_append, List.length_append] at h; omega) q3 hlim)
  have H3 := Lib.hid hb3
  clear hb1 hb2 hb3 q3 hFn hin hown hlim hlv
  go_enter Try.func63, Try.ntmps63
  go_wp2_with fail
  refine HP.out.mono ?_
  rintro e w4 ⟨rfl, Q4, F4⟩
  have hB4 : Below w.heap.size w w4 := H3.out.trans (F4.below (by simp; omega) (fun k hk h => by rcases h with h | ⟨h, _⟩ <;> omega))
  clear F4
  go_wp2_with fail
  refine (Try.Builder_String_any w.heap.size (w.heap.size + 1) _ w4 Q4 hB4.size).mono ?_
  rintro e w5 ⟨rfl, hb5⟩
  have hB5 := hB4.trans hb5
  clear hB4 hb5 Q4 HP H3
  go_wp2
  go_ret
  exact ⟨rfl, hB5⟩
end Go.Proofs.Ytmcfjjhflnhehaa

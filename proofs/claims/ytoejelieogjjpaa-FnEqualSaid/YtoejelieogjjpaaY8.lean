/- What a rule spells; the walk of 'unpack'. -/
import Derived.Test.YtoejelieogjjpaaGF
import Derived.Test.YtoejelieogjjpaaB1
namespace Go.Proofs.Ytoejelieogjjpaa
open Go.ChangeShapes Go.WideShapes Go.RowKit
set_option linter.unusedVariables false
set_option linter.unusedSimpArgs false
set_option maxHeartbeats 2000000
set_option maxRecDepth 100000
theorem byteCells_append (a b : List UInt8) : Lib.byteCells (a ++ b) = Lib.byteCells a ++ Lib.byteCells b := by simp [Lib.byteCells]
theorem byteCells_str (s : ByteArray) : Lib.byteCells s.data.toList = Lib.strCells s := rfl
theorem isB_fr {B b : Nat} {bs : List Value} {w w' : World} (h : Lib.IsBuilder 111 5 B b bs w) (hb : Below w.heap.size w w') : Lib.IsBuilder 111 5 B b bs w' := by
  have key : ∀ p, Lib.BuilderAt 111 5 B b p bs w → Lib.BuilderAt 111 5 B b p bs w' := by
    intro p h
    have hlt := h.lt
    obtain ⟨hB, v, hv, hown, hne⟩ := h
    exact ⟨hB, v, (hb.block b hlt).trans hv, owns_after hown hb, hne⟩
  rcases h with h | h
  · exact .inl (key _ h)
  · exact .inr (key _ h)
theorem fr_below {B b : Nat} {w w' : World} (hb : Below w.heap.size w w') : Fr (bMod B b) w w' :=
  ⟨hb.os, hb.tape, hb.output, hb.size, fun k hk _ => hb.block k hk, fun k hk hm => by
    rcases hm with rfl | ⟨hBk, cs, fr, hm⟩
    · exact .inl rfl
    · rw [hb.block k hk] at hm; exact .inr ⟨hBk, cs, fr, hm⟩⟩
theorem isB_lt {B b : Nat} {bs : List Value} {w : World} (h : Lib.IsBuilder 111 5 B b bs w) : b < w.heap.size := by
  rcases h with h | h
  · exact h.lt
  · exact h.lt
theorem bMod_rule {B b : Nat} {w : World} {cs : Array Value} {T : TypeId} {k : Nat} (hT : T ≠ 5) (hb : b < w.heap.size) (h : bMod B b (w.alloc (.cells cs T)) k) : bMod B b w k := by
  rcases h with h | ⟨hBk, c, fr, h⟩
  · exact .inl h
  · by_cases hk : k < w.heap.size
    · rw [Below.heap_alloc _ _ _ hk] at h; exact .inr ⟨hBk, c, fr, h⟩
    · have hk2 : k = w.heap.size := by
        have : k < (w.alloc (.cells cs T)).heap.size := by
          rcases Nat.lt_or_ge k (w.alloc (.cells cs T)).heap.size with h' | h'
          · exact h'
          · simp [Array.getElem?_eq_none h'] at h
        simp at this; omega
      subst hk2
      rw [heap_alloc_new] at h
      injection h with h; injection h with h1 h2; exact absurd h2 hT
theorem bMod_lt {B b : Nat} {bs : List Value} {w : World} {k : Nat} (hb : Lib.IsBuilder 111 5 B b bs w) (h : bMod B b w k) : k < w.heap.size := by
  rcases h with rfl | ⟨hBk, c, fr, h⟩
  · exact isB_lt hb
  · rcases Nat.lt_or_ge k w.heap.size with h' | h'
    · exact h'
    · simp [Array.getElem?_eq_none h'] at h
theorem i_spell (l : List Ru) (w0 : World) (B b gb sb cap : Nat) (a : Option Addr) (hok : gOk l = true)
    (hg : w0.cell? ⟨gb, 0, none⟩ = some (.slice a l.length cap)) (mg : ¬ bMod B b w0 gb)
    (hs : w0.cell? ⟨sb, 0, none⟩ = some (.func (.func 74) #[] #[.pointer (some ⟨gb, 0, none⟩), .pointer (some ⟨sb, 0, none⟩), .pointer (some ⟨b, 0, none⟩)])) (ms : ¬ bMod B b w0 sb)
    (hru : ∀ k, k < l.length → ∃ b' off, a = some ⟨b', off, none⟩ ∧ ¬ bMod B b w0 b' ∧ w0.cell? ⟨b', off + k * 3, none⟩ = some (.string (ruA l k).1) ∧ w0.cell? ⟨b', off + k * 3 + 1, none⟩ = some (.int .i64 (ruA l k).2.1) ∧ w0.cell? ⟨b', off + k * 3 + 2, none⟩ = some (.int .i64 (ruA l k).2.2)) :
    ∀ (f k : Nat) (bs : List Value) (w : World), k < f → k < l.length → Lib.IsBuilder 111 5 B b bs w → B ≤ w.heap.size → Fr (bMod B b) w0 w → bs.length + (exF l f k).length ≤ 140737488355328 →
    Calls Try.prog 74 #[.int .i64 k, .pointer (some ⟨gb, 0, none⟩), .pointer (some ⟨sb, 0, none⟩), .pointer (some ⟨b, 0, none⟩)] w
      fun e w' => e = .returned (.tuple #[]) ∧ Lib.IsBuilder 111 5 B b (bs ++ Lib.byteCells (exF l f k)) w' ∧ Fr (bMod B b) w w'
  | 0, k, bs, w, h, _, _, _, _, _ => by omega
  | f + 1, k, bs, w, hkf, hkl, hQ, hB, hF, hle => by
    have IH := Lib.hid (i_spell l w0 B b gb sb cap a hok hg mg hs ms hru f)
    obtain ⟨b', off, rfl, mb, d0, d1, d2⟩ := hru k hkl
    have cg1 := hF.cell hg mg
    have e0 := hF.cell d0 mb
    have e1 := hF.cell d1 mb
    have e2 := hF.cell d2 mb
    have hkI : ((k : Nat) : Int) < l.length := by omega
    have hsz := isB_lt hQ
    have fA : Fr (bMod B b) w (w.alloc (.cells #[.string (ruA l k).1, .int .i64 (ruA l k).2.1, .int .i64 (ruA l k).2.2] 59)) := Fr.alloc (fun j hj => bMod_rule (by decide) hsz hj)
    have mr : ¬ bMod B b (w.alloc (.cells #[.string (ruA l k).1, .int .i64 (ruA l k).2.1, .int .i64 (ruA l k).2.2] 59)) w.heap.size := fun e => by have := bMod_lt hQ (bMod_rule (by decide) hsz e); omega
    have qA := isB_fr hQ ((Below.refl _ w).alloc (Nat.le_refl _) (.cells #[.string (ruA l k).1, .int .i64 (ruA l k).2.1, .int .i64 (ruA l k).2.2] 59))
    have HQA := Lib.hid qA
    have HFA := Lib.hid fA
    have HF := Lib.hid hF
    have HMR := Lib.hid mr
    clear qA fA hF mr d0 d1 d2 hQ hsz
    by_cases hz : (ruA l k).1.size = 0
    · obtain ⟨q1, q2, q3, q4⟩ := (gOk_rule hok hkl).1 hz
      have HE := Lib.hid (exF_pair (f := f) hz)
      have hd : decide ((ruA l k).1.size = 0) = true := by simpa using hz
      obtain ⟨p, hp⟩ := Int.eq_ofNat_of_zero_le q1
      obtain ⟨q, hq⟩ := Int.eq_ofNat_of_zero_le q3
      have hpk : p < k := by omega
      have hqk : q < k := by omega
      rw [hp, hq] at HE
      rw [hp, hq] at HQA HFA HMR
      rw [hp] at e1
      rw [hq] at e2
      simp only [Int.toNat_natCast] at HE
      have hlen : bs.length + ((exF l f p).length + (exF l f q).length) ≤ 140737488355328 := by rw [HE.out, List.length_append] at hle; exact hle
      have IH1 := Lib.hid (IH.out p bs)
      have IH2 := Lib.hid (IH.out q (bs ++ Lib.byteCells (exF l f p)))
      rw [HE.out, byteCells_append, ← List.append_assoc]
      have HLB : Hid ((bs ++ Lib.byteCells (exF l f p)).length = bs.length + (exF l f p).length) := by show _ = _; simp [Lib.byteCells_length]
      clear hz hp hq q1 q2 q3 q4 IH HE hle
      generalize (ruA l k).1 = x1 at *
      have HIS := Lib.hid (fun w => i_isPair x1 p q w)
      rw [hd] at HIS
      clear hd
      go_enter Try.func74, Try.ntmps74
      go_wp2_with fail
      refine (HIS.out _).mono ?_
      rintro e w2 ⟨rfl, hb2⟩
      have r1 : w2.cell? ⟨w.heap.size, 1, none⟩ = some (.int .i64 p) := by rw [hb2.cell (by simp)]; simp [go_sem]
      have r2 : w2.cell? ⟨w.heap.size, 2, none⟩ = some (.int .i64 q) := by rw [hb2.cell (by simp)]; simp [go_sem]
      have F2 : Fr (bMod B b) w w2 := HFA.out.trans (fr_below hb2)
      have F02 := HF.out.trans F2
      have cs2 := F02.cell hs ms
      have M2 := (fr_below (B := B) (b := b) hb2).not (by simp) HMR.out
      have Q2 := isB_fr HQA.out hb2
      have hB2 : B ≤ w2.heap.size := by have := F2.size; omega
      have HF2 := Lib.hid F2
      have HF02 := Lib.hid F02
      have HQ2 := Lib.hid Q2
      have HM2 := Lib.hid M2
      clear hb2 F2 F02 Q2 M2 HIS cg1 e0 e1 e2
      go_wp2_with fail
      refine (IH1.out w2 (by omega) (by omega) HQ2.out hB2 HF02.out (by omega)).mono ?_
      rintro e w3 ⟨rfl, Q3, F3⟩
      have F03 := HF02.out.trans F3
      have cs3 := F03.cell hs ms
      have k2 := F3.cell r2 HM2.out
      have hB3 : B ≤ w3.heap.size := by have := F3.size; omega
      have HF3 := Lib.hid (HF2.out.trans F3)
      have HF03 := Lib.hid F03
      have HQ3 := Lib.hid Q3
      clear F3 F03 Q3 r1 r2 cs2
      go_wp2_with fail
      refine (IH2.out w3 (by omega) (by omega) HQ3.out hB3 HF03.out (by rw [HLB.out]; omega)).mono ?_
      rintro e w4 ⟨rfl, Q4, F4⟩
      go_wp2
      go_end0
      exact ⟨rfl, Q4, HF3.out.trans F4⟩
    · have HE := Lib.hid (exF_let (f := f) hz)
      have h1 := ((gOk_rule hok hkl).2 hz).1
      have hd : decide ((ruA l k).1.size = 0) = false := by simpa using hz
      have hlen : bs.length + (ruA l k).1.size ≤ 140737488355328 := by rw [HE.out] at hle; simpa using hle
      rw [HE.out, byteCells_str]
      clear hz HE hle IH h1
      generalize (ruA l k).1 = x1 at *
      generalize (ruA l k).2.1 = x2 at *
      generalize (ruA l k).2.2 = x3 at *
      have HIS := Lib.hid (fun w => i_isPair x1 x2 x3 w)
      rw [hd] at HIS
      clear hd
      go_enter Try.func74, Try.ntmps74
      go_wp2_with fail
      refine (HIS.out _).mono ?_
      rintro e w2 ⟨rfl, hb2⟩
      have r0 : w2.cell? ⟨w.heap.size, 0, none⟩ = some (.string x1) := by rw [hb2.cell (by simp)]; simp [go_sem]
      have F2 : Fr (bMod B b) w w2 := HFA.out.trans (fr_below hb2)
      have Q2 := isB_fr HQA.out hb2
      have hB2 : B ≤ w2.heap.size := by have := F2.size; omega
      have HF2 := Lib.hid F2
      have HW := Lib.hid (i_WriteString B b bs x1 w2 Q2 hlen hB2)
      clear hb2 F2 Q2 HIS cg1 e0 e1 e2
      go_wp2_with fail
      refine HW.out.mono ?_
      rintro e w3 ⟨rfl, Q3, F3⟩
      go_wp2
      go_end0
      exact ⟨rfl, .inr Q3, HF2.out.trans F3⟩
theorem i_unpack (a lv : Option Addr) (cap gl cl base : Nat) (l : List Ru) (i j : Int) (w : World) (hok : gOk l = true) (hin : InRu w (.slice a l.length cap) l) (hlv : l.length ≠ 0 → lv = some ⟨gl, 0, none⟩) (hown : w.ownsRow base 2 1 (.slice lv l.length cl) l.length ((gLn l).map (Value.int .i64)))
    (hlim : (ptW l i j).length ≤ 140737488355328) :
    Calls Try.prog 65 #[.agg #[.slice a l.length cap], .slice lv l.length cl, .int .i64 i, .int .i64 j] w fun e w' => e = .returned (.string ⟨(ptW l i j).toArray⟩) ∧ Below w.heap.size w w' := by
  have hmf : ∀ (fn : Fn) (first cap : Array Value) (w : World), (Instr.makeFunc fn first cap).run Try.prog w = .ok (.func fn first cap) w := fun _ _ _ _ => rfl
  have hsf := fun (a : Addr) (c : Array Value) (n : Nat) (w : World) => run_store Try.prog w a (.func (.func n) #[] c) .plain rfl
  have eF : ∀ args w, (callFunc 74 args).run Try.prog w = .ok (.enter 74 args) w := enters_of Try.func74 (by kernel_rfl) rfl
  have hFn : Hid (w.heap.size = w.heap.size) := rfl
  -- the world ahead of 'pieces'
  have hb1 := (Below.refl w.heap.size w).alloc (Nat.le_refl _) (.cells #[.slice a l.length cap] 26)
  have hb2 := hb1.alloc (by simp) (.cells #[.pointer none, .slice none 0 0] 111)
  have hb3 := hb2.alloc (by simp; omega) (.cells #[.func (.func 74) #[] #[.pointer (some ⟨w.heap.size, 0, none⟩), .pointer (some ⟨w.heap.size + 1 + 1, 0, none⟩), .pointer (some ⟨w.heap.size + 1, 0, none⟩)]] 93)
  have q3 : Lib.IsBuilder 111 5 w.heap.size (w.heap.size + 1) (Lib.byteCells (([] : List Nat).flatMap (exF l l.length))) (((w.alloc (.cells #[.slice a l.length cap] 26)).alloc (.cells #[.pointer none, .slice none 0 0] 111)).alloc (.cells #[.func (.func 74) #[] #[.pointer (some ⟨w.heap.size, 0, none⟩), .pointer (some ⟨w.heap.size + 1 + 1, 0, none⟩), .pointer (some ⟨w.heap.size + 1, 0, none⟩)]] 93)) := by
    refine .inl ⟨by omega, .slice none 0 0, ?_, World.ownsRow_nil _ _ _ _, by simp [Value.ownBlock]⟩
    rw [Below.heap_alloc _ _ _ (by simp)]
    have := heap_alloc_new (w.alloc (.cells #[.slice a l.length cap] 26)) (.cells #[.pointer none, .slice none 0 0] 111)
    simpa using this
  have HP := Lib.hid (i_pieces (bMod w.heap.size (w.heap.size + 1)) (fun vis w' => Lib.IsBuilder 111 5 w.heap.size (w.heap.size + 1) (Lib.byteCells (vis.flatMap (exF l l.length))) w') (fun vis => (vis.flatMap (exF l l.length)).length ≤ 140737488355328)
    74 #[.pointer (some ⟨w.heap.size, 0, none⟩), .pointer (some ⟨w.heap.size + 1 + 1, 0, none⟩), .pointer (some ⟨w.heap.size + 1, 0, none⟩)] eF l i j _ gl cl cap a lv hok hlv
    (fun k hk => by obtain rfl := hlv (by omega); exact hb3.cell (p := ⟨gl, k, none⟩) ((hown.lt gl rfl).2) ▸ own_get hown (gOk_some hok).2.2.1 hk)
    (fun hl0 h => by
      obtain rfl := hlv hl0
      have := (hown.lt gl rfl).2
      rcases h with h | ⟨h, _⟩ <;> omega)
    (fun k hk => by
      obtain ⟨b', off, e, hb', d0, d1, d2⟩ := inRu_at hin hk
      exact ⟨b', off, e, (fun h => by rcases h with h | ⟨h, _⟩ <;> omega), cell_later hb3 d0, cell_later hb3 d1, cell_later hb3 d2⟩)
    (fun vis k w' hk hq hf ho => by
      refine (i_spell l _ w.heap.size (w.heap.size + 1) w.heap.size (w.heap.size + 1 + 1) cap a hok (by simp [go_sem]) ?_ (by simp [go_sem]) ?_ ?_ l.length k _ w' hk hk hq (by have := hf.size; simp at this; omega) hf ?_).mono ?_
      · rintro (h | ⟨_, cs, fr, h⟩)
        · omega
        · rw [Below.heap_alloc _ _ _ (by simp; omega), Below.heap_alloc _ _ _ (by simp), heap_alloc_new] at h
          injection h with h; injection h with h1 h2; cases h2
      · rintro (h | ⟨_, cs, fr, h⟩)
        · omega
        · have h9 := heap_alloc_new ((w.alloc (.cells #[.slice a l.length cap] 26)).alloc (.cells #[.pointer none, .slice none 0 0] 111)) (.cells #[.func (.func 74) #[] #[.pointer (some ⟨w.heap.size, 0, none⟩), .pointer (some ⟨w.heap.size + 1 + 1, 0, none⟩), .pointer (some ⟨w.heap.size + 1, 0, none⟩)]] 93)
          simp only [World.size_alloc] at h9
          rw [h9] at h
          injection h with h; injection h with h1 h2; cases h2
      · intro k hk
        obtain ⟨b', off, e, hb', d0, d1, d2⟩ := inRu_at hin hk
        exact ⟨b', off, e, (fun h => by rcases h with h | ⟨h, _⟩ <;> omega), cell_later hb3 d0, cell_later hb3 d1, cell_later hb3 d2⟩
      · rw [Lib.byteCells_length]
        simpa [List.flatMap_append] using ho
      · rintro e w2 ⟨rfl, hq2, hf2⟩
        refine ⟨rfl, ?_, hf2⟩
        rw [← byteCells_append] at hq2
        simpa [List.flatMap_append] using hq2)
    (fun vis w' cs T hT hq => ⟨isB_fr hq ((Below.refl _ _).alloc (Nat.le_refl _) _), fun k hk => bMod_rule hT (isB_lt hq) hk⟩)
    (fun vis w' hq => ⟨isB_fr hq (Below.drew (Below.refl _ _)), fun k hk => hk⟩)
    (fun vis w' k hq hk => bMod_lt hq hk)
    (fun a b h => by simp only [List.flatMap_append, List.length_append] at h; omega) q3 hlim)
  have H3 := Lib.hid hb3
  clear hb1 hb2 hb3 q3 hFn hin hown hlim hlv
  go_enter Try.func65, Try.ntmps65
  go_wp2_with fail
  refine HP.out.mono ?_
  rintro e w4 ⟨rfl, Q4, F4⟩
  have hB4 : Below w.heap.size w w4 := H3.out.trans (F4.below (by simp; omega) (fun k hk h => by rcases h with h | ⟨h, _⟩ <;> omega))
  clear F4
  go_wp2_with fail
  refine (Try.Builder_String_any w.heap.size (w.heap.size + 1) _ w4 Q4 hB4.size).mono ?_
  rintro e w5 ⟨rfl, hb5⟩
  have hB5 := hB4.trans hb5
  clear hB4 hb5 Q4 HP H3
  go_wp2
  go_ret
  exact ⟨rfl, hB5⟩
end Go.Proofs.Ytoejelieogjjpaa

/- Letters of a word, parts of a word: the plain law; the reference's walk to a letter. -/
namespace Go.Proofs.Ytoejelieogjjpaa
open Go.ChangeShapes Go.WideShapes Go.RowKit
set_option linter.unusedVariables false
set_option linter.unusedSimpArgs false
set_option maxHeartbeats 2000000
set_option maxRecDepth 100000
theorem s_l02Letter (bq oq cap gl cl base : Nat) (a : Option Addr) (l : List Ru) (i : Int) (w : World) (hok : gOk l = true) (hcell : w.cell? ⟨bq, oq, none⟩ = some (.slice a l.length cap)) (hin : InRu w (.slice a l.length cap) l)
    (hown : w.ownsRow base 2 1 (.slice (some ⟨gl, 0, none⟩) l.length cl) l.length ((gLn l).map (Value.int .i64))) (hi : 0 ≤ i) (hil : i < lastI (gLn l)) :
    Calls Try.prog 55 #[.pointer (some ⟨bq, oq, none⟩), .slice (some ⟨gl, 0, none⟩) l.length cl, .int .i64 i] w fun e w' => e = .returned (.int .u8 ((wd l).getD i.toNat 0).toNat) ∧ w = w' := by
  have hl400 := (gOk_some hok).1
  have hn : 0 < l.length := by
    have := wd_len hok
    rcases Nat.eq_zero_or_pos l.length with h | h
    · have : l = [] := List.eq_nil_of_length_eq_zero h
      subst this
      have : lastI (gLn ([] : List Ru)) = 0 := rfl
      omega
    · exact h
  obtain ⟨m, hm⟩ : ∃ m, l.length = m + 1 := ⟨l.length - 1, by omega⟩
  have hmi : (l.length : Int) - 1 = (m : Int) := by omega
  have hml : m < l.length := by omega
  have hlast : lastI (gLn l) = (gLn l).getD m 0 := by rw [lastI_at (by rw [(gOk_some hok).2.2.1]; omega), (gOk_some hok).2.2.1, hm]; rfl
  have HW : Hid ((exF l l.length m)[i.toNat]? = (wd l)[i.toNat]?) := by show _ = _; rw [wd, hm]; rfl
  rw [hlast] at hil
  have HM := Lib.hid hm
  have HIN := Lib.hid hin
  have HOWN := Lib.hid hown
  have HWL := Lib.hid (wd_len hok)
  clear hm hlast hin hown
  go_enter Try.func55, Try.ntmps55
  go_wp2
  go_loop [2, 7, 8] (fun ix at_ _ => ∃ (f k : Nat) (ii : Int), k < f ∧ k < l.length ∧ ix = .int .i64 ii ∧ at_ = .int .i64 k ∧ 0 ≤ ii ∧ ii < (gLn l).getD k 0 ∧ (exF l f k)[ii.toNat]? = (wd l)[i.toNat]?) (fun _ at_ _ => (intOf at_).toNat)
  case atStart => exact ⟨l.length, m, i, hml, hml, rfl, by go_num, hi, hil, HW.out⟩
  case round =>
    obtain ⟨f, k, ii, hkf, hkl, rfl, rfl, hi1, hi2, hrel2⟩ := hrel
    obtain ⟨f, rfl⟩ : ∃ f', f = f' + 1 := ⟨f - 1, by omega⟩
    obtain ⟨b, off, rfl, hbl, hc0, hc1, hc2⟩ := inRu_at HIN.out hkl
    have hin : ((k : Nat) : Int) < l.length := by omega
    have HREL := Lib.hid hrel2
    clear hrel2
    by_cases hz : (ruA l k).1.size = 0
    · obtain ⟨q1, q2, q3, q4⟩ := (gOk_rule hok hkl).1 hz
      have hsum := (gOk_len hok hkl).1 hz
      obtain ⟨p, hp⟩ := Int.eq_ofNat_of_zero_le q1
      obtain ⟨q, hq⟩ := Int.eq_ofNat_of_zero_le q3
      have hpk : p < k := by omega
      have hqk : q < k := by omega
      have HE := Lib.hid (exF_pair (f := f) hz)
      rw [hp, hq] at HE hsum
      rw [hp] at hc1
      rw [hq] at hc2
      simp only [Int.toNat_natCast] at HE hsum
      have ha := exF_len hok f p (by omega) (by omega)
      have hpl := own_get HOWN.out (gOk_some hok).2.2.1 (show p < l.length by omega)
      have hbp := (gOk_some hok).2.2.2 _ (getD_mem (show p < (gLn l).length by rw [(gOk_some hok).2.2.1]; omega))
      have hbq := (gOk_some hok).2.2.2 _ (getD_mem (show q < (gLn l).length by rw [(gOk_some hok).2.2.1]; omega))
      have ex := size_zero hz
      rw [ex] at hc0
      have hpI : (p : Int) < l.length := by omega
      have HLT : Hid (ii < (gLn l).getD p 0 → (exF l f p)[ii.toNat]? = (wd l)[i.toNat]?) := fun h => by
        rw [← HREL.out, HE.out, List.getElem?_append_left (by omega)]
      have HGE : Hid (¬ ii < (gLn l).getD p 0 → (exF l f q)[(ii - (gLn l).getD p 0).toNat]? = (wd l)[i.toNat]?) := fun h => by
        rw [← HREL.out, HE.out, List.getElem?_append_right (by omega)]
        congr 1; omega
      have HQ : Hid (¬ ii < (gLn l).getD p 0 → ii - (gLn l).getD p 0 < (gLn l).getD q 0) := fun h => by omega
      have HPK := Lib.hid hpk
      clear hz hp hq q1 q2 q3 q4 HE ha ex HREL hsum
      generalize hlp : (gLn l).getD p 0 = lp at *
      generalize hlq : (gLn l).getD q 0 = lq at *
      obtain ⟨hbp1, hbp2⟩ := hbp
      have HLP := Lib.hid hlp
      have HLQ := Lib.hid hlq
      clear hlp hlq
      by_cases hlt : ii < lp
      · have H1 := Lib.hid (HLT.out hlt)
        go_wp2
        go_round
        case rel => exact ⟨f, p, ii, by omega, by omega, rfl, rfl, hi1, by rw [HLP.out]; exact hlt, H1.out⟩
        case measure => have := HPK.out; first | (simp [intOf]; done) | (simp [intOf]; omega)
      · have H1 := Lib.hid (HGE.out hlt)
        have H2 := HQ.out hlt
        have hlk := (gOk_some hok).2.2.2 _ (getD_mem (show k < (gLn l).length by rw [(gOk_some hok).2.2.1]; omega))
        have hii : ii ≤ 1000000000000000 := by omega
        clear hlk
        go_wp2
        go_round
        case rel => exact ⟨f, q, ii - lp, by omega, by omega, rfl, rfl, by omega, by rw [HLQ.out]; exact H2, H1.out⟩
        case measure => first | (simp [intOf]; done) | (simp [intOf]; omega)
    · have h1 := ((gOk_rule hok hkl).2 hz).1
      have hl1 := (gOk_len hok hkl).2 hz
      have h0 : 0 < (ruA l k).1.size := by omega
      have hi0 : ii.toNat = 0 := by omega
      have hres : (wd l).getD i.toNat 0 = (ruA l k).1[0] := by
        have := HREL.out
        rw [exF_let hz, hi0, get_opt _ 0 h0] at this
        rw [List.getD, ← this]; rfl
      have hne := neq_empty hz
      have hne2 := not_empty hz
      have HRES := Lib.hid hres
      clear hz hl1 hres h1
      generalize (ruA l k).1 = x1 at *
      go_wp2
      go_ret
      exact ⟨by have h9 : (wd l)[i.toNat]?.getD 0 = x1[0] := HRES.out; rw [h9]; rfl, rfl⟩
end Go.Proofs.Ytoejelieogjjpaa

/- Parts of a word that the reference spells; the codes of a part. -/
namespace Go.Proofs.Ytoejelieogjjpaa
open Go.ChangeShapes Go.WideShapes Go.RowKit
set_option linter.unusedVariables false
set_option linter.unusedSimpArgs false
set_option maxHeartbeats 2000000
set_option maxRecDepth 100000
/-- a part of a word -/
def ptX (l : List Ru) (i j : Int) : List UInt8 := ((wd l).take j.toNat).drop i.toNat
theorem ptX_snoc {l : List Ru} {i : Int} {k : Nat} (hi : i ≤ k) (h0 : 0 ≤ i) (hk : k < (wd l).length) : ptX l i ((k + 1 : Nat) : Int) = ptX l i k ++ [(wd l).getD k 0] := by
  unfold ptX
  rw [Int.toNat_natCast, Int.toNat_natCast, List.take_add_one, List.getElem?_eq_getElem hk, List.drop_append_of_le_length (by simp; omega)]
  simp [List.getD, hk]
theorem ptX_nil (l : List Ru) (i : Int) : ptX l i i = [] := by
  unfold ptX; rw [List.drop_eq_nil_iff, List.length_take]; omega
theorem s_l02Unpack (bq oq cap : Nat) (a : Option Addr) (l : List Ru) (i j : Int) (w : World) (hn : l.length ≤ 1048576) (hsz : ∀ r ∈ l, r.1.size ≤ 1048576) (hok : gOk l = true) (hcell : w.cell? ⟨bq, oq, none⟩ = some (.slice a l.length cap)) (hin : InRu w (.slice a l.length cap) l)
    (hi : 0 ≤ i) (hij : i ≤ j) (hj : j ≤ lastI (gLn l)) (hb : j - i ≤ 2000) :
    Calls Try.prog 35 #[.pointer (some ⟨bq, oq, none⟩), .int .i64 i, .int .i64 j] w fun e w' => e = .returned (.string ⟨(ptX l i j).toArray⟩) ∧ Below w.heap.size w w' := by
  have HS := Lib.hid (s_l02Lengths bq oq cap a l w hn hsz hcell hin)
  have hwl := wd_len hok
  have hjb : j ≤ 1000000000000000 := by
    by_cases hl : 0 < l.length
    · have := (gOk_some hok).2.2.2 _ (getD_mem (show l.length - 1 < (gLn l).length by rw [(gOk_some hok).2.2.1]; omega))
      rw [lastI_at (by rw [(gOk_some hok).2.2.1]; omega), (gOk_some hok).2.2.1] at hj
      omega
    · have : l = [] := List.eq_nil_of_length_eq_zero (by omega)
      subst this
      have : lastI (gLn ([] : List Ru)) = 0 := rfl
      omega
  rw [hok] at HS
  have HIN := Lib.hid hin
  have HL := Lib.hid (fun (gl cl base : Nat) (w : World) (i : Int) => s_l02Letter bq oq cap gl cl base a l i w hok)
  have hgl := (gOk_some hok).2.2.1
  clear hn hsz hin
  go_enter Try.func35, Try.ntmps35
  go_wp2_with fail
  refine HS.out.mono ?_
  rintro e w2 ⟨v', rfl, hb2, ho2⟩
  have ho := by first | exact ho2 rfl | exact ho2 trivial
  have hcell2 := cell_later hb2 hcell
  have i2 := inRu_below HIN.out hb2
  rw [hgl] at ho
  obtain ⟨al, cl, rfl, hsome, -⟩ := owns_sl3 ho
  have HO := Lib.hid ho
  have HI2 := Lib.hid i2
  have HB2 := Lib.hid hb2
  clear ho2 ho i2 hb2 HS hcell
  go_wp2
  go_loopw [9, 10] (fun o k wr => Below w2.heap.size w2 wr ∧ ∃ kk : Nat, i ≤ kk ∧ (kk : Int) ≤ j ∧ k = .int .i64 kk ∧ wr.ownsRow w2.heap.size 5 1 o (ptX l i kk).length (u8s (ptX l i kk))) (fun _ k _ => (j - intOf k).toNat)
  case atStart =>
    refine ⟨(Below.refl _ _).alloc (Nat.le_refl _) _, i.toNat, by omega, by omega, by congr 1; omega, ?_⟩
    rw [show ((i.toNat : Nat) : Int) = i by omega, ptX_nil]
    exact World.ownsRow_made w2 #[] 0 (Nat.le_refl _) (by decide) (by simp)
  case round =>
    obtain ⟨hb3, kk, hk1, hk2, rfl, hown⟩ := hrel
    have hsz3 := hb3.size
    by_cases hlt : (kk : Int) < j
    · have hne : l.length ≠ 0 := by
        intro h
        have : l = [] := List.eq_nil_of_length_eq_zero h
        subst this
        have : lastI (gLn ([] : List Ru)) = 0 := rfl
        omega
      obtain ⟨gl, rfl⟩ := hsome hne
      have HLT := Lib.hid (HL.out gl cl _ wr kk (cell_later hb3 hcell2) (inRu_below HI2.out hb3) (owns_after HO.out hb3) (by omega) (by omega))
      have HS := Lib.hid (ptX_snoc (l := l) hk1 hi (show kk < (wd l).length by omega))
      have hlen : (ptX l i kk).length ≤ 1048576 := by unfold ptX; simp; omega
      simp only [Int.toNat_natCast] at HLT
      have HB3 := Lib.hid hb3
      clear hb3 hcell2
      generalize ptX l i kk = pl at *
      generalize (wd l).getD kk 0 = y at *
      go_wp2_with (first | (go_at_call 55; refine HLT.out.mono ?_; rintro e w3 ⟨rfl, rfl⟩) | (at_builtin; refine app_u8 rfl (.tmp 23) (.tmp 28) rfl w2.heap.size _ _ _ _ _ _ rfl hown rfl (by simp) (by omega) (by simpa using hsz3) ?_; intro v' w1 ho1 hb1 hsz1))
      go_roundw
      case rel => exact ⟨HB3.out.trans hb1, kk + 1, by omega, by omega, by go_num, owns8_snoc ho1 HS.out⟩
      case measure => first | (simp [intOf]; done) | (simp [intOf]; omega)
    · have ek : (kk : Int) = j := by omega
      have hcv := conv_any hown
      have HBF := Lib.hid (HB2.out.trans (hb3.mono HB2.out.size))
      rw [ek] at hcv
      clear hb3 hown hcell2
      go_wp2
      go_ret
      exact ⟨rfl, HBF.out⟩
end Go.Proofs.Ytoejelieogjjpaa

/- LetterAt, UnpackPart, UnpackWord, of the program and of the reference, and their laws. -/
namespace Go.Proofs.Ytoejelieogjjpaa
open Go.ChangeShapes Go.WideShapes Go.RowKit
set_option linter.unusedVariables false
set_option linter.unusedSimpArgs false
set_option maxHeartbeats 2000000
set_option maxRecDepth 100000
theorem last_bd {l : List Ru} (hok : gOk l = true) : 0 ≤ lastI (gLn l) ∧ lastI (gLn l) ≤ 1000000000000000 := by
  by_cases hl : 0 < l.length
  · have := (gOk_some hok).2.2.2 _ (getD_mem (show l.length - 1 < (gLn l).length by rw [(gOk_some hok).2.2.1]; omega))
    rw [lastI_at (by rw [(gOk_some hok).2.2.1]; omega), (gOk_some hok).2.2.1]
    omega
  · have : l = [] := List.eq_nil_of_length_eq_zero (by omega)
    subst this
    have : lastI (gLn ([] : List Ru)) = 0 := rfl
    omega
/-- the code of a part -/
def pkC (l : List Ru) (i j : Int) : Int := if gOk l = false then 1 else if i < 0 ∨ i > j ∨ j > lastI (gLn l) then 2 else 0
theorem pkC_bad {l : List Ru} {i j : Int} (h : gOk l = false) : pkC l i j = 1 := by rw [pkC, if_pos h]
theorem pkC_out {l : List Ru} {i j : Int} (h : gOk l = true) (h2 : i < 0 ∨ i > j ∨ j > lastI (gLn l)) : pkC l i j = 2 := by rw [pkC, if_neg (by simp [h]), if_pos h2]
theorem pkC_ok {l : List Ru} {i j : Int} (h : gOk l = true) (h2 : ¬ (i < 0 ∨ i > j ∨ j > lastI (gLn l))) : pkC l i j = 0 := by rw [pkC, if_neg (by simp [h]), if_neg h2]
/-- the code of an unpacked part -/
def upC (l : List Ru) (i j : Int) : Int := if pkC l i j = 0 then (if j - i > 2000 then 3 else 0) else pkC l i j
def upW (l : List Ru) (i j : Int) : ByteArray := if upC l i j = 0 then ⟨(ptX l i j).toArray⟩ else ⟨#[]⟩
theorem up_bad {l : List Ru} {i j x : Int} (h : pkC l i j = x) (hx : x ≠ 0) : upC l i j = x ∧ upW l i j = ⟨#[]⟩ := by
  have : upC l i j = x := by rw [upC, h, if_neg hx]
  exact ⟨this, by rw [upW, this, if_neg hx]⟩
theorem up_long {l : List Ru} {i j : Int} (h : pkC l i j = 0) (hx : j - i > 2000) : upC l i j = 3 ∧ upW l i j = ⟨#[]⟩ := by
  have : upC l i j = 3 := by rw [upC, if_pos h, if_pos hx]
  exact ⟨this, by rw [upW, this, if_neg (by decide)]⟩
theorem up_ok {l : List Ru} {i j : Int} (h : pkC l i j = 0) (hx : ¬ j - i > 2000) : upC l i j = 0 ∧ upW l i j = ⟨(ptX l i j).toArray⟩ := by
  have : upC l i j = 0 := by rw [upC, if_pos h, if_neg hx]
  exact ⟨this, by rw [upW, if_pos this]⟩
theorem pkC_0 {l : List Ru} {i j : Int} (h : pkC l i j = 0) : gOk l = true ∧ 0 ≤ i ∧ i ≤ j ∧ j ≤ lastI (gLn l) := by
  cases hok : gOk l
  · rw [pkC_bad hok] at h; cases h
  · by_cases h2 : i < 0 ∨ i > j ∨ j > lastI (gLn l)
    · rw [pkC_out hok h2] at h; cases h
    · exact ⟨rfl, by omega, by omega, by omega⟩
end Go.Proofs.Ytoejelieogjjpaa

/- UnpackWord and LetterAt, of the program and of the reference, and their laws. -/
namespace Go.Proofs.Ytoejelieogjjpaa
open Go.ChangeShapes Go.WideShapes Go.RowKit
set_option linter.unusedVariables false
set_option linter.unusedSimpArgs false
set_option maxHeartbeats 2000000
set_option maxRecDepth 100000
def uwC (l : List Ru) : Int := if gOk l = false then 1 else upC l 0 (lastI (gLn l))
def uwW (l : List Ru) : ByteArray := if gOk l = false then ⟨#[]⟩ else upW l 0 (lastI (gLn l))
theorem uw_bad {l : List Ru} (h : gOk l = false) : uwC l = 1 ∧ uwW l = ⟨#[]⟩ := by simp [uwC, uwW, h]
theorem uw_ok {l : List Ru} (h : gOk l = true) : uwC l = upC l 0 (lastI (gLn l)) ∧ uwW l = upW l 0 (lastI (gLn l)) := by simp [uwC, uwW, h]
theorem pk_all {l : List Ru} (h : gOk l = true) : pkC l 0 (lastI (gLn l)) = 0 := pkC_ok h (by have := last_bd h; omega)
theorem s_UnpackWord (v : Value) (l : List Ru) (w : World) (hn : l.length ≤ 1048576) (hsz : ∀ r ∈ l, r.1.size ≤ 1048576) (hin : InRu w v l) :
    Calls Try.prog 21 #[.agg #[v]] w fun e w' => e = .returned (.tuple #[.string (uwW l), .int .i64 (uwC l)]) ∧ Below w.heap.size w w' := by
  obtain ⟨a, cap, rfl⟩ := inRu_sl hin
  have b0 := box_cell w (.slice a l.length cap) 26
  have i0 := inRu_box (o := .cells #[.slice a l.length cap] 26) hin
  have HS := Lib.hid (s_l02Ok w.heap.size 0 cap a l _ hn hsz b0 i0)
  cases hok : gOk l
  · have HF := Lib.hid (uw_bad hok)
    rw [hok] at HS
    clear hsz hin b0 i0 hok
    go_enter Try.func21, Try.ntmps21
    go_wp2_with fail
    refine HS.out.mono ?_
    rintro e w2 ⟨rfl, hb2⟩
    have hb3 := below_box hb2
    clear hb2
    go_wp2
    go_ret2
    exact ⟨ret_si HF.out.2.symm HF.out.1.symm, hb3⟩
  · have h2 := gOk_some hok
    have HF := Lib.hid (uw_ok hok)
    have HL := Lib.hid (fun (wz : Nat × World) h i => s_l02Length wz.1 0 cap a l wz.2 hn hsz h i (by rw [h2.2.1]; rfl))
    have HU := Lib.hid (fun (n : Nat) w hc hi hb => s_l02Unpack n 0 cap a l 0 (lastI (gLn l)) w hn hsz hok hc hi (by omega) (last_bd hok).1 (Int.le_refl _) hb)
    have HX1 : Hid (2000 < lastI (gLn l) → upC l 0 (lastI (gLn l)) = 3 ∧ upW l 0 (lastI (gLn l)) = ⟨#[]⟩) := fun h => up_long (pk_all hok) (by omega)
    have HX2 : Hid (¬ 2000 < lastI (gLn l) → upC l 0 (lastI (gLn l)) = 0 ∧ upW l 0 (lastI (gLn l)) = ⟨(ptX l 0 (lastI (gLn l))).toArray⟩) := fun h => up_ok (pk_all hok) (by omega)
    have hbd := last_bd hok
    rw [hok] at HS
    clear hsz hin hok h2
    generalize lastI (gLn l) = la at *
    obtain ⟨hbd0, hbd1⟩ := hbd
    go_enter Try.func21, Try.ntmps21
    go_wp2_with fail
    refine HS.out.mono ?_
    rintro e w2 ⟨rfl, hb2⟩
    have b2 := cell_later hb2 b0
    have i2 := inRu_below i0 hb2
    go_wp2_with fail
    refine (HL.out (w.heap.size, w2) b2 i2).mono ?_
    rintro e w3 ⟨rfl, hb3⟩
    have hB3 := hb2.trans (hb3.mono hb2.size)
    have b3 := cell_later hB3 b0
    have i3 := inRu_below i0 hB3
    clear hb2 hb3 b0 i0 b2 i2
    by_cases hlong : 2000 < la
    · have HG := Lib.hid (HX1.out hlong)
      have hb4 := below_box hB3
      clear hB3 b3 i3
      go_wp2
      go_ret2
      exact ⟨ret_si (by rw [HF.out.2, HG.out.2]) (by rw [HF.out.1, HG.out.1]), hb4⟩
    · have HG := Lib.hid (HX2.out (by omega))
      go_wp2_with fail
      refine (HU.out w.heap.size w3 b3 i3 (by omega)).mono ?_
      rintro e w4 ⟨rfl, hb4⟩
      have hb5 := below_box (hB3.trans (hb4.mono hB3.size))
      clear hB3 hb4 b3 i3
      go_wp2
      go_ret2
      exact ⟨ret_si (by rw [HF.out.2, HG.out.2]) (by rw [HF.out.1, HG.out.1]), hb5⟩
end Go.Proofs.Ytoejelieogjjpaa

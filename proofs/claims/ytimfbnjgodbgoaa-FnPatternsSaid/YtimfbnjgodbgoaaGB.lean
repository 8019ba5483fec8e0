/- LetterCounts, of the program and of the reference, and its law. -/
import Derived.Test.YtimfbnjgodbgoaaY2
namespace Go.Proofs.Ytimfbnjgodbgoaa
open Go.ChangeShapes Go.WideShapes Go.RowKit
set_option linter.unusedVariables false
set_option linter.unusedSimpArgs false
set_option maxHeartbeats 2000000
set_option maxRecDepth 100000
/-- which letter -/
def lcJ (a : ByteArray) : Nat := if h : 0 < a.size then a[0].toNat - 97 else 0
def lcS (l : List Ru) (u out : List Int) (k : Nat) : List Int :=
  if (ruA l k).1.size = 0 then out else out.set (lcJ (ruA l k).1) (wrap64 (out.getD (lcJ (ruA l k).1) 0 + u.getD k 0))
def lcT (l : List Ru) (u : List Int) : Nat → List Int
  | 0 => List.replicate 4 0
  | k + 1 => lcS l u (lcT l u k) k
theorem lcT_len (l : List Ru) (u : List Int) : ∀ k, (lcT l u k).length = 4
  | 0 => rfl
  | k + 1 => by rw [lcT, lcS]; split; exact lcT_len l u k; rw [List.length_set]; exact lcT_len l u k
theorem lcT_pair {l : List Ru} {u : List Int} {k : Nat} (h : (ruA l k).1.size = 0) : lcT l u (k + 1) = lcT l u k := by rw [lcT, lcS, if_pos h]
theorem lcT_let {l : List Ru} {u : List Int} {k c : Nat} (h : (ruA l k).1.size ≠ 0) (hc : lcJ (ruA l k).1 = c) : lcT l u (k + 1) = (lcT l u k).set c (wrap64 ((lcT l u k).getD c 0 + u.getD k 0)) := by rw [lcT, lcS, if_neg h, hc]
theorem lcJ_ok {a : ByteArray} (h : a.size = 1) (hv : validB a = true) (h0 : 0 < a.size) : lcJ a < 4 ∧ a[0].toNat = 97 + lcJ a := by
  rw [valid_one h h0] at hv
  have e : lcJ a = a[0].toNat - 97 := by unfold lcJ; rw [dif_pos h0]
  simp [letB] at hv
  rw [e]
  omega
def gLc (l : List Ru) : List Int := if gOk l then lcT l (gU l) l.length else []
theorem gLc_bad {l : List Ru} (h : gOk l = false) : gLc l = [] := by simp [gLc, h]
theorem gLc_ok {l : List Ru} (h : gOk l = true) : gLc l = lcT l (gU l) l.length := by simp [gLc, h]
theorem gLc_len {l : List Ru} (h : l.length ≤ 1048576) : (gLc l).length ≤ 1048576 := by
  unfold gLc
  cases hok : gOk l
  · simp
  · simp [lcT_len]
theorem i_LetterCounts (v : Value) (l : List Ru) (w : World) (hn : l.length ≤ 1048576) (hsz : ∀ r ∈ l, r.1.size ≤ 1048576) (hin : InRu w v l) :
    Calls Try.prog 8 #[.agg #[v]] w fun e w' => ∃ v', e = .returned (.tuple #[v', .int .i64 (gC l)]) ∧ Own64 w w' v' (gLc l) := by
  obtain ⟨a, cap, rfl⟩ := inRu_sl hin
  have b0 := box_cell w (.slice a l.length cap) 26
  have i0 := inRu_box (o := .cells #[.slice a l.length cap] 26) hin
  have HS := Lib.hid (i_ValidGrammar _ l _ hn hsz i0)
  cases hok : gOk l
  · have HF := Lib.hid (g_bad hok)
    have HU := Lib.hid (gLc_bad hok)
    rw [hok] at HS
    clear hsz hin b0 i0 hok
    go_enter Try.func8, Try.ntmps8
    go_wp2_with fail
    refine HS.out.mono ?_
    rintro e w2 ⟨rfl, hb2⟩
    have hb3 := below_box hb2
    clear hb2
    go_wp2
    go_ret2
    exact ⟨_, by rw [HF.out.2.1]; rfl, by rw [HU.out]; exact own64_nil hb3⟩
  · have HF := Lib.hid (g_ok hok)
    have HU := Lib.hid (gLc_ok hok)
    have HR := Lib.hid (fun k hk => @gOk_rule l hok k hk)
    have HL := Lib.hid (fun w i => i_uses (.slice a l.length cap) l w hok i)
    have hul := gU_len l
    have hl400 := (gOk_some hok).1
    rw [hok] at HS
    generalize gU l = us at *
    clear hsz hin hok
    go_enter Try.func8, Try.ntmps8
    go_wp2_with fail
    refine HS.out.mono ?_
    rintro e w2 ⟨rfl, hb2⟩
    have b2 := cell_later hb2 b0
    have i2 := inRu_below i0 hb2
    have hB2 := below_box hb2
    clear hb2 b0 i0
    go_wp2_with (first | (at_make; refine make64 _ rfl _ _ rfl w2.heap.size (Nat.le_refl _) 4 rfl rfl (by omega) ?_; intro w3 ho3 hb3; have b3 := cell_later hb3 b2) | fail)
    refine (HL.out w3 (inRu_below i2 hb3)).mono ?_
    rintro e w4 ⟨v', rfl, ho4, hb4⟩
    have B4 : Below w2.heap.size w2 w4 := hb3.trans (hb4.mono hb3.size)
    have ho3' := owns_after ho3 hb4
    have hx : w2.heap.size < w3.heap.size := (ho3.lt _ rfl).2
    obtain ⟨au, cu, rfl, hsome, -⟩ := owns_sl3 ho4
    have HIN := Lib.hid i2
    have HO3 := Lib.hid ho3'
    have HO4 := Lib.hid ho4
    have HB4 := Lib.hid B4
    have HB2 := Lib.hid hB2
    have hbs : w.heap.size < w2.heap.size := World.block_lt_of_cell? _ _ b2
    clear HS HL b3 ho3 ho3' ho4 hb3 hb4 B4 hB2 i2
    rw [hul]
    have HUL := Lib.hid hul
    clear hul
    go_wp2
    go_loopw [5, 6, 7, 15] (fun _ _ _ i wr => Below w2.heap.size w2 wr ∧ ∃ k : Nat, k ≤ l.length ∧ i = .int .i64 k ∧ wr.ownsRow w2.heap.size 2 1 (.slice (some ⟨w2.heap.size, 0, none⟩) 4 4) 4 ((lcT l us k).map (Value.int .i64)) ∧ wr.ownsRow w3.heap.size 2 1 (.slice au us.length cu) us.length (us.map (Value.int .i64))) (fun _ _ _ i _ => l.length - (intOf i).toNat)
    case atStart => exact ⟨HB4.out, 0, by omega, rfl, HO3.out, HO4.out⟩
    case round =>
      obtain ⟨hb, k, hk, rfl, hown, hou⟩ := hrel
      have bw := cell_later hb b2
      by_cases hlt : k < l.length
      · have hin : ((k : Nat) : Int) < l.length := by omega
        obtain ⟨b, off, rfl, hbl, hc0, hc1, hc2⟩ := inRu_at (inRu_below HIN.out hb) hlt
        obtain ⟨gu, rfl⟩ := hsome (by have := HUL.out; omega)
        have hcu := own_get hou rfl (show k < us.length by have := HUL.out; omega)
        have hol := lcT_len l us k
        have HB := Lib.hid hb
        have HOWN := Lib.hid hown
        have HOU := Lib.hid hou
        by_cases hz : (ruA l k).1.size = 0
        · have HE := Lib.hid (lcT_pair (u := us) hz)
          have hd : decide ((ruA l k).1.size = 0) = true := by simpa using hz
          clear hz hb hown hou
          generalize (ruA l k).1 = x1 at *
          generalize (ruA l k).2.1 = x2 at *
          generalize (ruA l k).2.2 = x3 at *
          generalize us.getD k 0 = uk at *
          have HIS := Lib.hid (fun w => i_isPair x1 x2 x3 w)
          rw [hd] at HIS
          clear hd
          go_wp2_with fail
          refine (HIS.out _).mono ?_
          rintro e w5 ⟨rfl, hb5'⟩
          have hb5 := below_box hb5'
          clear hb5' HIS hc0 hc1 hc2 bw hcu
          go_wp2
          go_roundw
          case rel =>
            refine ⟨HB.out.trans (hb5.mono HB.out.size), k + 1, by omega, by go_num, ?_, owns_after HOU.out hb5⟩
            rw [HE.out]; exact owns_after HOWN.out hb5
          case measure => first | (simp [intOf]; done) | (simp [intOf]; omega)
        · obtain ⟨h1, hv, h2, h3⟩ := (HR.out k hlt).2 hz
          have h0 : 0 < (ruA l k).1.size := by omega
          obtain ⟨hc4, hcv⟩ := lcJ_ok h1 hv h0
          obtain ⟨c, hc⟩ : ∃ c, lcJ (ruA l k).1 = c := ⟨_, rfl⟩
          rw [hc] at hc4 hcv
          have HE := Lib.hid (lcT_let (u := us) hz hc)
          have hd : decide ((ruA l k).1.size = 0) = false := by simpa using hz
          clear hz hb hown hou hv hc h2 h3
          generalize (ruA l k).1 = x1 at *
          generalize (ruA l k).2.1 = x2 at *
          generalize (ruA l k).2.2 = x3 at *
          generalize us.getD k 0 = uk at *
          have HIS := Lib.hid (fun w => i_isPair x1 x2 x3 w)
          rw [hd] at HIS
          clear hd
          go_wp2_with fail
          refine (HIS.out _).mono ?_
          rintro e w5 ⟨rfl, hb5'⟩
          have hb5 := below_box hb5'
          have r0 : w5.cell? ⟨wr.heap.size, 0, none⟩ = some (.string x1) := by rw [hb5'.cell (by simp)]; simp [go_sem]
          have hO5 := owns_after HOWN.out hb5
          have hU5 := owns_after HOU.out hb5
          have hcc := own_get hO5 hol hc4
          have hfc : w5.frozen? ⟨w2.heap.size, c, none⟩ = false := hO5.frozenAt c
          have HO5 := Lib.hid hO5
          have HU5 := Lib.hid hU5
          have HB5 := Lib.hid (HB.out.trans (hb5.mono HB.out.size))
          have hci : (c : Int) < 4 := by omega
          have hx0 : (x1[0].toNat : Int) = 97 + (c : Int) := by omega
          clear hb5' hb5 HIS hc0 hc1 hc2 bw hcu hO5 hU5
          generalize (lcT l us k).getD c 0 = oc at *
          go_wp2
          go_roundw
          case rel =>
            refine ⟨HB5.out.setCell (p := ⟨w2.heap.size, c, none⟩) (Nat.le_refl _) _, k + 1, by omega, by go_num, ?_, ownsRow_setCell_below HU5.out (a := ⟨w2.heap.size, c, none⟩) hx _⟩
            rw [HE.out]; exact own_set HO5.out c _
          case measure => first | (simp [intOf]; done) | (simp [intOf]; omega)
      · have ek : k = l.length := by omega
        subst ek
        have hk' : ¬ (l.length : Int) < l.length := by omega
        clear bw
        go_wp2
        go_ret2
        refine ⟨_, by rw [HF.out.2.1]; rfl, ?_, HB2.out.trans (hb.mono HB2.out.size)⟩
        rw [HU.out, lcT_len]
        exact owns_weak hown (by omega)
end Go.Proofs.Ytimfbnjgodbgoaa

/- CodeWord: plain law; the program's walk. -/
import Derived.Test.YtefcdkgfabaffaaKF
import Derived.Test.YtefcdkgfabaffaaGF
import Derived.Test.YtefcdkgfabaffaaB1
namespace Go.Proofs.Ytefcdkgfabaffaa
open Go.ChangeShapes Go.WideShapes Go.RowKit
set_option linter.unusedVariables false
set_option linter.unusedSimpArgs false
set_option maxHeartbeats 2000000
set_option maxRecDepth 100000
def lI (w : ByteArray) (k : Nat) : Nat := (w.data.toList.getD k 0).toNat - 97
/-- the state and what is written behind the first letters -/
def cwT (a : Co) (s : ByteArray) : Nat → Int × List UInt8
  | 0 => (a.sa, [])
  | k + 1 => ((tA a.nx (cwT a s k).1.toNat).getD (lI s k) 0, (cwT a s k).2 ++ ((uA a.ou (cwT a s k).1.toNat).getD (lI s k) ⟨#[]⟩).data.toList)
theorem lI_ok {s : ByteArray} {k : Nat} (hv : validB s = true) (hk : k < s.size) : lI s k < 4 ∧ s[k].toNat = 97 + lI s k := by
  have e : s.data.toList.getD k 0 = s[k] := by rw [List.getD, get_opt s k hk]; rfl
  unfold lI
  rw [e]
  have h2 : letB (s[k].toNat : Int) = true := by
    rw [validB, Bool.and_eq_true] at hv
    have h := hv.1
    rw [allL, List.all_eq_true] at h
    exact h _ (List.mem_of_getElem? (get_opt s k hk))
  simp [letB] at h2
  omega
theorem cwT_bd {a : Co} {s : ByteArray} (h : coOk a = true) (hv : validB s = true) : ∀ k, k ≤ s.size → 0 ≤ (cwT a s k).1 ∧ (cwT a s k).1 < a.nx.length ∧ (cwT a s k).2.length ≤ 6 * k
  | 0, _ => by
    obtain ⟨h1, h2, h3, h4, h5, h6⟩ := coOk_facts h
    simp only [cwT]
    exact ⟨h2.1, by omega, by simp⟩
  | k + 1, hk => by
    obtain ⟨h1, h2, h3, h4, h5, h6⟩ := coOk_facts h
    obtain ⟨b1, b2, b3⟩ := cwT_bd h hv k (by omega)
    have hl := (lI_ok hv (show k < s.size by omega)).1
    have r := (h5 (cwT a s k).1.toNat (by omega)).2 _ hl
    have o := ((h6 (cwT a s k).1.toNat (by omega)).2 _ hl).1
    simp only [cwT]
    refine ⟨r.1, by omega, ?_⟩
    rw [List.length_append, Array.length_toList]
    have e : ((uA a.ou (cwT a s k).1.toNat).getD (lI s k) ⟨#[]⟩).data.size = ((uA a.ou (cwT a s k).1.toNat).getD (lI s k) ⟨#[]⟩).size := rfl
    omega
def cwC (a : Co) (s : ByteArray) : Int := if (coOk a && validB s) = true then (if (cwT a s s.size).2.length ≤ 2000 then 0 else 3) else 1
def cwW (a : Co) (s : ByteArray) : ByteArray := if (coOk a && validB s) = true then (if (cwT a s s.size).2.length ≤ 2000 then ⟨(cwT a s s.size).2.toArray⟩ else ⟨#[]⟩) else ⟨#[]⟩
theorem cw_cases {a : Co} {s : ByteArray} (hco : coOk a = true) (hv : validB s = true) : ((cwT a s s.size).2.length ≤ 2000 ∧ cwW a s = ⟨(cwT a s s.size).2.toArray⟩ ∧ cwC a s = 0) ∨ (¬ (cwT a s s.size).2.length ≤ 2000 ∧ cwW a s = ⟨#[]⟩ ∧ cwC a s = 3) := by
  by_cases h : (cwT a s s.size).2.length ≤ 2000
  · exact .inl ⟨h, by rw [cwW, hco, hv]; simp [h], by rw [cwC, hco, hv]; simp [h]⟩
  · exact .inr ⟨h, by rw [cwW, hco, hv]; simp [h], by rw [cwC, hco, hv]; simp [h]⟩
theorem fr_bel {B : Nat} {w w' : World} (h : Fr (bMod B B) w w') (hB : B ≤ w.heap.size) : Below B w w' := h.below hB (fun k hk e => by rcases e with e | ⟨e, _⟩ <;> omega)
theorem byteCells_app (x : List UInt8) (z : ByteArray) : Lib.byteCells x ++ Lib.strCells z = Lib.byteCells (x ++ z.data.toList) := by simp [Lib.byteCells, Lib.strCells]
theorem i_CodeWord (u1 u2 : Value) (a : Co) (s : ByteArray) (w : World) (hs : coSm a) (h1 : InT w u1 a.nx) (h2 : InU w u2 a.ou) (hz : s.size ≤ 1048576) :
    Calls Try.prog 38 #[.agg #[.int .i64 a.st, .int .i64 a.sa, u1, u2], .string s] w fun e w' => e = .returned (.tuple #[.string (cwW a s), .int .i64 (cwC a s)]) ∧ Below w.heap.size w w' := by
  obtain ⟨an, cn, rfl⟩ := inT_sl h1
  obtain ⟨au, cu, rfl⟩ := inU_sl h2
  have hbx := (Below.refl w.heap.size w).alloc (Nat.le_refl _) (.cells #[.int .i64 a.st, .int .i64 a.sa, .slice an a.nx.length cn, .slice au a.ou.length cu] 42)
  have HV := Lib.hid (i_ValidCoder _ _ a _ hs (inT_below h1 hbx) (inU_below h2 hbx))
  have HW := Lib.hid (fun w => i_ValidWord s w (by unfold maxLen; omega))
  have HBX : Hid (∀ w', Below (w.alloc (.cells #[.int .i64 a.st, .int .i64 a.sa, .slice an a.nx.length cn, .slice au a.ou.length cu] 42)).heap.size (w.alloc (.cells #[.int .i64 a.st, .int .i64 a.sa, .slice an a.nx.length cn, .slice au a.ou.length cu] 42)) w' → Below w.heap.size w w') := fun w' h => below_box h
  have HI1 := Lib.hid (inT_below h1 hbx)
  have HI2 := Lib.hid (inU_below h2 hbx)
  clear h1 h2 hs hbx
  cases hco : coOk a
  · have e1 : cwW a s = ⟨#[]⟩ := by rw [cwW, hco]; simp
    have e2 : cwC a s = 1 := by rw [cwC, hco]; simp
    rw [e1, e2]
    rw [hco] at HV
    clear e1 e2 hco HI1 HI2 HW
    go_enter Try.func38, Try.ntmps38
    go_wp2_with fail
    refine (HV.out).mono ?_
    rintro e w2 ⟨rfl, hb2⟩
    have BF := HBX.out _ hb2
    clear hb2
    go_wp2
    go_ret2
    exact ⟨rfl, BF⟩
  · rw [hco] at HV
    cases hv : validB s
    · have e1 : cwW a s = ⟨#[]⟩ := by rw [cwW, hv]; simp
      have e2 : cwC a s = 1 := by rw [cwC, hv]; simp
      rw [e1, e2]
      rw [hv] at HW
      clear e1 e2 hco hv HI1 HI2
      go_enter Try.func38, Try.ntmps38
      go_wp2_with fail
      refine (HV.out).mono ?_
      rintro e w2 ⟨rfl, hb2⟩
      have BF := HBX.out _ hb2
      clear hb2
      go_wp2_with fail
      refine (HW.out _).mono ?_
      rintro e w3 ⟨rfl, rfl⟩
      go_wp2
      go_ret2
      exact ⟨rfl, BF⟩
    · rw [hv] at HW
      have HQ := Lib.hid (cw_cases hco hv)
      obtain ⟨f1, f2, f3, f4, f5, f6⟩ := coOk_facts hco
      have HBD := Lib.hid (cwT_bd hco hv)
      have HLI := Lib.hid (fun k hk => @lI_ok s k hv hk)
      have HNX := Lib.hid f5
      have HOX := Lib.hid f6
      have HOL : Hid (a.ou.length = a.nx.length) := by show _ = _; omega
      have h2000 : s.size ≤ 2000 := validB_le hv
      have HT0 : Hid (cwT a s 0 = (a.sa, [])) := rfl
      have HTS : Hid (∀ k, cwT a s (k + 1) = ((tA a.nx (cwT a s k).1.toNat).getD (lI s k) 0, (cwT a s k).2 ++ ((uA a.ou (cwT a s k).1.toNat).getD (lI s k) ⟨#[]⟩).data.toList)) := fun k => rfl
      generalize cwW a s = r1 at *
      generalize cwC a s = r2 at *
      generalize cwT a s = T at *
      clear hco hv f1 f2 f3 f4 f5 f6
      go_enter Try.func38, Try.ntmps38
      go_wp2_with fail
      refine (HV.out).mono ?_
      rintro e w2 ⟨rfl, hb2⟩
      have c1 : w2.cell? ⟨w.heap.size, 1, none⟩ = some (.int .i64 a.sa) := by rw [hb2.cell (by first | (simp; done) | (simp; omega))]; simp [go_sem]
      have c2 : w2.cell? ⟨w.heap.size, 2, none⟩ = some (.slice an a.nx.length cn) := by rw [hb2.cell (by first | (simp; done) | (simp; omega))]; simp [go_sem]
      have c3 : w2.cell? ⟨w.heap.size, 3, none⟩ = some (.slice au a.ou.length cu) := by rw [hb2.cell (by first | (simp; done) | (simp; omega))]; simp [go_sem]
      have HJ1 := Lib.hid (inT_below HI1.out hb2)
      have HJ2 := Lib.hid (inU_below HI2.out hb2)
      clear HI1 HI2
      have HB2 := Lib.hid (HBX.out _ hb2)
      have hsz0 : w.heap.size < w2.heap.size := World.block_lt_of_cell? _ _ c1
      clear hb2 HBX
      go_wp2_with fail
      refine (HW.out _).mono ?_
      rintro e w3 ⟨rfl, rfl⟩
      have hbu := (Below.refl w2.heap.size w2).alloc (Nat.le_refl _) (.cells #[.pointer none, .slice none 0 0] 105)
      have HBU := Lib.hid hbu.drew
      have HQ0 : Hid (Lib.IsBuilder 105 5 w2.heap.size w2.heap.size (Lib.byteCells ([] : List UInt8)) (w2.alloc (.cells #[.pointer none, .slice none 0 0] 105)).drew) := by
        refine .inl ⟨Nat.le_refl _, .slice none 0 0, ?_, World.ownsRow_nil _ _ _ _, by simp [Value.ownBlock]⟩
        exact heap_alloc_new w2 (.cells #[.pointer none, .slice none 0 0] 105)
      have HP0 := Lib.hid (HBD.out 0 (Nat.zero_le _))
      clear hbu
      go_wp2
      go_region
      go_wp2
      go_loopw [7, 8, 9, 23] (fun st _ _ i wr => Below w2.heap.size w2 wr ∧ ∃ k : Nat, k ≤ s.size ∧ i = .int .i64 k ∧ st = .int .i64 (T k).1 ∧ Lib.IsBuilder 105 5 w2.heap.size w2.heap.size (Lib.byteCells (T k).2) wr) (fun _ _ _ i _ => s.size - (intOf i).toNat)
      case atStart => exact ⟨HBU.out, 0, by omega, rfl, by rw [HT0.out], by rw [HT0.out]; exact HQ0.out⟩
      case round =>
        obtain ⟨hb, k, hk, rfl, rfl, hq⟩ := hrel
        have HB := Lib.hid hb
        have HQK := Lib.hid hq
        have hsz1 : w2.heap.size ≤ wr.heap.size := hb.size
        by_cases hlt : k < s.size
        · have hin : ((k : Nat) : Int) < s.size := by omega
          obtain ⟨b1, b2, b3⟩ := HBD.out k hk
          obtain ⟨hc4, hcv⟩ := HLI.out k hlt
          obtain ⟨c, hc⟩ : ∃ c, lI s k = c := ⟨_, rfl⟩
          have HEV := Lib.hid (HTS.out k)
          rw [hc] at hc4 hcv HEV
          obtain ⟨p, hp⟩ := Int.eq_ofNat_of_zero_le b1
          rw [hp] at HEV b2 ⊢
          simp only [Int.toNat_natCast] at HEV
          have hpn : p < a.nx.length := by omega
          have hpI : (p : Int) < a.nx.length := b2
          have hol := HOL.out
          have hpU : (p : Int) < a.ou.length := by omega
          have hci : (c : Int) < 4 := by omega
          have hx0 : (s[k].toNat : Int) = 97 + (c : Int) := by omega
          have hw8 : IntKind.u8.wrap (97 + (c : Int) - 97) = (c : Int) := by rw [show 97 + (c : Int) - 97 = (c : Int) by omega]; exact wrap_u8 (by omega) (by omega)
          have hw9 : IntKind.u8.wrap (c : Int) = (c : Int) := wrap_u8 (by omega) (by omega)
          obtain ⟨bt, ot, rfl, hlt0, hall⟩ := inU_all HJ2.out (by omega)
          obtain ⟨rp, cp, hcp, hip⟩ := hall p (by omega)
          have ho := HOX.out p (by omega)
          obtain ⟨gp, fp, rfl, hlt1, hvp⟩ := inS_at hip (show c < (uA a.ou p).length by omega)
          rw [ho.1] at hcp
          obtain ⟨bm, om, rfl, hltm, hall2⟩ := inT_all HJ1.out (by omega)
          obtain ⟨rm, cm, hcm, him⟩ := hall2 p hpn
          have hn := HNX.out p hpn
          obtain ⟨gm, fm, rfl, hlt3, hvm⟩ := inI_at him (show c < (tA a.nx p).length by have := hn.1; omega)
          rw [hn.1] at hcm
          have h6 := (ho.2 c hc4).1
          have d2 := cell_later hb c2
          have d3 := cell_later hb c3
          have hcp := cell_later hb hcp
          have hvp := cell_later hb hvp
          have hcm := cell_later hb hcm
          have hvm := cell_later hb hvm
          have HWS := Lib.hid (i_WriteString w2.heap.size w2.heap.size _ ((uA a.ou p).getD c ⟨#[]⟩) wr hq (by rw [Lib.byteCells_length]; omega) hsz1)
          rw [byteCells_app] at HWS
          have HB3 : Hid ((T k).2.length ≤ 6 * k) := b3
          clear hall hip hall2 him hn ho b1 b3 hc hcv hp hq hb hol h6
          generalize (T k).2 = bs at *
          generalize (uA a.ou p).getD c ⟨#[]⟩ = z at *
          generalize (tA a.nx p).getD c 0 = y at *
          go_wp2_with fail
          refine HWS.out.mono ?_
          rintro e w4 ⟨rfl, Q4, F4⟩
          have F5 := fr_bel F4 hsz1
          have HB4 := Lib.hid (HB.out.trans F5)
          have HQ4 := Lib.hid Q4
          have lt2 := World.block_lt_of_cell? _ _ c2
          have d2 : w4.cell? ⟨w.heap.size, 2, none⟩ = some (.slice (some ⟨bm, om, none⟩) a.nx.length cn) := by rw [F5.cell (by simpa using lt2)]; exact d2
          have hcm : w4.cell? ⟨bm, om + p, none⟩ = some (.slice (some ⟨gm, fm, none⟩) 4 cm) := by rw [F5.cell (by simpa using hltm)]; exact hcm
          have hvm : w4.cell? ⟨gm, fm + c, none⟩ = some (.int .i64 y) := by rw [F5.cell (by simpa using hlt3)]; exact hvm
          clear F4 F5 Q4 HWS d3 hcp hvp lt2
          go_wp2
          go_roundw
          case rel => exact ⟨HB4.out, k + 1, by omega, by go_num, by rw [HEV.out], by rw [HEV.out]; exact .inr HQ4.out⟩
          case measure => first | (simp [intOf]; done) | (simp [intOf]; omega)
        · have ek : k = s.size := by omega
          subst ek
          have hk' : ¬ (s.size : Int) < s.size := by omega
          have HLN := Lib.hid (fun w h => Try.Builder_Len w2.heap.size w2.heap.size (Lib.byteCells (T s.size).2) w h)
          rw [Lib.byteCells_length] at HLN
          have HST := Lib.hid (fun w h hb => Try.Builder_String_any w2.heap.size w2.heap.size (T s.size).2 w h hb)
          have BF := HB2.out.trans (hb.mono HB2.out.size)
          have HBF := Lib.hid BF
          clear hb BF hq
          rcases HQ.out with ⟨hl, e1, e2⟩ | ⟨hl, e1, e2⟩
          · subst e1
            subst e2
            have hl1 : decide ((2000 : Int) < ((T s.size).2.length : Int)) = false := by rw [decide_eq_false_iff_not]; omega
            generalize hbs : (T s.size).2 = bs at *
            go_wp2_with fail
            refine (HLN.out _ HQK.out).mono ?_
            rintro e w5 ⟨rfl, rfl⟩
            go_wp2_with fail
            refine (HST.out _ HQK.out hsz1).mono ?_
            rintro e w6 ⟨rfl, hb6⟩
            have BG := HBF.out.trans (hb6.mono HB2.out.size)
            clear hb6
            go_wp2
            go_ret2
            exact ⟨by subst hbs; rfl, BG⟩
          · subst e1
            subst e2
            have hl1 : decide ((2000 : Int) < ((T s.size).2.length : Int)) = true := by rw [decide_eq_true_iff]; omega
            generalize (T s.size).2 = bs at *
            go_wp2_with fail
            refine (HLN.out _ HQK.out).mono ?_
            rintro e w5 ⟨rfl, rfl⟩
            go_wp2
            go_ret2
            exact ⟨rfl, HBF.out⟩
end Go.Proofs.Ytefcdkgfabaffaa

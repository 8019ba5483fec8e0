/- NotAuto of the reference; the law. -/
import Derived.Test.YtefcdkgfabaffaaKS
namespace Go.Proofs.Ytefcdkgfabaffaa
open Go.ChangeShapes Go.WideShapes Go.RowKit
set_option linter.unusedVariables false
set_option linter.unusedSimpArgs false
set_option maxHeartbeats 4000000
set_option maxRecDepth 100000
theorem s_NotAuto (u1 u2 : Value) (a : Au) (w : World) (hs : auSm a) (h1 : InI w u1 a.fi) (h2 : InT w u2 a.nx) :
    Calls Try.prog 35 #[.agg #[.int .i64 a.st, .int .i64 a.sa, u1, u2]] w fun e w' => ∃ x1 x2 vs, e = .returned (.tuple #[.agg #[.int .i64 (naR a).st, .int .i64 (naR a).sa, x1, x2], .int .i64 (naC a)]) ∧ AuR w.heap.size w' x1 x2 vs (naR a) ∧ Below w.heap.size w w' := by
  obtain ⟨a1, k1, rfl⟩ := inI_sl h1
  obtain ⟨a2, k2, rfl⟩ := inT_sl h2
  have hbx := ((Below.refl w.heap.size w).alloc (Nat.le_refl _) (.cells #[.int .i64 a.st, .int .i64 a.sa, .slice a1 a.fi.length k1, .slice a2 a.nx.length k2] 28)).alloc (by simp) (.cells #[.int .i64 0, .int .i64 0, .slice none 0 0, .slice none 0 0] 28)
  have HV := Lib.hid (s_l04Ok w.heap.size 0 _ _ a _ hs (by simp [go_sem]) (by simp [go_sem]) (by simp [go_sem]) (by simp [go_sem]) (inI_below h1 hbx) (inT_below h2 hbx))
  have HI1 := Lib.hid (inI_below h1 hbx)
  have HI2 := Lib.hid (inT_below h2 hbx)
  have HBX := Lib.hid hbx
  clear h1 h2 hbx
  cases hao : auOk a
  · have e1 : naR a = ⟨0, 0, [], []⟩ := by rw [naR, hao]; simp
    have e2 : naC a = 1 := by rw [naC, hao]; simp
    rw [e1, e2]
    rw [hao] at HV
    clear e1 e2 hao HI1 HI2 hs
    go_enter Try.func35, Try.ntmps35
    go_wp2_with fail
    refine (HV.out).mono ?_
    rintro e w2 ⟨rfl, q2, rfl⟩
    have hb2 := below_drewN (Below.refl ((w.alloc (.cells #[.int .i64 a.st, .int .i64 a.sa, .slice a1 a.fi.length k1, .slice a2 a.nx.length k2] 28)).alloc (.cells #[.int .i64 0, .int .i64 0, .slice none 0 0, .slice none 0 0] 28)).heap.size ((w.alloc (.cells #[.int .i64 a.st, .int .i64 a.sa, .slice a1 a.fi.length k1, .slice a2 a.nx.length k2] 28)).alloc (.cells #[.int .i64 0, .int .i64 0, .slice none 0 0, .slice none 0 0] 28))) q2
    clear HV
    generalize ((w.alloc (.cells #[.int .i64 a.st, .int .i64 a.sa, .slice a1 a.fi.length k1, .slice a2 a.nx.length k2] 28)).alloc (.cells #[.int .i64 0, .int .i64 0, .slice none 0 0, .slice none 0 0] 28)).drewN q2 = w2 at *
    have HBB := Lib.hid (HBX.out.trans (hb2.mono HBX.out.size))
    have z0 : w2.cell? ⟨w.heap.size + 1, 0, none⟩ = some (.int .i64 0) := by rw [hb2.cell (by first | (simp; done) | (simp; omega))]; simp [go_sem]
    have z1 : w2.cell? ⟨w.heap.size + 1, 1, none⟩ = some (.int .i64 0) := by rw [hb2.cell (by first | (simp; done) | (simp; omega))]; simp [go_sem]
    have z2 : w2.cell? ⟨w.heap.size + 1, 2, none⟩ = some (.slice none 0 0) := by rw [hb2.cell (by first | (simp; done) | (simp; omega))]; simp [go_sem]
    have z3 : w2.cell? ⟨w.heap.size + 1, 3, none⟩ = some (.slice none 0 0) := by rw [hb2.cell (by first | (simp; done) | (simp; omega))]; simp [go_sem]
    have fz : ∀ j, w2.frozen? ⟨w.heap.size + 1, j, none⟩ = false := fun j => by rw [hb2.frozen (by first | (simp; done) | (simp; omega))]; simp [go_sem]
    clear hb2 HBX
    have HP := Lib.hid (put4 (w := w2) (b := w.heap.size + 1) (.int .i64 0) (.int .i64 0) (.slice none 0 0) (.slice none 0 0) z0 z1 z2 z3)
    go_wp2
    have hP := HP.out
    refine bodyPost_ret (v := .tuple #[.agg #[.int .i64 0, .int .i64 0, .slice none 0 0, .slice none 0 0], .int .i64 1]) (by simp [results, Try.results35, go_sem, hP.1, hP.2.1, hP.2.2.1, hP.2.2.2]) rfl ⟨_, _, _, rfl, auR_nil _ _, ?_⟩
    exact (((HBB.out.setCell (p := ⟨w.heap.size + 1, 0, none⟩) (by first | (simp; done) | (simp; omega)) _).setCell (p := ⟨w.heap.size + 1, 1, none⟩) (by first | (simp; done) | (simp; omega)) _).setCell (p := ⟨w.heap.size + 1, 2, none⟩) (by first | (simp; done) | (simp; omega)) _).setCell (p := ⟨w.heap.size + 1, 3, none⟩) (by first | (simp; done) | (simp; omega)) _
  · have e1 : naR a = ⟨a.st, a.sa, nfL a.fi a.st.toNat, a.nx⟩ := by rw [naR, hao]; simp
    have e2 : naC a = 0 := by rw [naC, hao]; simp
    rw [e1, e2]
    rw [hao] at HV
    obtain ⟨f1, f2, f3, f4, f5⟩ := auOk_facts hao
    have HCT := Lib.hid (fun w h => s_l04Rows (.slice a2 a.nx.length k2) a.nx w (by omega) (fun k hk => (f5 k hk).1) h)
    have HCN := Lib.hid (fun x w h => s_l00Has (.slice a1 a.fi.length k1) a.fi x w hs.1 h)
    obtain ⟨n, hn⟩ := Int.eq_ofNat_of_zero_le (show 0 ≤ a.st by omega)
    have hn24 : n ≤ 24 := by omega
    have HN := Lib.hid hn
    clear e1 e2 hao hs f1 f2 f3 f4 f5 hn
    go_enter Try.func35, Try.ntmps35
    go_wp2_with fail
    refine (HV.out).mono ?_
    rintro e w2 ⟨rfl, q2, rfl⟩
    have hb2 := below_drewN (Below.refl ((w.alloc (.cells #[.int .i64 a.st, .int .i64 a.sa, .slice a1 a.fi.length k1, .slice a2 a.nx.length k2] 28)).alloc (.cells #[.int .i64 0, .int .i64 0, .slice none 0 0, .slice none 0 0] 28)).heap.size ((w.alloc (.cells #[.int .i64 a.st, .int .i64 a.sa, .slice a1 a.fi.length k1, .slice a2 a.nx.length k2] 28)).alloc (.cells #[.int .i64 0, .int .i64 0, .slice none 0 0, .slice none 0 0] 28))) q2
    clear HV
    generalize ((w.alloc (.cells #[.int .i64 a.st, .int .i64 a.sa, .slice a1 a.fi.length k1, .slice a2 a.nx.length k2] 28)).alloc (.cells #[.int .i64 0, .int .i64 0, .slice none 0 0, .slice none 0 0] 28)).drewN q2 = w2 at *
    have HBB := Lib.hid (HBX.out.trans (hb2.mono HBX.out.size))
    have z0 : w2.cell? ⟨w.heap.size + 1, 0, none⟩ = some (.int .i64 0) := by rw [hb2.cell (by first | (simp; done) | (simp; omega))]; simp [go_sem]
    have z1 : w2.cell? ⟨w.heap.size + 1, 1, none⟩ = some (.int .i64 0) := by rw [hb2.cell (by first | (simp; done) | (simp; omega))]; simp [go_sem]
    have z2 : w2.cell? ⟨w.heap.size + 1, 2, none⟩ = some (.slice none 0 0) := by rw [hb2.cell (by first | (simp; done) | (simp; omega))]; simp [go_sem]
    have z3 : w2.cell? ⟨w.heap.size + 1, 3, none⟩ = some (.slice none 0 0) := by rw [hb2.cell (by first | (simp; done) | (simp; omega))]; simp [go_sem]
    have fz : ∀ j, w2.frozen? ⟨w.heap.size + 1, j, none⟩ = false := fun j => by rw [hb2.frozen (by first | (simp; done) | (simp; omega))]; simp [go_sem]
    have c0 : w2.cell? ⟨w.heap.size, 0, none⟩ = some (.int .i64 a.st) := by rw [hb2.cell (by first | (simp; done) | (simp; omega))]; simp [go_sem]
    have c1 : w2.cell? ⟨w.heap.size, 1, none⟩ = some (.int .i64 a.sa) := by rw [hb2.cell (by first | (simp; done) | (simp; omega))]; simp [go_sem]
    have c2 : w2.cell? ⟨w.heap.size, 2, none⟩ = some (.slice a1 a.fi.length k1) := by rw [hb2.cell (by first | (simp; done) | (simp; omega))]; simp [go_sem]
    have c3 : w2.cell? ⟨w.heap.size, 3, none⟩ = some (.slice a2 a.nx.length k2) := by rw [hb2.cell (by first | (simp; done) | (simp; omega))]; simp [go_sem]
    have j1 := inI_below HI1.out hb2
    have j2 := inT_below HI2.out hb2
    have HJ1 := Lib.hid j1
    have hw2 : w.heap.size + 1 < w2.heap.size := World.block_lt_of_cell? _ _ z0
    clear hb2 HBX HI1 HI2
    go_wp2
    go_region_held3 (fun w' => Below w2.heap.size w2 w' ∧ w'.cell? ⟨w.heap.size, 0, none⟩ = some (.int .i64 a.st) ∧ w'.cell? ⟨w.heap.size, 1, none⟩ = some (.int .i64 a.sa) ∧ w'.cell? ⟨w.heap.size, 3, none⟩ = some (.slice a2 a.nx.length k2))
      (first | (go_split_ands; refine ⟨?_, cell_later ?_ c0, cell_later ?_ c1, cell_later ?_ c3⟩ <;> (repeat (first | exact hq | exact Below.refl _ _ | apply Below.drew | (refine Below.alloc ?_ (by first | exact Nat.le_refl _ | exact hq.size | (simp; done) | (simp; omega)) _) | (refine Below.setCell ?_ (by first | (simp; done) | (simp; omega)) _)))))
      (first | (go_at_call 89; refine (HCT.out _ (inT_below j2 (((Below.refl _ _).alloc (Nat.le_refl _) _).drew))).mono ?_; rintro e wA ⟨vT, rfl, hoT, hbA⟩; have hq : Below w2.heap.size w2 wA := ((((Below.refl _ _).alloc (Nat.le_refl _) _).drew).trans (hbA.mono (by simp))); have y0 : wA.cell? ⟨w2.heap.size, 0, none⟩ = some (.int .i64 0) := (by rw [hbA.cell (by simp)]; simp [go_sem]); have y1 : wA.cell? ⟨w2.heap.size, 1, none⟩ = some (.int .i64 0) := (by rw [hbA.cell (by simp)]; simp [go_sem]); have y2 : wA.cell? ⟨w2.heap.size, 2, none⟩ = some (.slice none 0 0) := (by rw [hbA.cell (by simp)]; simp [go_sem]); have y3 : wA.cell? ⟨w2.heap.size, 3, none⟩ = some (.slice none 0 0) := (by rw [hbA.cell (by simp)]; simp [go_sem]); have fy : ∀ j, wA.frozen? ⟨w2.heap.size, j, none⟩ = false := (fun j => by rw [hbA.frozen (by simp)]; simp [go_sem]); obtain ⟨aT, cT, rfl⟩ := inT_sl (ownT_in hoT)) | (go_at_call 89; refine (HCT.out _ (by first | exact j2 | exact inT_below j2 (Below.drew (Below.refl _ _)))).mono ?_; rintro e wA ⟨vT, rfl, hoT, hbA⟩; have hq : Below w2.heap.size w2 wA := Below.trans (Below.drew (Below.refl _ _)) hbA; obtain ⟨aT, cT, rfl⟩ := inT_sl (ownT_in hoT)))
    · rename_i hS
      go_wp2
      refine gen_world2 (fun wz => ∃ vs, naF wA.heap.size w2 wz a.st a.sa (.slice none 0 0) (.slice aT a.nx.length cT) vs a.nx) (naF_A hq hoT ⟨_, _, _, rfl⟩) ?_
      intro wz hz
      obtain ⟨vs, hF⟩ := hz
      generalize wA.heap.size = bx at *
      clear hbA hq hoT hS
      obtain ⟨F1, ⟨F20, F21, F22, F23⟩, F3, F4, F5, F6, F7, F8⟩ := hF
      have hF : naF bx w2 wz a.st a.sa (.slice none 0 0) (.slice aT a.nx.length cT) vs a.nx := ⟨F1, ⟨F20, F21, F22, F23⟩, F3, F4, F5, F6, F7, F8⟩
      have HVL : Hid (∀ b, (Value.slice aT a.nx.length cT).ownBlock = some b → b < wz.heap.size) := fun b hb => (F4.2.1.lt b hb).2
      have HRL : Hid (∀ i, i < a.nx.length → ∀ b, (vs.getD i undef).ownBlock = some b → b < wz.heap.size) := fun i hi b hb => ((F4.2.2.1 i hi).lt b hb).2
      have HF0 := Lib.hid hF
      have hwz := F1.size
      have HC2 := Lib.hid c2
      have HC0 := Lib.hid c0
      have HZ : Hid (w2.cell? ⟨w.heap.size + 1, 0, none⟩ = some (.int .i64 0) ∧ w2.cell? ⟨w.heap.size + 1, 1, none⟩ = some (.int .i64 0) ∧ w2.cell? ⟨w.heap.size + 1, 2, none⟩ = some (.slice none 0 0) ∧ w2.cell? ⟨w.heap.size + 1, 3, none⟩ = some (.slice none 0 0)) := ⟨z0, z1, z2, z3⟩
      have HFZ := Lib.hid fz
      clear F1 F20 F21 F22 F23 F3 F4 F5 F6 F7 hF c0 c1 c2 c3 j1 j2 z0 z1 z2 z3 fz
      go_loopw [5] (fun i wr => ∃ k : Nat, k ≤ n ∧ i = .int .i64 k ∧ wz.heap.size ≤ wr.heap.size ∧ ∃ f, naF bx w2 wr a.st a.sa f (.slice aT a.nx.length cT) vs a.nx ∧ wr.ownsRow wz.heap.size 2 1 f (nfL a.fi k).length (iv (nfL a.fi k))) (fun i _ => n - (intOf i).toNat)
      case atStart => exact ⟨0, by omega, rfl, Nat.le_refl _, _, HF0.out, World.ownsRow_nil _ _ _ _⟩
      case round =>
        obtain ⟨k, hk, rfl, hsz, f, hF, ho⟩ := hrel
        have HFK := Lib.hid hF
        obtain ⟨F1, ⟨F20, F21, F22, F23⟩, F3, F4, F5, F6, F7, F8'⟩ := hF
        have d2 := cell_later F1 HC2.out
        have d0 := cell_later F1 HC0.out
        have hst := HN.out
        obtain ⟨af, cf, rfl, -, -⟩ := owns_sl3 ho
        have hw2b : w.heap.size + 1 < wr.heap.size := by have := F1.size; omega
        by_cases hlt : k < n
        · have hin : ((k : Nat) : Int) < a.st := by omega
          have hin2 : decide ((k : Int) < a.st) = true := by rw [decide_eq_true_iff]; exact hin
          have hw : IntKind.i64.wrap ((k : Int) + 1) = ((k + 1 : Nat) : Int) := by rw [IntWalk.i64_in _ (by omega)]; omega
          have HCK := Lib.hid (HCN.out (k : Int) wr (inI_below HJ1.out F1))
          have hnl := nfL_len a.fi k
          have HO := Lib.hid ho
          clear F1 F20 F21 F23 F4 F5 F6 hst
          cases hct : a.fi.contains (k : Int)
          · have HS : Hid (nfL a.fi (k + 1) = nfL a.fi k ++ [(k : Int)]) := by show _ = _; rw [nfL, hct]; simp
            rw [hct] at HCK
            generalize nfL a.fi k = L at *
            go_wp2_with fail
            refine (HCK.out).mono ?_
            rintro e w3 ⟨rfl, rfl⟩
            have F32 := F3 2
            go_wp2_with (at_builtin; refine app_i64 rfl (.tmp 29) (.tmp 31) rfl wz.heap.size _ _ _ _ _ _ rfl ho rfl (by simp) (by omega) (by simpa using hsz) ?_; intro v' w4 ho4 hb4 hsz4; have g2 := (hb4.cell (p := ⟨bx, 2, none⟩) F8).trans F22; have g2f := (hb4.frozen (p := ⟨bx, 2, none⟩) F8).trans F32; obtain ⟨af2, cf2, rfl, -, -⟩ := owns_sl3 ho4)
            have hfin := ownsRow_setCell_below ho4 (a := ⟨bx, 2, none⟩) F8 (.slice af2 (L.length + 1) cf2)
            have HFIN := Lib.hid hfin
            have HB4 := Lib.hid hb4
            clear g2 g2f hb4 ho4 hfin ho d2 d0 F22 F3 F32
            go_roundw
            case rel => exact ⟨k + 1, by omega, by go_num, by simpa using (show wz.heap.size ≤ w4.heap.size by omega), _, naF_app HFK.out HB4.out F8 hwz HVL.out HRL.out, by rw [HS.out]; simpa [iv] using HFIN.out⟩
            case measure => first | (simp [intOf]; done) | (simp [intOf]; omega)
          · have HS : Hid (nfL a.fi (k + 1) = nfL a.fi k) := by show _ = _; rw [nfL, hct]; simp
            rw [hct] at HCK
            clear F3 F22
            go_wp2_with fail
            refine (HCK.out).mono ?_
            rintro e w3 ⟨rfl, rfl⟩
            go_wp2
            go_roundw
            case rel => exact ⟨k + 1, by omega, by go_num, hsz, _, HFK.out, by rw [HS.out]; exact HO.out⟩
            case measure => first | (simp [intOf]; done) | (simp [intOf]; omega)
        · have ek : k = n := by omega
          have hin2 : decide ((k : Int) < a.st) = false := by rw [decide_eq_false_iff_not]; omega
          have q0 := cell_later F1 HZ.out.1
          have q1 := cell_later F1 HZ.out.2.1
          have q2 := cell_later F1 HZ.out.2.2.1
          have q3 := cell_later F1 HZ.out.2.2.2
          have qf : ∀ j, wr.frozen? ⟨w.heap.size + 1, j, none⟩ = false := fun j => by rw [F1.frozen (by simpa using hw2)]; exact HFZ.out j
          have HP := Lib.hid (put4 (w := wr) (b := w.heap.size + 1) (.int .i64 a.st) (.int .i64 a.sa) (.slice af (nfL a.fi k).length cf) (.slice aT a.nx.length cT) q0 q1 q2 q3)
          have HAU : Hid (AuR w2.heap.size wr (.slice af (nfL a.fi k).length cf) (.slice aT a.nx.length cT) vs ⟨a.st, a.sa, nfL a.fi k, a.nx⟩) := by
            refine ⟨owns_weak ho hwz, F4, fun b hb => ⟨fun e => ?_, fun i hi e => ?_⟩⟩
            · have h1 := (ho.lt b hb).1
              have h2 := HVL.out b e
              omega
            · have h1 := (ho.lt b hb).1
              have h2 := HRL.out i hi b e
              omega
          have HBF := Lib.hid (HBB.out.trans (F1.mono HBB.out.size))
          have HNK : Hid (a.st.toNat = k) := by show _ = _; omega
          have q00 := qf 0
          have q01 := qf 1
          have q02 := qf 2
          have q03 := qf 3
          clear hst hlt ek F1 F3 F4 F5 F6 ho d2
          go_wp2
          have hP := HP.out
          refine bodyPost_ret (v := .tuple #[.agg #[.int .i64 a.st, .int .i64 a.sa, .slice af (nfL a.fi k).length cf, .slice aT a.nx.length cT], .int .i64 0]) (by simp [results, Try.results35, go_sem, hP.1, hP.2.1, hP.2.2.1, hP.2.2.2]) rfl ⟨_, _, vs, rfl, ?_, ?_⟩
          · rw [HNK.out]
            refine auR_weak (auR_gp (P := fun b => b = w.heap.size + 1) HAU.out (Gp.ofSet.trans (Gp.ofSet.trans (Gp.ofSet.trans Gp.ofSet))) (fun b hb h => by omega)) (by omega)
          · exact (((HBF.out.setCell (p := ⟨w.heap.size + 1, 0, none⟩) (by first | (simp; done) | (simp; omega)) _).setCell (p := ⟨w.heap.size + 1, 1, none⟩) (by first | (simp; done) | (simp; omega)) _).setCell (p := ⟨w.heap.size + 1, 2, none⟩) (by first | (simp; done) | (simp; omega)) _).setCell (p := ⟨w.heap.size + 1, 3, none⟩) (by first | (simp; done) | (simp; omega)) _
    · rename_i hS
      go_wp2
      refine gen_world2 (fun wz => ∃ vs, naF w2.heap.size w2 wz a.st a.sa (.slice none 0 0) (.slice aT a.nx.length cT) vs a.nx) (naF_B hq hoT (by simp) (Nat.le_refl _) y0 y1 y2 y3 fy) ?_
      intro wz hz
      obtain ⟨vs, hF⟩ := hz
      obtain ⟨bx, hbx⟩ : ∃ b, b = w2.heap.size := ⟨_, rfl⟩
      rw [← hbx] at hF ⊢
      clear hbA hq hoT hS y0 y1 y2 y3 fy hbx
      obtain ⟨F1, ⟨F20, F21, F22, F23⟩, F3, F4, F5, F6, F7, F8⟩ := hF
      have hF : naF bx w2 wz a.st a.sa (.slice none 0 0) (.slice aT a.nx.length cT) vs a.nx := ⟨F1, ⟨F20, F21, F22, F23⟩, F3, F4, F5, F6, F7, F8⟩
      have HVL : Hid (∀ b, (Value.slice aT a.nx.length cT).ownBlock = some b → b < wz.heap.size) := fun b hb => (F4.2.1.lt b hb).2
      have HRL : Hid (∀ i, i < a.nx.length → ∀ b, (vs.getD i undef).ownBlock = some b → b < wz.heap.size) := fun i hi b hb => ((F4.2.2.1 i hi).lt b hb).2
      have HF0 := Lib.hid hF
      have hwz := F1.size
      have HC2 := Lib.hid c2
      have HC0 := Lib.hid c0
      have HZ : Hid (w2.cell? ⟨w.heap.size + 1, 0, none⟩ = some (.int .i64 0) ∧ w2.cell? ⟨w.heap.size + 1, 1, none⟩ = some (.int .i64 0) ∧ w2.cell? ⟨w.heap.size + 1, 2, none⟩ = some (.slice none 0 0) ∧ w2.cell? ⟨w.heap.size + 1, 3, none⟩ = some (.slice none 0 0)) := ⟨z0, z1, z2, z3⟩
      have HFZ := Lib.hid fz
      clear F1 F20 F21 F22 F23 F3 F4 F5 F6 F7 hF c0 c1 c2 c3 j1 j2 z0 z1 z2 z3 fz
      go_loopw [5] (fun i wr => ∃ k : Nat, k ≤ n ∧ i = .int .i64 k ∧ wz.heap.size ≤ wr.heap.size ∧ ∃ f, naF bx w2 wr a.st a.sa f (.slice aT a.nx.length cT) vs a.nx ∧ wr.ownsRow wz.heap.size 2 1 f (nfL a.fi k).length (iv (nfL a.fi k))) (fun i _ => n - (intOf i).toNat)
      case atStart => exact ⟨0, by omega, rfl, Nat.le_refl _, _, HF0.out, World.ownsRow_nil _ _ _ _⟩
      case round =>
        obtain ⟨k, hk, rfl, hsz, f, hF, ho⟩ := hrel
        have HFK := Lib.hid hF
        obtain ⟨F1, ⟨F20, F21, F22, F23⟩, F3, F4, F5, F6, F7, F8'⟩ := hF
        have d2 := cell_later F1 HC2.out
        have d0 := cell_later F1 HC0.out
        have hst := HN.out
        obtain ⟨af, cf, rfl, -, -⟩ := owns_sl3 ho
        have hw2b : w.heap.size + 1 < wr.heap.size := by have := F1.size; omega
        by_cases hlt : k < n
        · have hin : ((k : Nat) : Int) < a.st := by omega
          have hin2 : decide ((k : Int) < a.st) = true := by rw [decide_eq_true_iff]; exact hin
          have hw : IntKind.i64.wrap ((k : Int) + 1) = ((k + 1 : Nat) : Int) := by rw [IntWalk.i64_in _ (by omega)]; omega
          have HCK := Lib.hid (HCN.out (k : Int) wr (inI_below HJ1.out F1))
          have hnl := nfL_len a.fi k
          have HO := Lib.hid ho
          clear F1 F20 F21 F23 F4 F5 F6 hst
          cases hct : a.fi.contains (k : Int)
          · have HS : Hid (nfL a.fi (k + 1) = nfL a.fi k ++ [(k : Int)]) := by show _ = _; rw [nfL, hct]; simp
            rw [hct] at HCK
            generalize nfL a.fi k = L at *
            go_wp2_with fail
            refine (HCK.out).mono ?_
            rintro e w3 ⟨rfl, rfl⟩
            have F32 := F3 2
            go_wp2_with (at_builtin; refine app_i64 rfl (.tmp 29) (.tmp 31) rfl wz.heap.size _ _ _ _ _ _ rfl ho rfl (by simp) (by omega) (by simpa using hsz) ?_; intro v' w4 ho4 hb4 hsz4; have g2 := (hb4.cell (p := ⟨bx, 2, none⟩) F8).trans F22; have g2f := (hb4.frozen (p := ⟨bx, 2, none⟩) F8).trans F32; obtain ⟨af2, cf2, rfl, -, -⟩ := owns_sl3 ho4)
            have hfin := ownsRow_setCell_below ho4 (a := ⟨bx, 2, none⟩) F8 (.slice af2 (L.length + 1) cf2)
            have HFIN := Lib.hid hfin
            have HB4 := Lib.hid hb4
            clear g2 g2f hb4 ho4 hfin ho d2 d0 F22 F3 F32
            go_roundw
            case rel => exact ⟨k + 1, by omega, by go_num, by simpa using (show wz.heap.size ≤ w4.heap.size by omega), _, naF_app HFK.out HB4.out F8 hwz HVL.out HRL.out, by rw [HS.out]; simpa [iv] using HFIN.out⟩
            case measure => first | (simp [intOf]; done) | (simp [intOf]; omega)
          · have HS : Hid (nfL a.fi (k + 1) = nfL a.fi k) := by show _ = _; rw [nfL, hct]; simp
            rw [hct] at HCK
            clear F3 F22
            go_wp2_with fail
            refine (HCK.out).mono ?_
            rintro e w3 ⟨rfl, rfl⟩
            go_wp2
            go_roundw
            case rel => exact ⟨k + 1, by omega, by go_num, hsz, _, HFK.out, by rw [HS.out]; exact HO.out⟩
            case measure => first | (simp [intOf]; done) | (simp [intOf]; omega)
        · have ek : k = n := by omega
          have hin2 : decide ((k : Int) < a.st) = false := by rw [decide_eq_false_iff_not]; omega
          have q0 := cell_later F1 HZ.out.1
          have q1 := cell_later F1 HZ.out.2.1
          have q2 := cell_later F1 HZ.out.2.2.1
          have q3 := cell_later F1 HZ.out.2.2.2
          have qf : ∀ j, wr.frozen? ⟨w.heap.size + 1, j, none⟩ = false := fun j => by rw [F1.frozen (by simpa using hw2)]; exact HFZ.out j
          have HP := Lib.hid (put4 (w := wr) (b := w.heap.size + 1) (.int .i64 a.st) (.int .i64 a.sa) (.slice af (nfL a.fi k).length cf) (.slice aT a.nx.length cT) q0 q1 q2 q3)
          have HAU : Hid (AuR w2.heap.size wr (.slice af (nfL a.fi k).length cf) (.slice aT a.nx.length cT) vs ⟨a.st, a.sa, nfL a.fi k, a.nx⟩) := by
            refine ⟨owns_weak ho hwz, F4, fun b hb => ⟨fun e => ?_, fun i hi e => ?_⟩⟩
            · have h1 := (ho.lt b hb).1
              have h2 := HVL.out b e
              omega
            · have h1 := (ho.lt b hb).1
              have h2 := HRL.out i hi b e
              omega
          have HBF := Lib.hid (HBB.out.trans (F1.mono HBB.out.size))
          have HNK : Hid (a.st.toNat = k) := by show _ = _; omega
          have q00 := qf 0
          have q01 := qf 1
          have q02 := qf 2
          have q03 := qf 3
          clear hst hlt ek F1 F3 F4 F5 F6 ho d2
          go_wp2
          have hP := HP.out
          refine bodyPost_ret (v := .tuple #[.agg #[.int .i64 a.st, .int .i64 a.sa, .slice af (nfL a.fi k).length cf, .slice aT a.nx.length cT], .int .i64 0]) (by simp [results, Try.results35, go_sem, hP.1, hP.2.1, hP.2.2.1, hP.2.2.2]) rfl ⟨_, _, vs, rfl, ?_, ?_⟩
          · rw [HNK.out]
            refine auR_weak (auR_gp (P := fun b => b = w.heap.size + 1) HAU.out (Gp.ofSet.trans (Gp.ofSet.trans (Gp.ofSet.trans Gp.ofSet))) (fun b hb h => by omega)) (by omega)
          · exact (((HBF.out.setCell (p := ⟨w.heap.size + 1, 0, none⟩) (by first | (simp; done) | (simp; omega)) _).setCell (p := ⟨w.heap.size + 1, 1, none⟩) (by first | (simp; done) | (simp; omega)) _).setCell (p := ⟨w.heap.size + 1, 2, none⟩) (by first | (simp; done) | (simp; omega)) _).setCell (p := ⟨w.heap.size + 1, 3, none⟩) (by first | (simp; done) | (simp; omega)) _
end Go.Proofs.Ytefcdkgfabaffaa

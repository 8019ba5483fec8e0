/- newWeave: a grammar's prints. -/
import Derived.Test.YtoejelieogjjpaaZE0
namespace Go.Proofs.Ytoejelieogjjpaa
open Go.ChangeShapes Go.WideShapes Go.RowKit
set_option linter.unusedVariables false
set_option linter.unusedSimpArgs false
set_option maxHeartbeats 4000000
set_option maxRecDepth 100000
theorem i_newWeave (ag : Option Addr) (kg : Nat) (l : List Ru) (w : World) (h0 : l ≠ []) (hok : gOk l = true) (hsm : ∀ r ∈ l, r.1.size ≤ 1048576) (hin : InRu w (.slice ag l.length kg) l) :
    Calls Try.prog 22 #[.agg #[.slice ag l.length kg]] w fun e w' => ∃ bw, e = .returned (.tuple #[.pointer (some ⟨bw, 0, none⟩), .bool true]) ∧ WvR w.heap.size w' bw l (.slice ag l.length kg) ∧ Below w.heap.size w w' := by
  have hp : 0 < l.length := List.length_pos_iff.2 h0
  have hl4 := (gOk_some hok).1
  have hal := (Below.refl w.heap.size w).alloc (Nat.le_refl _) (.cells #[.slice ag l.length kg] 26)
  have HIN := Lib.hid hin
  have HI1 := Lib.hid (inRu_below hin hal)
  have HL := Lib.hid (fun w h => i_lengths (.slice ag l.length kg) l w (by omega) hsm h)
  rw [hok] at HL
  have HGL := Lib.hid (gOk_some hok).2.2.1
  have HOK := Lib.hid hok
  have HB1 := Lib.hid hal
  have b0 := box_cell w (.slice ag l.length kg) 26
  clear hin hal hsm hok
  go_enter Try.func22, Try.ntmps22
  go_wp2_with fail
  refine (HL.out _ HI1.out).mono ?_
  rintro e w2 ⟨vl, rfl, hol, hb2⟩
  rw [HGL.out] at hol
  obtain ⟨al, cl, rfl, hal, -⟩ := owns_sl3 hol
  obtain ⟨gl, rfl⟩ := hal (by omega)
  have b2 := cell_later hb2 b0
  have HB2 := Lib.hid (HB1.out.trans (hb2.mono HB1.out.size))
  have HOL := Lib.hid hol
  have hgl := (hol.lt gl rfl).2
  clear hol hal hb2 b0 HL HB1
  have hw2 : w.heap.size < w2.heap.size := World.block_lt_of_cell? _ _ b2
  go_upto_region 5 with fail
  refine gen_world2 (fun X => X.cell? ⟨w.heap.size, 0, none⟩ = some (.slice ag l.length kg) ∧ NwR w w2.heap.size gl cl l (.slice ag l.length kg) 0 (.slice none 0 0) (.slice none 0 0) X) ⟨?_, ?_⟩ ?_
  · exact cell_later ((Below.refl w2.heap.size w2).alloc (Nat.le_refl _) _) b2
  · refine ⟨by simp [go_sem], by simp [go_sem], by simp [go_sem], by simp [go_sem], by simp [go_sem], by simp [go_sem], ?_, ⟨rfl, .inl ⟨rfl, rfl⟩⟩, ⟨rfl, .inl ⟨rfl, rfl⟩⟩, .inl rfl, ?_, hw2, by simp, hgl⟩
    · have := owns_after HOL.out ((Below.refl w2.heap.size w2).alloc (Nat.le_refl _) (.cells #[.slice ag l.length kg, .slice (some ⟨gl, 0, none⟩) l.length cl, .slice none 0 0, .slice none 0 0] 72))
      simpa using this
    · exact HB2.out.trans (((Below.refl w2.heap.size w2).alloc (Nat.le_refl _) _).mono (Nat.le_of_lt hw2))
  rintro X ⟨b3, hst⟩
  have HST := Lib.hid hst
  obtain ⟨bw, hbw⟩ : ∃ b, b = w2.heap.size := ⟨_, rfl⟩
  rw [← hbw] at HST hgl hw2 ⊢
  clear hst b2 HB2 HOL hbw
  go_wp2
  go_loopw [26] (fun i wr => ∃ (k : Nat) (vm vs : Value), i = .int .i64 k ∧ k ≤ l.length ∧ NwR w bw gl cl l (.slice ag l.length kg) k vm vs wr) (fun i _ => l.length - (intOf i).toNat)
  case atStart => exact ⟨0, _, _, rfl, by omega, HST.out⟩
  case round =>
    clear HST b3
    obtain ⟨k, vm, vs, rfl, hk, hst⟩ := hrel
    have HST := Lib.hid hst
    have hinr := inRu_below HIN.out hst.2.2.2.2.2.2.2.2.2.2.1
    have hwr := hst.2.2.2.2.2.2.2.2.2.2.2.2.1
    clear hst
    by_cases hlt : k < l.length
    · obtain ⟨br, off, hag, hbr, c0, c1, c2⟩ := inRu_at hinr hlt
      have hkI : (k : Int) < (l.length : Int) := by omega
      have HINR := Lib.hid hinr
      have HRU := Lib.hid (gOk_rule HOK.out hlt)
      have HPR := Lib.hid (rwd_pair HOK.out hlt)
      have HLT := Lib.hid (rwd_let hlt)
      subst hag
      clear hinr
      obtain ⟨p, hp1⟩ : ∃ p, (ruA l k).1 = p := ⟨_, rfl⟩
      obtain ⟨x, hx1⟩ : ∃ p, (ruA l k).2.1 = p := ⟨_, rfl⟩
      obtain ⟨y, hy1⟩ : ∃ p, (ruA l k).2.2 = p := ⟨_, rfl⟩
      rw [hp1] at c0 HRU HPR HLT
      rw [hx1] at c1 HRU HPR
      rw [hy1] at c2 HRU HPR
      clear hp1 hx1 hy1
      go_wp2_with fail
      refine (i_bases _).mono ?_
      rintro e wB ⟨rfl, hbB⟩
      have hbz : wr.heap.size + 1 ≤ wB.heap.size := by have := hbB.size; simpa using this
      have t0 : wB.cell? ⟨wr.heap.size, 0, none⟩ = some (.string p) := by rw [hbB.cell (by simp)]; simp [go_sem]
      have t1 : wB.cell? ⟨wr.heap.size, 1, none⟩ = some (.int .i64 x) := by rw [hbB.cell (by simp)]; simp [go_sem]
      have t2 : wB.cell? ⟨wr.heap.size, 2, none⟩ = some (.int .i64 y) := by rw [hbB.cell (by simp)]; simp [go_sem]
      have HBB := Lib.hid (below_box hbB)
      clear hbB c0 c1 c2
      rw [show pv 1234567890123456789 987654321987654321 = .agg #[.int .u64 (1234567890123456789 : Nat), .int .u64 (987654321987654321 : Nat)] from rfl]
      go_upto_region 9 with fail
      refine gen_world2 (fun Y => Y.cell? ⟨wr.heap.size, 0, none⟩ = some (.string p) ∧ Y.cell? ⟨wr.heap.size, 1, none⟩ = some (.int .i64 x) ∧ Y.cell? ⟨wr.heap.size, 2, none⟩ = some (.int .i64 y) ∧ Y.cell? ⟨wB.heap.size, 0, none⟩ = some (.int .u64 0) ∧ Y.cell? ⟨wB.heap.size, 1, none⟩ = some (.int .u64 0) ∧ Y.cell? ⟨wB.heap.size + 1, 0, none⟩ = some (.int .u64 (bA : Nat)) ∧ Y.cell? ⟨wB.heap.size + 1, 1, none⟩ = some (.int .u64 (bB : Nat)) ∧ Y.frozen? ⟨wB.heap.size, 0, none⟩ = false ∧ Y.frozen? ⟨wB.heap.size, 1, none⟩ = false ∧ Y.frozen? ⟨wB.heap.size + 1, 0, none⟩ = false ∧ Y.frozen? ⟨wB.heap.size + 1, 1, none⟩ = false ∧ Below wr.heap.size wr Y ∧ wB.heap.size + 1 < Y.heap.size) ⟨?_, ?_, ?_, by simp [go_sem], by simp [go_sem], by simp [go_sem, bA], by simp [go_sem, bB], by simp [go_sem], by simp [go_sem], by simp [go_sem], by simp [go_sem], ?_, by simp⟩ ?_
      · exact cell_later ((((Below.refl wB.heap.size wB).alloc (Nat.le_refl _) _).alloc (by simp) _)) t0
      · exact cell_later ((((Below.refl wB.heap.size wB).alloc (Nat.le_refl _) _).alloc (by simp) _)) t1
      · exact cell_later ((((Below.refl wB.heap.size wB).alloc (Nat.le_refl _) _).alloc (by simp) _)) t2
      · exact (HBB.out.alloc HBB.out.size _).alloc (by have := HBB.out.size; simp; omega) _
      rintro Y ⟨t0', t1', t2', m0, m1, q0, q1, fm0, fm1, fq0, fq1, hbY, hzY⟩
      clear t0 t1 t2 HBB
      obtain ⟨zb, hzb⟩ : ∃ zb, decide (p.size = 0) = zb := ⟨_, rfl⟩
      have HIS := Lib.hid (fun w => i_isPair p x y w)
      rw [hzb] at HIS
      have HZB := Lib.hid hzb
      clear hzb
      have HBX : Hid (BxR wr.heap.size wB.heap.size p x y 0 0 bA bB Y) := ⟨t0', t1', t2', m0, m1, q0, q1, fm0, fm1, fq0, fq1, hzY⟩
      obtain ⟨b9, hb9⟩ : ∃ b, b = wB.heap.size := ⟨_, rfl⟩
      rw [← hb9] at HBX hbz ⊢
      clear hb9 m0 m1 q0 q1 fm0 fm1 fq0 fq1 hzY
      have HBY := Lib.hid hbY
      clear hbY
      go_wp2_with fail
      refine (HIS.out _).mono ?_
      rintro e wZ ⟨rfl, hbZ⟩
      have HBZ := Lib.hid (HBX.out.bel hbZ)
      have HYZ := Lib.hid (HBY.out.trans (hbZ.mono HBY.out.size))
      have HSZ := Lib.hid (HST.out.bel HYZ.out)
      clear t0' t1' t2' HBX HBY hbZ
      go_upto_if 33 with fail
      go_cut [] (fun wx => BxR wr.heap.size b9 p x y (evN bA (rwd l k)) (evN bB (rwd l k)) (poN bA (rwd l k).length) (poN bB (rwd l k).length) wx ∧ Below wr.heap.size wr wx)
      case first =>
        cases zb
        · have hz : p.size ≠ 0 := of_decide_eq_false HZB.out
          obtain ⟨g1, g2, rfl, rfl⟩ := HRU.out.2 hz
          have hLW := HLT.out hz
          obtain ⟨c, hc⟩ := let_oneC g1
          rw [hc] at hLW
          have HW1 := Lib.hid hLW
          have HC1 := Lib.hid hc
          have hb89 : wr.heap.size < b9 := by omega
          have h0z : (0 : Nat) < p.size := by omega
          have hcp : p[0] = c := by
            have : p.data.toList[0]? = some c := by rw [hc]; rfl
            rw [List.getElem?_eq_getElem (by rw [Array.length_toList]; exact h0z)] at this
            injection this
          have hbx := HBZ.out
          obtain ⟨k0, -, -, m0, m1, -, -, f0, f1, -, -, -⟩ := hbx
          have hcw : IntKind.u64.wrap ((p[0].toNat : Nat) : Int) = ((c.toNat : Nat) : Int) := by rw [hcp, IntKind.wrap_u64]; have := c.toNat_lt; omega
          clear hz g1 g2 hLW HRU HPR HLT HIS HZB hc
          have hcw2 : IntKind.u64.wrap ((c.toNat : Nat) : Int) = ((c.toNat : Nat) : Int) := by rw [IntKind.wrap_u64]; have := c.toNat_lt; omega
          go_wp2_with fail
          go_meet
          have e1 : evN bA (rwd l k) = c.toNat := by rw [HW1.out, evN_one]
          have e2 : evN bB (rwd l k) = c.toNat := by rw [HW1.out, evN_one]
          have e3 : poN bA (rwd l k).length = bA := by rw [HW1.out]; exact poN_one (by decide)
          have e4 : poN bB (rwd l k).length = bB := by rw [HW1.out]; exact poN_one (by decide)
          rw [e1, e2, e3, e4]
          exact ⟨HBZ.out.set9 hb89 c.toNat c.toNat, (HYZ.out.setCell (p := ⟨b9, 0, none⟩) (Nat.le_of_lt hb89) _).setCell (p := ⟨b9, 1, none⟩) (Nat.le_of_lt hb89) _⟩
        · have hz : p.size = 0 := of_decide_eq_true HZB.out
          obtain ⟨g1, g2, g3, g4⟩ := HRU.out.1 hz
          obtain ⟨xL, rfl⟩ := Int.eq_ofNat_of_zero_le g1
          obtain ⟨yR, rfl⟩ := Int.eq_ofNat_of_zero_le g3
          have hxk : xL < k := by omega
          have hyk : yR < k := by omega
          have hPR := HPR.out hz
          rw [Int.toNat_natCast, Int.toNat_natCast] at hPR
          have HPP := Lib.hid hPR
          clear hz g1 g2 g3 g4 hPR HRU HPR HLT HIS HZB
          have hsz := HSZ.out
          obtain ⟨n0, n1, n2, n3, nf2, nf3, n4, n5, n6, n7, n8, n9, n10, n11⟩ := hsz
          obtain ⟨am, cm, rfl, hm, -⟩ := owns_slP n5
          obtain ⟨gm, rfl⟩ := hm (by omega)
          obtain ⟨as_, cs, rfl, hs, -⟩ := owns_slP n6
          obtain ⟨gs, rfl⟩ := hs (by omega)
          have HCL : Hid (∀ X, NwR w bw gl cl l (.slice (some ⟨br, off, none⟩) l.length kg) k (.slice (some ⟨gm, 0, none⟩) k cm) (.slice (some ⟨gs, 0, none⟩) k cs) X → X.cell? ⟨bw, 2, none⟩ = some (.slice (some ⟨gm, 0, none⟩) k cm) ∧ X.cell? ⟨bw, 3, none⟩ = some (.slice (some ⟨gs, 0, none⟩) k cs) ∧ X.cell? ⟨gm, xL * 2, none⟩ = some (.int .u64 (evN bA (rwd l xL) : Nat)) ∧ X.cell? ⟨gm, xL * 2 + 1, none⟩ = some (.int .u64 (evN bB (rwd l xL) : Nat)) ∧ X.cell? ⟨gm, yR * 2, none⟩ = some (.int .u64 (evN bA (rwd l yR) : Nat)) ∧ X.cell? ⟨gm, yR * 2 + 1, none⟩ = some (.int .u64 (evN bB (rwd l yR) : Nat)) ∧ X.cell? ⟨gs, yR * 2, none⟩ = some (.int .u64 (poN bA (rwd l yR).length : Nat)) ∧ X.cell? ⟨gs, yR * 2 + 1, none⟩ = some (.int .u64 (poN bB (rwd l yR).length : Nat)) ∧ X.cell? ⟨gs, xL * 2, none⟩ = some (.int .u64 (poN bA (rwd l xL).length : Nat)) ∧ X.cell? ⟨gs, xL * 2 + 1, none⟩ = some (.int .u64 (poN bB (rwd l xL).length : Nat))) := by
            intro X hX
            obtain ⟨-, -, n2, n3, -, -, -, n5, n6, -, -, -, -, -⟩ := hX
            obtain ⟨pm0, pm1⟩ := own_prt n5 hxk
            obtain ⟨pr0, pr1⟩ := own_prt n5 hyk
            obtain ⟨ps0, ps1⟩ := own_prt n6 hyk
            obtain ⟨pl0, pl1⟩ := own_prt n6 hxk
            exact ⟨n2, n3, pm0, pm1, pr0, pr1, ps0, ps1, pl0, pl1⟩
          have HSX : Hid (∀ w', Below wZ.heap.size wZ w' → (fun w' => Below wZ.heap.size wZ w' ∧ w'.cell? ⟨wr.heap.size, 1, none⟩ = some (.int .i64 xL) ∧ w'.cell? ⟨wr.heap.size, 2, none⟩ = some (.int .i64 yR) ∧ w'.cell? ⟨bw, 2, none⟩ = some (.slice (some ⟨gm, 0, none⟩) k cm) ∧ w'.cell? ⟨bw, 3, none⟩ = some (.slice (some ⟨gs, 0, none⟩) k cs) ∧ w'.cell? ⟨gm, xL * 2, none⟩ = some (.int .u64 (evN bA (rwd l xL) : Nat)) ∧ w'.cell? ⟨gm, xL * 2 + 1, none⟩ = some (.int .u64 (evN bB (rwd l xL) : Nat)) ∧ w'.cell? ⟨gm, yR * 2, none⟩ = some (.int .u64 (evN bA (rwd l yR) : Nat)) ∧ w'.cell? ⟨gm, yR * 2 + 1, none⟩ = some (.int .u64 (evN bB (rwd l yR) : Nat)) ∧ w'.cell? ⟨gs, yR * 2, none⟩ = some (.int .u64 (poN bA (rwd l yR).length : Nat)) ∧ w'.cell? ⟨gs, yR * 2 + 1, none⟩ = some (.int .u64 (poN bB (rwd l yR).length : Nat)) ∧ w'.cell? ⟨gs, xL * 2, none⟩ = some (.int .u64 (poN bA (rwd l xL).length : Nat)) ∧ w'.cell? ⟨gs, xL * 2 + 1, none⟩ = some (.int .u64 (poN bB (rwd l xL).length : Nat))) w') := fun w' h => ⟨h, cell_later h HBZ.out.2.1, cell_later h HBZ.out.2.2.1, HCL.out w' (HSZ.out.bel h)⟩
          clear n0 n1 n2 n3 nf2 nf3 n4 n5 n6 n7 n8 n9 n10 n11 hm hs
          have hxI : (xL : Int) < (k : Int) := by omega
          have hyI : (yR : Int) < (k : Int) := by omega
          obtain ⟨q1, hq1⟩ : ∃ q, q = evN bA (rwd l xL) * poN bA (rwd l yR).length % fP := ⟨_, rfl⟩
          obtain ⟨q2, hq2⟩ : ∃ q, q = evN bB (rwd l xL) * poN bB (rwd l yR).length % fP := ⟨_, rfl⟩
          obtain ⟨r1, hr1'⟩ : ∃ r, r = evN bA (rwd l k) := ⟨_, rfl⟩
          obtain ⟨r2, hr2'⟩ : ∃ r, r = evN bB (rwd l k) := ⟨_, rfl⟩
          have hr1 : r1 = (q1 + evN bA (rwd l yR)) % fP := by rw [hr1', hq1, HPP.out, evN_app]
          have hr2 : r2 = (q2 + evN bB (rwd l yR)) % fP := by rw [hr2', hq2, HPP.out, evN_app]
          have HR12 := Lib.hid (And.intro hr1' hr2')
          clear hr1' hr2'
          have HTM := Lib.hid (fun w => i_timesE (evN bA (rwd l xL)) (evN bB (rwd l xL)) (poN bA (rwd l yR).length) (poN bB (rwd l yR).length) q1 q2 (evN_lt _ _) (evN_lt _ _) (poN_lt _ _) (poN_lt _ _) hq1 hq2 w)
          have hq1t : q1 < fP := by rw [hq1]; exact Nat.mod_lt _ (by decide)
          have hq2t : q2 < fP := by rw [hq2]; exact Nat.mod_lt _ (by decide)
          have HPL := Lib.hid (fun w => i_plusE q1 q2 (evN bA (rwd l yR)) (evN bB (rwd l yR)) r1 r2 hq1t hq2t (evN_lt _ _) (evN_lt _ _) hr1 hr2 w)
          clear hr1 hr2 hq1 hq2 hq1t hq2t
          go_upto_region 10 with fail
          refine wp_region_L (S := (fun w' => Below wZ.heap.size wZ w' ∧ w'.cell? ⟨wr.heap.size, 1, none⟩ = some (.int .i64 xL) ∧ w'.cell? ⟨wr.heap.size, 2, none⟩ = some (.int .i64 yR) ∧ w'.cell? ⟨bw, 2, none⟩ = some (.slice (some ⟨gm, 0, none⟩) k cm) ∧ w'.cell? ⟨bw, 3, none⟩ = some (.slice (some ⟨gs, 0, none⟩) k cs) ∧ w'.cell? ⟨gm, xL * 2, none⟩ = some (.int .u64 (evN bA (rwd l xL) : Nat)) ∧ w'.cell? ⟨gm, xL * 2 + 1, none⟩ = some (.int .u64 (evN bB (rwd l xL) : Nat)) ∧ w'.cell? ⟨gm, yR * 2, none⟩ = some (.int .u64 (evN bA (rwd l yR) : Nat)) ∧ w'.cell? ⟨gm, yR * 2 + 1, none⟩ = some (.int .u64 (evN bB (rwd l yR) : Nat)) ∧ w'.cell? ⟨gs, yR * 2, none⟩ = some (.int .u64 (poN bA (rwd l yR).length : Nat)) ∧ w'.cell? ⟨gs, yR * 2 + 1, none⟩ = some (.int .u64 (poN bB (rwd l yR).length : Nat)) ∧ w'.cell? ⟨gs, xL * 2, none⟩ = some (.int .u64 (poN bA (rwd l xL).length : Nat)) ∧ w'.cell? ⟨gs, xL * 2 + 1, none⟩ = some (.int .u64 (poN bB (rwd l xL).length : Nat)))) (T := [26]) (by kernel_rfl) (HSX.out _ (Below.drew (Below.refl _ _))) (fun hHeld => ?_)
          have hcur : Below wZ.heap.size wZ wZ.drew := Below.drew (Below.refl _ _)
          refine wpAnyL_take (i := 0) (v := ?_) rfl (by kernel_rfl) (by kernel_rfl) (by kernel_rfl) (by kernel_rfl) (fun _ _ _ h => h) (Or.inl ⟨by rfl, ?_⟩) (by assumption) ?_
          rotate_left
          · intro w hSw
            try dsimp only at hSw
            go_simp
            all_goals with_reducible rfl
          try simp only [Act.put, List.setIfInBounds_toArray, List.set_cons_zero, List.set_cons_succ]
          refine wpAnyL_take (i := 1) (v := ?_) rfl (by kernel_rfl) (by kernel_rfl) (by kernel_rfl) (by kernel_rfl) (fun _ _ _ h => h) (Or.inl ⟨by rfl, ?_⟩) (by assumption) ?_
          rotate_left
          · intro w hSw
            try dsimp only at hSw
            go_simp
            all_goals with_reducible rfl
          try simp only [Act.put, List.setIfInBounds_toArray, List.set_cons_zero, List.set_cons_succ]
          refine wpAnyL_take (i := 2) (v := ?_) rfl (by kernel_rfl) (by kernel_rfl) (by kernel_rfl) (by kernel_rfl) (fun _ _ _ h => h) (Or.inl ⟨by rfl, ?_⟩) (by assumption) ?_
          rotate_left
          · intro w hSw
            try dsimp only at hSw
            go_simp
            all_goals with_reducible rfl
          try simp only [Act.put, List.setIfInBounds_toArray, List.set_cons_zero, List.set_cons_succ]
          refine wpAnyL_take (i := 3) (v := ?_) rfl (by kernel_rfl) (by kernel_rfl) (by kernel_rfl) (by kernel_rfl) (fun _ _ _ h => h) (Or.inl ⟨by rfl, ?_⟩) (by assumption) ?_
          rotate_left
          · intro w hSw
            try dsimp only at hSw
            go_simp
            all_goals with_reducible rfl
          try simp only [Act.put, List.setIfInBounds_toArray, List.set_cons_zero, List.set_cons_succ]
          refine wpAnyL_take (i := 4) (v := ?_) rfl (by kernel_rfl) (by kernel_rfl) (by kernel_rfl) (by kernel_rfl) (fun _ _ _ h => h) (Or.inl ⟨by rfl, ?_⟩) (by assumption) ?_
          rotate_left
          · intro w hSw
            try dsimp only at hSw
            go_simp
            all_goals with_reducible rfl
          try simp only [Act.put, List.setIfInBounds_toArray, List.set_cons_zero, List.set_cons_succ]
          refine wpAnyL_take (i := 5) (v := ?_) rfl (by kernel_rfl) (by kernel_rfl) (by kernel_rfl) (by kernel_rfl) (fun _ _ _ h => h) (Or.inl ⟨by rfl, ?_⟩) (by assumption) ?_
          rotate_left
          · intro w hSw
            try dsimp only at hSw
            go_simp
            all_goals with_reducible rfl
          try simp only [Act.put, List.setIfInBounds_toArray, List.set_cons_zero, List.set_cons_succ]
          refine wpAnyL_take (i := 6) (v := ?_) rfl (by kernel_rfl) (by kernel_rfl) (by kernel_rfl) (by kernel_rfl) (fun _ _ _ h => h) (Or.inl ⟨by rfl, ?_⟩) (by assumption) ?_
          rotate_left
          · intro w hSw
            try dsimp only at hSw
            go_simp
            all_goals with_reducible rfl
          try simp only [Act.put, List.setIfInBounds_toArray, List.set_cons_zero, List.set_cons_succ]
          refine wpAnyL_take (i := 7) (v := ?_) rfl (by kernel_rfl) (by kernel_rfl) (by kernel_rfl) (by kernel_rfl) (fun _ _ _ h => h) (Or.inl ⟨by rfl, ?_⟩) (by assumption) ?_
          rotate_left
          · intro w hSw
            try dsimp only at hSw
            go_simp
            all_goals with_reducible rfl
          try simp only [Act.put, List.setIfInBounds_toArray, List.set_cons_zero, List.set_cons_succ]
          refine wpAnyL_take (i := 8) (v := ?_) rfl (by kernel_rfl) (by kernel_rfl) (by kernel_rfl) (by kernel_rfl) (fun _ _ _ h => h) (Or.inl ⟨by rfl, ?_⟩) (by assumption) ?_
          rotate_left
          · intro w hSw
            try dsimp only at hSw
            go_simp
            all_goals with_reducible rfl
          try simp only [Act.put, List.setIfInBounds_toArray, List.set_cons_zero, List.set_cons_succ]
          refine wpAnyL_take (i := 9) (v := ?_) rfl (by kernel_rfl) (by kernel_rfl) (by kernel_rfl) (by kernel_rfl) (fun _ _ _ h => h) (Or.inl ⟨by rfl, ?_⟩) (by assumption) ?_
          rotate_left
          · intro w hSw
            try dsimp only at hSw
            go_simp
            all_goals with_reducible rfl
          try simp only [Act.put, List.setIfInBounds_toArray, List.set_cons_zero, List.set_cons_succ]
          refine wpAnyL_take (i := 10) (v := ?_) rfl (by kernel_rfl) (by kernel_rfl) (by kernel_rfl) (by kernel_rfl) (fun _ _ _ h => h) (Or.inl ⟨by rfl, ?_⟩) (by assumption) ?_
          rotate_left
          · intro w hSw
            try dsimp only at hSw
            go_simp
            all_goals with_reducible rfl
          try simp only [Act.put, List.setIfInBounds_toArray, List.set_cons_zero, List.set_cons_succ]
          refine wpAnyL_take (i := 11) (v := ?_) rfl (by kernel_rfl) (by kernel_rfl) (by kernel_rfl) (by kernel_rfl) (fun _ _ _ h => h) (Or.inl ⟨by rfl, ?_⟩) (by assumption) ?_
          rotate_left
          · intro w hSw
            try dsimp only at hSw
            go_simp
            all_goals with_reducible rfl
          try simp only [Act.put, List.setIfInBounds_toArray, List.set_cons_zero, List.set_cons_succ]
          refine wpAnyL_take (i := 12) (v := ?_) rfl (by kernel_rfl) (by kernel_rfl) (by kernel_rfl) (by kernel_rfl) (fun _ _ _ h => h) (Or.inl ⟨by rfl, ?_⟩) (by assumption) ?_
          rotate_left
          · intro w hSw
            try dsimp only at hSw
            go_simp
            all_goals with_reducible rfl
          try simp only [Act.put, List.setIfInBounds_toArray, List.set_cons_zero, List.set_cons_succ]
          refine wpAnyL_take (i := 13) (v := ?_) rfl (by kernel_rfl) (by kernel_rfl) (by kernel_rfl) (by kernel_rfl) (fun _ _ _ h => h) (Or.inl ⟨by rfl, ?_⟩) (by assumption) ?_
          rotate_left
          · intro w hSw
            try dsimp only at hSw
            go_simp
            all_goals with_reducible rfl
          try simp only [Act.put, List.setIfInBounds_toArray, List.set_cons_zero, List.set_cons_succ]
          refine wpAnyL_take (i := 14) (v := ?_) rfl (by kernel_rfl) (by kernel_rfl) (by kernel_rfl) (by kernel_rfl) (fun _ _ _ h => h) (Or.inl ⟨by rfl, ?_⟩) (by assumption) ?_
          rotate_left
          · intro w hSw
            try dsimp only at hSw
            go_simp
            all_goals with_reducible rfl
          try simp only [Act.put, List.setIfInBounds_toArray, List.set_cons_zero, List.set_cons_succ]
          refine wpAnyL_take (i := 15) (v := ?_) rfl (by kernel_rfl) (by kernel_rfl) (by kernel_rfl) (by kernel_rfl) (fun _ _ _ h => h) (Or.inl ⟨by rfl, ?_⟩) (by assumption) ?_
          rotate_left
          · intro w hSw
            try dsimp only at hSw
            go_simp
            all_goals with_reducible rfl
          try simp only [Act.put, List.setIfInBounds_toArray, List.set_cons_zero, List.set_cons_succ]
          refine wpAnyL_take (i := 17) (v := ?_) rfl (by kernel_rfl) (by kernel_rfl) (by kernel_rfl) (by kernel_rfl) (fun _ _ _ h => h) (Or.inl ⟨by rfl, ?_⟩) (by assumption) ?_
          rotate_left
          · intro w hSw
            try dsimp only at hSw
            go_simp
            all_goals with_reducible rfl
          try simp only [Act.put, List.setIfInBounds_toArray, List.set_cons_zero, List.set_cons_succ]
          refine wpAnyL_take (i := 18) (v := ?_) rfl (by kernel_rfl) (by kernel_rfl) (by kernel_rfl) (by kernel_rfl) (fun _ _ _ h => h) (Or.inl ⟨by rfl, ?_⟩) (by assumption) ?_
          rotate_left
          · intro w hSw
            try dsimp only at hSw
            go_simp
            all_goals with_reducible rfl
          try simp only [Act.put, List.setIfInBounds_toArray, List.set_cons_zero, List.set_cons_succ]
          refine wpAnyL_take (i := 19) (v := ?_) rfl (by kernel_rfl) (by kernel_rfl) (by kernel_rfl) (by kernel_rfl) (fun _ _ _ h => h) (Or.inl ⟨by rfl, ?_⟩) (by assumption) ?_
          rotate_left
          · intro w hSw
            try dsimp only at hSw
            go_simp
            all_goals with_reducible rfl
          try simp only [Act.put, List.setIfInBounds_toArray, List.set_cons_zero, List.set_cons_succ]
          refine wpAnyL_take (i := 20) (v := ?_) rfl (by kernel_rfl) (by kernel_rfl) (by kernel_rfl) (by kernel_rfl) (fun _ _ _ h => h) (Or.inl ⟨by rfl, ?_⟩) (by assumption) ?_
          rotate_left
          · intro w hSw
            try dsimp only at hSw
            go_simp
            all_goals with_reducible rfl
          try simp only [Act.put, List.setIfInBounds_toArray, List.set_cons_zero, List.set_cons_succ]
          refine wpAnyL_take (i := 21) (v := ?_) rfl (by kernel_rfl) (by kernel_rfl) (by kernel_rfl) (by kernel_rfl) (fun _ _ _ h => h) (Or.inl ⟨by rfl, ?_⟩) (by assumption) ?_
          rotate_left
          · intro w hSw
            try dsimp only at hSw
            go_simp
            all_goals with_reducible rfl
          try simp only [Act.put, List.setIfInBounds_toArray, List.set_cons_zero, List.set_cons_succ]
          refine wpAnyL_take (i := 22) (v := ?_) rfl (by kernel_rfl) (by kernel_rfl) (by kernel_rfl) (by kernel_rfl) (fun _ _ _ h => h) (Or.inl ⟨by rfl, ?_⟩) (by assumption) ?_
          rotate_left
          · intro w hSw
            try dsimp only at hSw
            go_simp
            all_goals with_reducible rfl
          try simp only [Act.put, List.setIfInBounds_toArray, List.set_cons_zero, List.set_cons_succ]
          refine wpAnyL_take (i := 23) (v := ?_) rfl (by kernel_rfl) (by kernel_rfl) (by kernel_rfl) (by kernel_rfl) (fun _ _ _ h => h) (Or.inl ⟨by rfl, ?_⟩) (by assumption) ?_
          rotate_left
          · intro w hSw
            try dsimp only at hSw
            go_simp
            all_goals with_reducible rfl
          try simp only [Act.put, List.setIfInBounds_toArray, List.set_cons_zero, List.set_cons_succ]
          refine wpAnyL_take (i := 24) (v := ?_) rfl (by kernel_rfl) (by kernel_rfl) (by kernel_rfl) (by kernel_rfl) (fun _ _ _ h => h) (Or.inl ⟨by rfl, ?_⟩) (by assumption) ?_
          rotate_left
          · intro w hSw
            try dsimp only at hSw
            go_simp
            all_goals with_reducible rfl
          try simp only [Act.put, List.setIfInBounds_toArray, List.set_cons_zero, List.set_cons_succ]
          refine wpAnyL_one (i := 16) (by kernel_rfl) (by rfl) rfl (fun K hK => ?_)
          go_simp
          go_at_call 39
          refine (HTM.out _).mono ?_
          rintro e w1 ⟨rfl, hb1⟩
          have hcur2 := hcur.trans (hb1.mono hcur.size)
          go_wp2_with fail
          refine hK.out _ _ (HSX.out _ hcur2) ?_
          clear hK K hcur hb1 hHeld
          have hcur := hcur2
          have hHeld := HSX.out _ hcur2
          clear hcur2
          try simp only [Act.put, List.setIfInBounds_toArray, List.set_cons_zero, List.set_cons_succ]
          refine wpAnyL_one (i := 25) (by kernel_rfl) (by rfl) rfl (fun K hK => ?_)
          go_simp
          go_at_call 40
          refine (HPL.out _).mono ?_
          rintro e w1 ⟨rfl, hb1⟩
          have hcur2 := hcur.trans (hb1.mono hcur.size)
          go_wp2_with fail
          refine hK.out _ _ (HSX.out _ hcur2) ?_
          clear hK K hcur hb1 hHeld
          have hcur := hcur2
          have hHeld := HSX.out _ hcur2
          clear hcur2
          try simp only [Act.put, List.setIfInBounds_toArray, List.set_cons_zero, List.set_cons_succ]
          have hbx := HBZ.out.bel hcur
          have HBX2 := Lib.hid hbx
          obtain ⟨-, -, -, m0, m1, -, -, f0, f1, -, -, -⟩ := hbx
          have HCU := Lib.hid (HYZ.out.trans (hcur.mono HYZ.out.size))
          clear hcur hHeld HSX
          unfold pv
          refine wpAnyL_tail (i := 26) (by kernel_rfl) (by rfl) rfl (fun K hK => ?_)
          go_simp
          go_wp2_with fail
          refine hK.out _ _ ?_
          clear hK K
          try simp only [Act.put, List.setIfInBounds_toArray, List.set_cons_zero, List.set_cons_succ]
          refine wpAny_done (by kernel_rfl) ?_ _
          clear m0 m1 f0 f1
          have hb89 : wr.heap.size < b9 := by omega
          go_upto_region 11 with fail
          refine gen_world2 (fun W2 => BxR wr.heap.size b9 p xL yR r1 r2 bA bB W2 ∧ Below wr.heap.size wr W2) ⟨by first | exact (HBX2.out.set9 hb89 r1 r2).dr | exact HBX2.out.set9 hb89 r1 r2, by first | exact ((HCU.out.setCell (p := ⟨b9, 0, none⟩) (Nat.le_of_lt hb89) _).setCell (p := ⟨b9, 1, none⟩) (Nat.le_of_lt hb89) _).drew | exact (HCU.out.setCell (p := ⟨b9, 0, none⟩) (Nat.le_of_lt hb89) _).setCell (p := ⟨b9, 1, none⟩) (Nat.le_of_lt hb89) _⟩ ?_
          rintro W2 ⟨hbx2, hbe2⟩
          have HBZ2 := Lib.hid hbx2
          have HBE2 := Lib.hid hbe2
          clear hbx2 hbe2 HBX2 HCU HTM HPL HBZ HYZ HSZ
          obtain ⟨s1, hs1'⟩ : ∃ r, r = poN bA (rwd l k).length := ⟨_, rfl⟩
          obtain ⟨s2, hs2'⟩ : ∃ r, r = poN bB (rwd l k).length := ⟨_, rfl⟩
          have hs1 : s1 = poN bA (rwd l xL).length * poN bA (rwd l yR).length % fP := by rw [hs1', HPP.out, List.length_append, poN_add]
          have hs2 : s2 = poN bB (rwd l xL).length * poN bB (rwd l yR).length % fP := by rw [hs2', HPP.out, List.length_append, poN_add]
          have HS12 := Lib.hid (And.intro hs1' hs2')
          have HTM := Lib.hid (fun w => i_timesE (poN bA (rwd l xL).length) (poN bB (rwd l xL).length) (poN bA (rwd l yR).length) (poN bB (rwd l yR).length) s1 s2 (poN_lt _ _) (poN_lt _ _) (poN_lt _ _) (poN_lt _ _) hs1 hs2 w)
          clear hs1' hs2' hs1 hs2
          have HSX : Hid (∀ w', Below W2.heap.size W2 w' → (fun w' => Below W2.heap.size W2 w' ∧ w'.cell? ⟨wr.heap.size, 1, none⟩ = some (.int .i64 xL) ∧ w'.cell? ⟨wr.heap.size, 2, none⟩ = some (.int .i64 yR) ∧ w'.cell? ⟨bw, 2, none⟩ = some (.slice (some ⟨gm, 0, none⟩) k cm) ∧ w'.cell? ⟨bw, 3, none⟩ = some (.slice (some ⟨gs, 0, none⟩) k cs) ∧ w'.cell? ⟨gm, xL * 2, none⟩ = some (.int .u64 (evN bA (rwd l xL) : Nat)) ∧ w'.cell? ⟨gm, xL * 2 + 1, none⟩ = some (.int .u64 (evN bB (rwd l xL) : Nat)) ∧ w'.cell? ⟨gm, yR * 2, none⟩ = some (.int .u64 (evN bA (rwd l yR) : Nat)) ∧ w'.cell? ⟨gm, yR * 2 + 1, none⟩ = some (.int .u64 (evN bB (rwd l yR) : Nat)) ∧ w'.cell? ⟨gs, yR * 2, none⟩ = some (.int .u64 (poN bA (rwd l yR).length : Nat)) ∧ w'.cell? ⟨gs, yR * 2 + 1, none⟩ = some (.int .u64 (poN bB (rwd l yR).length : Nat)) ∧ w'.cell? ⟨gs, xL * 2, none⟩ = some (.int .u64 (poN bA (rwd l xL).length : Nat)) ∧ w'.cell? ⟨gs, xL * 2 + 1, none⟩ = some (.int .u64 (poN bB (rwd l xL).length : Nat))) w') := fun w' h => ⟨h, cell_later h HBZ2.out.2.1, cell_later h HBZ2.out.2.2.1, HCL.out w' (HST.out.bel (HBE2.out.trans (h.mono HBE2.out.size)))⟩
          refine wp_region_L (S := (fun w' => Below W2.heap.size W2 w' ∧ w'.cell? ⟨wr.heap.size, 1, none⟩ = some (.int .i64 xL) ∧ w'.cell? ⟨wr.heap.size, 2, none⟩ = some (.int .i64 yR) ∧ w'.cell? ⟨bw, 2, none⟩ = some (.slice (some ⟨gm, 0, none⟩) k cm) ∧ w'.cell? ⟨bw, 3, none⟩ = some (.slice (some ⟨gs, 0, none⟩) k cs) ∧ w'.cell? ⟨gm, xL * 2, none⟩ = some (.int .u64 (evN bA (rwd l xL) : Nat)) ∧ w'.cell? ⟨gm, xL * 2 + 1, none⟩ = some (.int .u64 (evN bB (rwd l xL) : Nat)) ∧ w'.cell? ⟨gm, yR * 2, none⟩ = some (.int .u64 (evN bA (rwd l yR) : Nat)) ∧ w'.cell? ⟨gm, yR * 2 + 1, none⟩ = some (.int .u64 (evN bB (rwd l yR) : Nat)) ∧ w'.cell? ⟨gs, yR * 2, none⟩ = some (.int .u64 (poN bA (rwd l yR).length : Nat)) ∧ w'.cell? ⟨gs, yR * 2 + 1, none⟩ = some (.int .u64 (poN bB (rwd l yR).length : Nat)) ∧ w'.cell? ⟨gs, xL * 2, none⟩ = some (.int .u64 (poN bA (rwd l xL).length : Nat)) ∧ w'.cell? ⟨gs, xL * 2 + 1, none⟩ = some (.int .u64 (poN bB (rwd l xL).length : Nat)))) (T := [17]) (by kernel_rfl) (HSX.out _ (Below.drew (Below.refl _ _))) (fun hHeld => ?_)
          have hcur : Below W2.heap.size W2 W2.drew := Below.drew (Below.refl _ _)
          refine wpAnyL_take (i := 0) (v := ?_) rfl (by kernel_rfl) (by kernel_rfl) (by kernel_rfl) (by kernel_rfl) (fun _ _ _ h => h) (Or.inl ⟨by rfl, ?_⟩) (by assumption) ?_
          rotate_left
          · intro w hSw
            try dsimp only at hSw
            go_simp
            all_goals with_reducible rfl
          try simp only [Act.put, List.setIfInBounds_toArray, List.set_cons_zero, List.set_cons_succ]
          refine wpAnyL_take (i := 1) (v := ?_) rfl (by kernel_rfl) (by kernel_rfl) (by kernel_rfl) (by kernel_rfl) (fun _ _ _ h => h) (Or.inl ⟨by rfl, ?_⟩) (by assumption) ?_
          rotate_left
          · intro w hSw
            try dsimp only at hSw
            go_simp
            all_goals with_reducible rfl
          try simp only [Act.put, List.setIfInBounds_toArray, List.set_cons_zero, List.set_cons_succ]
          refine wpAnyL_take (i := 2) (v := ?_) rfl (by kernel_rfl) (by kernel_rfl) (by kernel_rfl) (by kernel_rfl) (fun _ _ _ h => h) (Or.inl ⟨by rfl, ?_⟩) (by assumption) ?_
          rotate_left
          · intro w hSw
            try dsimp only at hSw
            go_simp
            all_goals with_reducible rfl
          try simp only [Act.put, List.setIfInBounds_toArray, List.set_cons_zero, List.set_cons_succ]
          refine wpAnyL_take (i := 3) (v := ?_) rfl (by kernel_rfl) (by kernel_rfl) (by kernel_rfl) (by kernel_rfl) (fun _ _ _ h => h) (Or.inl ⟨by rfl, ?_⟩) (by assumption) ?_
          rotate_left
          · intro w hSw
            try dsimp only at hSw
            go_simp
            all_goals with_reducible rfl
          try simp only [Act.put, List.setIfInBounds_toArray, List.set_cons_zero, List.set_cons_succ]
          refine wpAnyL_take (i := 4) (v := ?_) rfl (by kernel_rfl) (by kernel_rfl) (by kernel_rfl) (by kernel_rfl) (fun _ _ _ h => h) (Or.inl ⟨by rfl, ?_⟩) (by assumption) ?_
          rotate_left
          · intro w hSw
            try dsimp only at hSw
            go_simp
            all_goals with_reducible rfl
          try simp only [Act.put, List.setIfInBounds_toArray, List.set_cons_zero, List.set_cons_succ]
          refine wpAnyL_take (i := 5) (v := ?_) rfl (by kernel_rfl) (by kernel_rfl) (by kernel_rfl) (by kernel_rfl) (fun _ _ _ h => h) (Or.inl ⟨by rfl, ?_⟩) (by assumption) ?_
          rotate_left
          · intro w hSw
            try dsimp only at hSw
            go_simp
            all_goals with_reducible rfl
          try simp only [Act.put, List.setIfInBounds_toArray, List.set_cons_zero, List.set_cons_succ]
          refine wpAnyL_take (i := 6) (v := ?_) rfl (by kernel_rfl) (by kernel_rfl) (by kernel_rfl) (by kernel_rfl) (fun _ _ _ h => h) (Or.inl ⟨by rfl, ?_⟩) (by assumption) ?_
          rotate_left
          · intro w hSw
            try dsimp only at hSw
            go_simp
            all_goals with_reducible rfl
          try simp only [Act.put, List.setIfInBounds_toArray, List.set_cons_zero, List.set_cons_succ]
          refine wpAnyL_take (i := 7) (v := ?_) rfl (by kernel_rfl) (by kernel_rfl) (by kernel_rfl) (by kernel_rfl) (fun _ _ _ h => h) (Or.inl ⟨by rfl, ?_⟩) (by assumption) ?_
          rotate_left
          · intro w hSw
            try dsimp only at hSw
            go_simp
            all_goals with_reducible rfl
          try simp only [Act.put, List.setIfInBounds_toArray, List.set_cons_zero, List.set_cons_succ]
          refine wpAnyL_take (i := 8) (v := ?_) rfl (by kernel_rfl) (by kernel_rfl) (by kernel_rfl) (by kernel_rfl) (fun _ _ _ h => h) (Or.inl ⟨by rfl, ?_⟩) (by assumption) ?_
          rotate_left
          · intro w hSw
            try dsimp only at hSw
            go_simp
            all_goals with_reducible rfl
          try simp only [Act.put, List.setIfInBounds_toArray, List.set_cons_zero, List.set_cons_succ]
          refine wpAnyL_take (i := 9) (v := ?_) rfl (by kernel_rfl) (by kernel_rfl) (by kernel_rfl) (by kernel_rfl) (fun _ _ _ h => h) (Or.inl ⟨by rfl, ?_⟩) (by assumption) ?_
          rotate_left
          · intro w hSw
            try dsimp only at hSw
            go_simp
            all_goals with_reducible rfl
          try simp only [Act.put, List.setIfInBounds_toArray, List.set_cons_zero, List.set_cons_succ]
          refine wpAnyL_take (i := 10) (v := ?_) rfl (by kernel_rfl) (by kernel_rfl) (by kernel_rfl) (by kernel_rfl) (fun _ _ _ h => h) (Or.inl ⟨by rfl, ?_⟩) (by assumption) ?_
          rotate_left
          · intro w hSw
            try dsimp only at hSw
            go_simp
            all_goals with_reducible rfl
          try simp only [Act.put, List.setIfInBounds_toArray, List.set_cons_zero, List.set_cons_succ]
          refine wpAnyL_take (i := 11) (v := ?_) rfl (by kernel_rfl) (by kernel_rfl) (by kernel_rfl) (by kernel_rfl) (fun _ _ _ h => h) (Or.inl ⟨by rfl, ?_⟩) (by assumption) ?_
          rotate_left
          · intro w hSw
            try dsimp only at hSw
            go_simp
            all_goals with_reducible rfl
          try simp only [Act.put, List.setIfInBounds_toArray, List.set_cons_zero, List.set_cons_succ]
          refine wpAnyL_take (i := 12) (v := ?_) rfl (by kernel_rfl) (by kernel_rfl) (by kernel_rfl) (by kernel_rfl) (fun _ _ _ h => h) (Or.inl ⟨by rfl, ?_⟩) (by assumption) ?_
          rotate_left
          · intro w hSw
            try dsimp only at hSw
            go_simp
            all_goals with_reducible rfl
          try simp only [Act.put, List.setIfInBounds_toArray, List.set_cons_zero, List.set_cons_succ]
          refine wpAnyL_take (i := 13) (v := ?_) rfl (by kernel_rfl) (by kernel_rfl) (by kernel_rfl) (by kernel_rfl) (fun _ _ _ h => h) (Or.inl ⟨by rfl, ?_⟩) (by assumption) ?_
          rotate_left
          · intro w hSw
            try dsimp only at hSw
            go_simp
            all_goals with_reducible rfl
          try simp only [Act.put, List.setIfInBounds_toArray, List.set_cons_zero, List.set_cons_succ]
          refine wpAnyL_take (i := 14) (v := ?_) rfl (by kernel_rfl) (by kernel_rfl) (by kernel_rfl) (by kernel_rfl) (fun _ _ _ h => h) (Or.inl ⟨by rfl, ?_⟩) (by assumption) ?_
          rotate_left
          · intro w hSw
            try dsimp only at hSw
            go_simp
            all_goals with_reducible rfl
          try simp only [Act.put, List.setIfInBounds_toArray, List.set_cons_zero, List.set_cons_succ]
          refine wpAnyL_take (i := 15) (v := ?_) rfl (by kernel_rfl) (by kernel_rfl) (by kernel_rfl) (by kernel_rfl) (fun _ _ _ h => h) (Or.inl ⟨by rfl, ?_⟩) (by assumption) ?_
          rotate_left
          · intro w hSw
            try dsimp only at hSw
            go_simp
            all_goals with_reducible rfl
          try simp only [Act.put, List.setIfInBounds_toArray, List.set_cons_zero, List.set_cons_succ]
          refine wpAnyL_one (i := 16) (by kernel_rfl) (by rfl) rfl (fun K hK => ?_)
          go_simp
          go_at_call 39
          refine (HTM.out _).mono ?_
          rintro e w1 ⟨rfl, hb1⟩
          have hcur2 := hcur.trans (hb1.mono hcur.size)
          go_wp2_with fail
          refine hK.out _ _ (HSX.out _ hcur2) ?_
          clear hK K hcur hb1 hHeld
          have hcur := hcur2
          have hHeld := HSX.out _ hcur2
          clear hcur2
          try simp only [Act.put, List.setIfInBounds_toArray, List.set_cons_zero, List.set_cons_succ]
          have hbx := HBZ2.out.bel hcur
          have HBX2 := Lib.hid hbx
          obtain ⟨-, -, -, -, -, m0, m1, -, -, f0, f1, -⟩ := hbx
          have HCU := Lib.hid (HBE2.out.trans (hcur.mono HBE2.out.size))
          clear hcur hHeld HSX
          unfold pv
          refine wpAnyL_tail (i := 17) (by kernel_rfl) (by rfl) rfl (fun K hK => ?_)
          go_simp
          go_wp2_with fail
          refine hK.out _ _ ?_
          clear hK K
          try simp only [Act.put, List.setIfInBounds_toArray, List.set_cons_zero, List.set_cons_succ]
          refine wpAny_done (by kernel_rfl) ?_ _
          clear m0 m1 f0 f1
          go_wp2_with fail
          go_meet
          rw [← HR12.out.1, ← HR12.out.2, ← HS12.out.1, ← HS12.out.2]
          exact ⟨by first | exact (HBX2.out.set10 hb89 s1 s2).dr | exact HBX2.out.set10 hb89 s1 s2, by first | exact ((HCU.out.setCell (p := ⟨b9 + 1, 0, none⟩) (by show wr.heap.size ≤ b9 + 1; omega) _).setCell (p := ⟨b9 + 1, 1, none⟩) (by show wr.heap.size ≤ b9 + 1; omega) _).drew | exact (HCU.out.setCell (p := ⟨b9 + 1, 0, none⟩) (by show wr.heap.size ≤ b9 + 1; omega) _).setCell (p := ⟨b9 + 1, 1, none⟩) (by show wr.heap.size ≤ b9 + 1; omega) _⟩
      case rest =>
        obtain ⟨hbx, hbe⟩ := hcut
        obtain ⟨m1, hm1⟩ : ∃ r, r = evN bA (rwd l k) := ⟨_, rfl⟩
        obtain ⟨m2, hm2⟩ : ∃ r, r = evN bB (rwd l k) := ⟨_, rfl⟩
        obtain ⟨s1, hs1⟩ : ∃ r, r = poN bA (rwd l k).length := ⟨_, rfl⟩
        obtain ⟨s2, hs2⟩ : ∃ r, r = poN bB (rwd l k).length := ⟨_, rfl⟩
        rw [← hm1, ← hm2, ← hs1, ← hs2] at hbx
        have HMV : Hid (mkV l (k + 1) = mkV l k ++ [.int .u64 m1, .int .u64 m2]) := by show _ = _; rw [hm1, hm2]; rfl
        have HSV : Hid (stV l (k + 1) = stV l k ++ [.int .u64 s1, .int .u64 s2]) := by show _ = _; rw [hs1, hs2]; rfl
        have HNW := Lib.hid (HST.out.bel hbe)
        have HBX := Lib.hid hbx
        clear hbx hbe hm1 hm2 hs1 hs2 HBZ HYZ HSZ HRU HPR HLT HIS HZB
        have hcu := HNW.out
        obtain ⟨-, -, e2, e3, -, -, -, o5, o6, -, -, -, hbwl, -⟩ := hcu
        obtain ⟨-, -, -, p0, p1, p2, p3, -, -, -, -, hb9l⟩ := HBX.out
        obtain ⟨av, cv, rfl, -, -⟩ := owns_slP o5
        obtain ⟨au, cu, rfl, -, -⟩ := owns_slP o6
        clear o5 o6
        go_upto_region 14 with fail
        refine wp_region_L (S := fun _ => True) (T := []) (by kernel_rfl) trivial (fun hTop => ?_)
        refine wpAnyL_take (i := 0) (v := ?_) rfl (by kernel_rfl) (by kernel_rfl) (by kernel_rfl) (by kernel_rfl) (fun _ _ _ h => h) (Or.inl ⟨by rfl, ?_⟩) (by assumption) ?_
        rotate_left
        · intro w hSw
          try dsimp only at hSw
          go_simp
          all_goals with_reducible rfl
        try simp only [Act.put, List.setIfInBounds_toArray, List.set_cons_zero, List.set_cons_succ]
        refine wpAnyL_take (i := 1) (v := ?_) rfl (by kernel_rfl) (by kernel_rfl) (by kernel_rfl) (by kernel_rfl) (fun _ _ _ h => h) (Or.inl ⟨by rfl, ?_⟩) (by assumption) ?_
        rotate_left
        · intro w hSw
          try dsimp only at hSw
          go_simp
          all_goals with_reducible rfl
        try simp only [Act.put, List.setIfInBounds_toArray, List.set_cons_zero, List.set_cons_succ]
        refine wpAnyL_take (i := 2) (v := ?_) rfl (by kernel_rfl) (by kernel_rfl) (by kernel_rfl) (by kernel_rfl) (fun _ _ _ h => h) (Or.inl ⟨by rfl, ?_⟩) (by assumption) ?_
        rotate_left
        · intro w hSw
          try dsimp only at hSw
          go_simp
          all_goals with_reducible rfl
        try simp only [Act.put, List.setIfInBounds_toArray, List.set_cons_zero, List.set_cons_succ]
        refine wpAnyL_take (i := 9) (v := ?_) rfl (by kernel_rfl) (by kernel_rfl) (by kernel_rfl) (by kernel_rfl) (fun _ _ _ h => h) (Or.inl ⟨by rfl, ?_⟩) (by assumption) ?_
        rotate_left
        · intro w hSw
          try dsimp only at hSw
          go_simp
          all_goals with_reducible rfl
        try simp only [Act.put, List.setIfInBounds_toArray, List.set_cons_zero, List.set_cons_succ]
        refine wpAnyL_turn (S2 := (fun w' => w'.cell? ⟨bw, 2, none⟩ = some (.slice av k cv) ∧ w'.cell? ⟨bw, 3, none⟩ = some (.slice au k cu) ∧ w'.cell? ⟨b9, 0, none⟩ = some (.int .u64 m1) ∧ w'.cell? ⟨b9, 1, none⟩ = some (.int .u64 m2) ∧ w'.cell? ⟨b9 + 1, 0, none⟩ = some (.int .u64 s1) ∧ w'.cell? ⟨b9 + 1, 1, none⟩ = some (.int .u64 s2))) (T2 := [18, 21]) ?_
        have hHeld : (fun w' => w'.cell? ⟨bw, 2, none⟩ = some (.slice av k cv) ∧ w'.cell? ⟨bw, 3, none⟩ = some (.slice au k cu) ∧ w'.cell? ⟨b9, 0, none⟩ = some (.int .u64 m1) ∧ w'.cell? ⟨b9, 1, none⟩ = some (.int .u64 m2) ∧ w'.cell? ⟨b9 + 1, 0, none⟩ = some (.int .u64 s1) ∧ w'.cell? ⟨b9 + 1, 1, none⟩ = some (.int .u64 s2)) wc.drew := ⟨by simpa using e2, by simpa using e3, by simpa using p0, by simpa using p1, by simpa using p2, by simpa using p3⟩
        refine wpAnyL_take (i := 3) (v := ?_) rfl (by kernel_rfl) (by kernel_rfl) (by kernel_rfl) (by kernel_rfl) (fun _ _ _ h => h) (Or.inl ⟨by rfl, ?_⟩) (by assumption) ?_
        rotate_left
        · intro w hSw
          try dsimp only at hSw
          go_simp
          all_goals with_reducible rfl
        try simp only [Act.put, List.setIfInBounds_toArray, List.set_cons_zero, List.set_cons_succ]
        refine wpAnyL_take (i := 4) (v := ?_) rfl (by kernel_rfl) (by kernel_rfl) (by kernel_rfl) (by kernel_rfl) (fun _ _ _ h => h) (Or.inl ⟨by rfl, ?_⟩) (by assumption) ?_
        rotate_left
        · intro w hSw
          try dsimp only at hSw
          go_simp
          all_goals with_reducible rfl
        try simp only [Act.put, List.setIfInBounds_toArray, List.set_cons_zero, List.set_cons_succ]
        refine wpAnyL_take (i := 5) (v := ?_) rfl (by kernel_rfl) (by kernel_rfl) (by kernel_rfl) (by kernel_rfl) (fun _ _ _ h => h) (Or.inl ⟨by rfl, ?_⟩) (by assumption) ?_
        rotate_left
        · intro w hSw
          try dsimp only at hSw
          go_simp
          all_goals with_reducible rfl
        try simp only [Act.put, List.setIfInBounds_toArray, List.set_cons_zero, List.set_cons_succ]
        refine wpAnyL_take (i := 6) (v := ?_) rfl (by kernel_rfl) (by kernel_rfl) (by kernel_rfl) (by kernel_rfl) (fun _ _ _ h => h) (Or.inl ⟨by rfl, ?_⟩) (by assumption) ?_
        rotate_left
        · intro w hSw
          try dsimp only at hSw
          go_simp
          all_goals with_reducible rfl
        try simp only [Act.put, List.setIfInBounds_toArray, List.set_cons_zero, List.set_cons_succ]
        refine wpAnyL_take (i := 10) (v := ?_) rfl (by kernel_rfl) (by kernel_rfl) (by kernel_rfl) (by kernel_rfl) (fun _ _ _ h => h) (Or.inl ⟨by rfl, ?_⟩) (by assumption) ?_
        rotate_left
        · intro w hSw
          try dsimp only at hSw
          go_simp
          all_goals with_reducible rfl
        try simp only [Act.put, List.setIfInBounds_toArray, List.set_cons_zero, List.set_cons_succ]
        refine wpAnyL_take (i := 11) (v := ?_) rfl (by kernel_rfl) (by kernel_rfl) (by kernel_rfl) (by kernel_rfl) (fun _ _ _ h => h) (Or.inl ⟨by rfl, ?_⟩) (by assumption) ?_
        rotate_left
        · intro w hSw
          try dsimp only at hSw
          go_simp
          all_goals with_reducible rfl
        try simp only [Act.put, List.setIfInBounds_toArray, List.set_cons_zero, List.set_cons_succ]
        refine wpAnyL_take (i := 12) (v := ?_) rfl (by kernel_rfl) (by kernel_rfl) (by kernel_rfl) (by kernel_rfl) (fun _ _ _ h => h) (Or.inl ⟨by rfl, ?_⟩) (by assumption) ?_
        rotate_left
        · intro w hSw
          try dsimp only at hSw
          go_simp
          all_goals with_reducible rfl
        try simp only [Act.put, List.setIfInBounds_toArray, List.set_cons_zero, List.set_cons_succ]
        refine wpAnyL_take (i := 13) (v := ?_) rfl (by kernel_rfl) (by kernel_rfl) (by kernel_rfl) (by kernel_rfl) (fun _ _ _ h => h) (Or.inl ⟨by rfl, ?_⟩) (by assumption) ?_
        rotate_left
        · intro w hSw
          try dsimp only at hSw
          go_simp
          all_goals with_reducible rfl
        try simp only [Act.put, List.setIfInBounds_toArray, List.set_cons_zero, List.set_cons_succ]
        refine wpAnyL_gen (fun X => NwH w bw gl cl l (.slice (some ⟨br, off, none⟩) l.length kg) k (.slice av k cv) (.slice au k cu) (.slice av k cv) (.slice au k cu) k k X ∧ BxR wr.heap.size b9 p x y m1 m2 s1 s2 X) ⟨HNW.out.half.bel (Below.drew (Below.refl _ _)), HBX.out.bel (Below.drew (Below.refl _ _))⟩ ?_
        rintro X0 ⟨hn_, hx_⟩
        have HNX0 := Lib.hid hn_
        have HXX0 := Lib.hid hx_
        have hb89 : wr.heap.size < b9 := by omega
        clear hn_ hx_ HNW HBX e2 e3 p0 p1 p2 p3 hbwl hb9l
        clear hHeld
        have HVM : Hid (∀ q, (Value.slice av k cv).ownBlock = some q → q < wr.heap.size) := fun q e => (own_blk HST.out.2.2.2.2.2.2.2.1 q e).2
        have HVS : Hid (∀ q, (Value.slice au k cu).ownBlock = some q → q < wr.heap.size) := fun q e => (own_blk HST.out.2.2.2.2.2.2.2.2.1 q e).2
        clear HST HINR
        refine wpAnyL_two (i := 7) (j := 14) (by kernel_rfl) (by rfl) (by rfl) rfl rfl (fun K hK => ?_) (fun K hK => ?_)
        ·
          go_simp
          go_wp2_with fail
          refine hK.out _ _ (s6_of (HNX0.out.bel ((Below.refl _ _).alloc (Nat.le_refl _) _)) (HXX0.out.bel ((Below.refl _ _).alloc (Nat.le_refl _) _))) ?_
          clear hK K
          try simp only [Act.put, List.setIfInBounds_toArray, List.set_cons_zero, List.set_cons_succ]
          refine wpAnyL_gen (fun X => NwH w bw gl cl l (.slice (some ⟨br, off, none⟩) l.length kg) k (.slice av k cv) (.slice au k cu) (.slice av k cv) (.slice au k cu) k k X ∧ BxR wr.heap.size b9 p x y m1 m2 s1 s2 X ∧ ElP wr.heap.size X0.heap.size m1 m2 X) ⟨HNX0.out.bel ((Below.refl _ _).alloc (Nat.le_refl _) _), HXX0.out.bel ((Below.refl _ _).alloc (Nat.le_refl _) _), el_new _ _ _ _ (BxR.lo HXX0.out hb89)⟩ ?_
          rintro X1 ⟨hn_, hx_, he_⟩
          have HNX1 := Lib.hid hn_
          have HXX1 := Lib.hid hx_
          have HEX1 := Lib.hid he_
          clear hn_ hx_ he_
          refine wpAnyL_two (i := 8) (j := 14) (by kernel_rfl) (by rfl) (by rfl) rfl rfl (fun K hK => ?_) (fun K hK => ?_)
          ·
            refine step_app_prt (by rfl) _ _ (by rfl) (bw + 1) _ (.slice av k cv) k (mkV l k) (by rfl) HNX1.out.2.2.2.2.2.2.2.1 X0.heap.size (by rfl) m1 m2 HEX1.out.1 HEX1.out.2.1 (by omega) HNX1.out.2.2.2.2.2.2.2.2.2.2.2.2.1 ?_
            intro gX2 cX2 X2 ho_ hg_ hor_
            rw [← HMV.out] at ho_
            have hn_ := HNX1.out.app1 hg_ hor_ ho_
            have hx_ := HXX1.out.grow hb89 hg_ HVM.out
            refine hK.out _ _ (s6_of hn_ hx_) ?_
            have HNX2 := Lib.hid hn_
            have HXX2 := Lib.hid hx_
            have HSX2 := Lib.hid (trivial)
            clear hK K hn_ hx_ ho_ hg_ hor_
            try simp only [Act.put, List.setIfInBounds_toArray, List.set_cons_zero, List.set_cons_succ]
            refine wpAnyL_one (i := 14) (by kernel_rfl) (by rfl) rfl (fun K hK => ?_)
            go_simp
            go_wp2_with fail
            refine hK.out _ _ (s6_of (HNX2.out.bel ((Below.refl _ _).alloc (Nat.le_refl _) _)) (HXX2.out.bel ((Below.refl _ _).alloc (Nat.le_refl _) _))) ?_
            clear hK K
            try simp only [Act.put, List.setIfInBounds_toArray, List.set_cons_zero, List.set_cons_succ]
            refine wpAnyL_gen (fun X => NwH w bw gl cl l (.slice (some ⟨br, off, none⟩) l.length kg) k (.slice av k cv) (.slice au k cu) _ _ _ _ X ∧ BxR wr.heap.size b9 p x y m1 m2 s1 s2 X ∧ ElP wr.heap.size X2.heap.size s1 s2 X) ⟨HNX2.out.bel ((Below.refl _ _).alloc (Nat.le_refl _) _), HXX2.out.bel ((Below.refl _ _).alloc (Nat.le_refl _) _), el_new _ _ _ _ (BxR.lo HXX2.out hb89)⟩ ?_
            rintro X3 ⟨hn_, hx_, he_⟩
            have HNX3 := Lib.hid hn_
            have HXX3 := Lib.hid hx_
            have HEX3 := Lib.hid he_
            clear hn_ hx_ he_
            refine wpAnyL_one (i := 15) (by kernel_rfl) (by rfl) rfl (fun K hK => ?_)
            refine step_app_prt (by rfl) _ _ (by rfl) (bw + 1) _ (.slice au k cu) k (stV l k) (by rfl) HNX3.out.2.2.2.2.2.2.2.2.1 X2.heap.size (by rfl) s1 s2 HEX3.out.1 HEX3.out.2.1 (by omega) HNX3.out.2.2.2.2.2.2.2.2.2.2.2.2.1 ?_
            intro gX4 cX4 X4 ho_ hg_ hor_
            rw [← HSV.out] at ho_
            have hn_ := HNX3.out.app2 hg_ hor_ ho_
            have hx_ := HXX3.out.grow hb89 hg_ HVS.out
            refine hK.out _ _ (s6_of hn_ hx_) ?_
            have HNX4 := Lib.hid hn_
            have HXX4 := Lib.hid hx_
            clear hK K hn_ hx_ ho_ hg_ hor_
            try simp only [Act.put, List.setIfInBounds_toArray, List.set_cons_zero, List.set_cons_succ]
            refine wpAnyL_one (i := 16) (by kernel_rfl) (by rfl) rfl (fun K hK => ?_)
            go_simp
            go_wp2_with fail
            refine hK.out _ _ (s6_of HNX4.out HXX4.out) ?_
            clear hK K
            try simp only [Act.put, List.setIfInBounds_toArray, List.set_cons_zero, List.set_cons_succ]
            refine wpAnyL_one (i := 17) (by kernel_rfl) (by rfl) rfl (fun K hK => ?_)
            go_simp
            go_wp2_with fail
            refine hK.out _ _ (s6_of HNX4.out HXX4.out) ?_
            clear hK K
            try simp only [Act.put, List.setIfInBounds_toArray, List.set_cons_zero, List.set_cons_succ]
            have e2 := HNX4.out.2.2.1
            have e3 := HNX4.out.2.2.2.1
            have f2 := HNX4.out.2.2.2.2.1
            have f3 := HNX4.out.2.2.2.2.2.1
            refine wpAnyL_tail (i := 18) (by kernel_rfl) (by rfl) rfl (fun K hK => ?_)
            go_simp
            go_wp2_with fail
            refine hK.out _ _ ?_
            clear hK K
            try simp only [Act.put, List.setIfInBounds_toArray, List.set_cons_zero, List.set_cons_succ]
            refine wpAny_one (i := 19) (by kernel_rfl) rfl (fun K hK => ?_)
            go_simp
            go_wp2_with fail
            refine hK.out _ _ ?_
            clear hK K
            try simp only [Act.put, List.setIfInBounds_toArray, List.set_cons_zero, List.set_cons_succ]
            refine wpAny_one (i := 20) (by kernel_rfl) rfl (fun K hK => ?_)
            go_simp
            go_wp2_with fail
            refine hK.out _ _ ?_
            clear hK K
            try simp only [Act.put, List.setIfInBounds_toArray, List.set_cons_zero, List.set_cons_succ]
            refine wpAny_one (i := 21) (by kernel_rfl) rfl (fun K hK => ?_)
            go_simp
            go_wp2_with fail
            refine hK.out _ _ ?_
            clear hK K
            try simp only [Act.put, List.setIfInBounds_toArray, List.set_cons_zero, List.set_cons_succ]
            refine wpAny_done (by kernel_rfl) ?_ _
            go_wp2
            go_roundw
            case rel => exact ⟨k + 1, _, _, by go_num, by omega, by first | exact HNX4.out.fin | exact HNX4.out.fin.bel (Below.drew (Below.refl _ _))⟩
            case measure => first | (simp [intOf]; done) | (simp [intOf]; omega)
          ·
            go_simp
            go_wp2_with fail
            refine hK.out _ _ (s6_of (HNX1.out.bel ((Below.refl _ _).alloc (Nat.le_refl _) _)) (HXX1.out.bel ((Below.refl _ _).alloc (Nat.le_refl _) _))) ?_
            clear hK K
            try simp only [Act.put, List.setIfInBounds_toArray, List.set_cons_zero, List.set_cons_succ]
            refine wpAnyL_gen (fun X => NwH w bw gl cl l (.slice (some ⟨br, off, none⟩) l.length kg) k (.slice av k cv) (.slice au k cu) _ _ _ _ X ∧ BxR wr.heap.size b9 p x y m1 m2 s1 s2 X ∧ ElP wr.heap.size X1.heap.size s1 s2 X ∧ ElP wr.heap.size X0.heap.size m1 m2 X) ⟨HNX1.out.bel ((Below.refl _ _).alloc (Nat.le_refl _) _), HXX1.out.bel ((Below.refl _ _).alloc (Nat.le_refl _) _), el_new _ _ _ _ (BxR.lo HXX1.out hb89), HEX1.out.bel ((Below.refl _ _).alloc (Nat.le_refl _) _)⟩ ?_
            rintro X2 ⟨hn_, hx_, he_, hf_⟩
            have HNX2 := Lib.hid hn_
            have HXX2 := Lib.hid hx_
            have HEX2 := Lib.hid he_
            have HOX2 := Lib.hid hf_
            clear hn_ hx_ he_ hf_
            refine wpAnyL_one (i := 8) (by kernel_rfl) (by rfl) rfl (fun K hK => ?_)
            refine step_app_prt (by rfl) _ _ (by rfl) (bw + 1) _ (.slice av k cv) k (mkV l k) (by rfl) HNX2.out.2.2.2.2.2.2.2.1 X0.heap.size (by rfl) m1 m2 HOX2.out.1 HOX2.out.2.1 (by omega) HNX2.out.2.2.2.2.2.2.2.2.2.2.2.2.1 ?_
            intro gX3 cX3 X3 ho_ hg_ hor_
            rw [← HMV.out] at ho_
            have hn_ := HNX2.out.app1 hg_ hor_ ho_
            have hx_ := HXX2.out.grow hb89 hg_ HVM.out
            refine hK.out _ _ (s6_of hn_ hx_) ?_
            have HNX3 := Lib.hid hn_
            have HXX3 := Lib.hid hx_
            have HSX3 := Lib.hid (HEX2.out.grow hg_ HVM.out)
            clear hK K hn_ hx_ ho_ hg_ hor_
            try simp only [Act.put, List.setIfInBounds_toArray, List.set_cons_zero, List.set_cons_succ]
            refine wpAnyL_one (i := 15) (by kernel_rfl) (by rfl) rfl (fun K hK => ?_)
            refine step_app_prt (by rfl) _ _ (by rfl) (bw + 1) _ (.slice au k cu) k (stV l k) (by rfl) HNX3.out.2.2.2.2.2.2.2.2.1 X1.heap.size (by rfl) s1 s2 HSX3.out.1 HSX3.out.2.1 (by omega) HNX3.out.2.2.2.2.2.2.2.2.2.2.2.2.1 ?_
            intro gX4 cX4 X4 ho_ hg_ hor_
            rw [← HSV.out] at ho_
            have hn_ := HNX3.out.app2 hg_ hor_ ho_
            have hx_ := HXX3.out.grow hb89 hg_ HVS.out
            refine hK.out _ _ (s6_of hn_ hx_) ?_
            have HNX4 := Lib.hid hn_
            have HXX4 := Lib.hid hx_
            clear hK K hn_ hx_ ho_ hg_ hor_
            try simp only [Act.put, List.setIfInBounds_toArray, List.set_cons_zero, List.set_cons_succ]
            refine wpAnyL_one (i := 16) (by kernel_rfl) (by rfl) rfl (fun K hK => ?_)
            go_simp
            go_wp2_with fail
            refine hK.out _ _ (s6_of HNX4.out HXX4.out) ?_
            clear hK K
            try simp only [Act.put, List.setIfInBounds_toArray, List.set_cons_zero, List.set_cons_succ]
            refine wpAnyL_one (i := 17) (by kernel_rfl) (by rfl) rfl (fun K hK => ?_)
            go_simp
            go_wp2_with fail
            refine hK.out _ _ (s6_of HNX4.out HXX4.out) ?_
            clear hK K
            try simp only [Act.put, List.setIfInBounds_toArray, List.set_cons_zero, List.set_cons_succ]
            have e2 := HNX4.out.2.2.1
            have e3 := HNX4.out.2.2.2.1
            have f2 := HNX4.out.2.2.2.2.1
            have f3 := HNX4.out.2.2.2.2.2.1
            refine wpAnyL_tail (i := 18) (by kernel_rfl) (by rfl) rfl (fun K hK => ?_)
            go_simp
            go_wp2_with fail
            refine hK.out _ _ ?_
            clear hK K
            try simp only [Act.put, List.setIfInBounds_toArray, List.set_cons_zero, List.set_cons_succ]
            refine wpAny_one (i := 19) (by kernel_rfl) rfl (fun K hK => ?_)
            go_simp
            go_wp2_with fail
            refine hK.out _ _ ?_
            clear hK K
            try simp only [Act.put, List.setIfInBounds_toArray, List.set_cons_zero, List.set_cons_succ]
            refine wpAny_one (i := 20) (by kernel_rfl) rfl (fun K hK => ?_)
            go_simp
            go_wp2_with fail
            refine hK.out _ _ ?_
            clear hK K
            try simp only [Act.put, List.setIfInBounds_toArray, List.set_cons_zero, List.set_cons_succ]
            refine wpAny_one (i := 21) (by kernel_rfl) rfl (fun K hK => ?_)
            go_simp
            go_wp2_with fail
            refine hK.out _ _ ?_
            clear hK K
            try simp only [Act.put, List.setIfInBounds_toArray, List.set_cons_zero, List.set_cons_succ]
            refine wpAny_done (by kernel_rfl) ?_ _
            go_wp2
            go_roundw
            case rel => exact ⟨k + 1, _, _, by go_num, by omega, by first | exact HNX4.out.fin | exact HNX4.out.fin.bel (Below.drew (Below.refl _ _))⟩
            case measure => first | (simp [intOf]; done) | (simp [intOf]; omega)
        ·
          go_simp
          go_wp2_with fail
          refine hK.out _ _ (s6_of (HNX0.out.bel ((Below.refl _ _).alloc (Nat.le_refl _) _)) (HXX0.out.bel ((Below.refl _ _).alloc (Nat.le_refl _) _))) ?_
          clear hK K
          try simp only [Act.put, List.setIfInBounds_toArray, List.set_cons_zero, List.set_cons_succ]
          refine wpAnyL_gen (fun X => NwH w bw gl cl l (.slice (some ⟨br, off, none⟩) l.length kg) k (.slice av k cv) (.slice au k cu) _ _ _ _ X ∧ BxR wr.heap.size b9 p x y m1 m2 s1 s2 X ∧ ElP wr.heap.size X0.heap.size s1 s2 X) ⟨HNX0.out.bel ((Below.refl _ _).alloc (Nat.le_refl _) _), HXX0.out.bel ((Below.refl _ _).alloc (Nat.le_refl _) _), el_new _ _ _ _ (BxR.lo HXX0.out hb89)⟩ ?_
          rintro X1 ⟨hn_, hx_, he_⟩
          have HNX1 := Lib.hid hn_
          have HXX1 := Lib.hid hx_
          have HEX1 := Lib.hid he_
          clear hn_ hx_ he_
          refine wpAnyL_one (i := 7) (by kernel_rfl) (by rfl) rfl (fun K hK => ?_)
          go_simp
          go_wp2_with fail
          refine hK.out _ _ (s6_of (HNX1.out.bel ((Below.refl _ _).alloc (Nat.le_refl _) _)) (HXX1.out.bel ((Below.refl _ _).alloc (Nat.le_refl _) _))) ?_
          clear hK K
          try simp only [Act.put, List.setIfInBounds_toArray, List.set_cons_zero, List.set_cons_succ]
          refine wpAnyL_gen (fun X => NwH w bw gl cl l (.slice (some ⟨br, off, none⟩) l.length kg) k (.slice av k cv) (.slice au k cu) _ _ _ _ X ∧ BxR wr.heap.size b9 p x y m1 m2 s1 s2 X ∧ ElP wr.heap.size X1.heap.size m1 m2 X ∧ ElP wr.heap.size X0.heap.size s1 s2 X) ⟨HNX1.out.bel ((Below.refl _ _).alloc (Nat.le_refl _) _), HXX1.out.bel ((Below.refl _ _).alloc (Nat.le_refl _) _), el_new _ _ _ _ (BxR.lo HXX1.out hb89), HEX1.out.bel ((Below.refl _ _).alloc (Nat.le_refl _) _)⟩ ?_
          rintro X2 ⟨hn_, hx_, he_, hf_⟩
          have HNX2 := Lib.hid hn_
          have HXX2 := Lib.hid hx_
          have HEX2 := Lib.hid he_
          have HOX2 := Lib.hid hf_
          clear hn_ hx_ he_ hf_
          refine wpAnyL_one (i := 8) (by kernel_rfl) (by rfl) rfl (fun K hK => ?_)
          refine step_app_prt (by rfl) _ _ (by rfl) (bw + 1) _ (.slice av k cv) k (mkV l k) (by rfl) HNX2.out.2.2.2.2.2.2.2.1 X1.heap.size (by rfl) m1 m2 HEX2.out.1 HEX2.out.2.1 (by omega) HNX2.out.2.2.2.2.2.2.2.2.2.2.2.2.1 ?_
          intro gX3 cX3 X3 ho_ hg_ hor_
          rw [← HMV.out] at ho_
          have hn_ := HNX2.out.app1 hg_ hor_ ho_
          have hx_ := HXX2.out.grow hb89 hg_ HVM.out
          refine hK.out _ _ (s6_of hn_ hx_) ?_
          have HNX3 := Lib.hid hn_
          have HXX3 := Lib.hid hx_
          have HSX3 := Lib.hid (HOX2.out.grow hg_ HVM.out)
          clear hK K hn_ hx_ ho_ hg_ hor_
          try simp only [Act.put, List.setIfInBounds_toArray, List.set_cons_zero, List.set_cons_succ]
          refine wpAnyL_one (i := 15) (by kernel_rfl) (by rfl) rfl (fun K hK => ?_)
          refine step_app_prt (by rfl) _ _ (by rfl) (bw + 1) _ (.slice au k cu) k (stV l k) (by rfl) HNX3.out.2.2.2.2.2.2.2.2.1 X0.heap.size (by rfl) s1 s2 HSX3.out.1 HSX3.out.2.1 (by omega) HNX3.out.2.2.2.2.2.2.2.2.2.2.2.2.1 ?_
          intro gX4 cX4 X4 ho_ hg_ hor_
          rw [← HSV.out] at ho_
          have hn_ := HNX3.out.app2 hg_ hor_ ho_
          have hx_ := HXX3.out.grow hb89 hg_ HVS.out
          refine hK.out _ _ (s6_of hn_ hx_) ?_
          have HNX4 := Lib.hid hn_
          have HXX4 := Lib.hid hx_
          clear hK K hn_ hx_ ho_ hg_ hor_
          try simp only [Act.put, List.setIfInBounds_toArray, List.set_cons_zero, List.set_cons_succ]
          refine wpAnyL_one (i := 16) (by kernel_rfl) (by rfl) rfl (fun K hK => ?_)
          go_simp
          go_wp2_with fail
          refine hK.out _ _ (s6_of HNX4.out HXX4.out) ?_
          clear hK K
          try simp only [Act.put, List.setIfInBounds_toArray, List.set_cons_zero, List.set_cons_succ]
          refine wpAnyL_one (i := 17) (by kernel_rfl) (by rfl) rfl (fun K hK => ?_)
          go_simp
          go_wp2_with fail
          refine hK.out _ _ (s6_of HNX4.out HXX4.out) ?_
          clear hK K
          try simp only [Act.put, List.setIfInBounds_toArray, List.set_cons_zero, List.set_cons_succ]
          have e2 := HNX4.out.2.2.1
          have e3 := HNX4.out.2.2.2.1
          have f2 := HNX4.out.2.2.2.2.1
          have f3 := HNX4.out.2.2.2.2.2.1
          refine wpAnyL_tail (i := 18) (by kernel_rfl) (by rfl) rfl (fun K hK => ?_)
          go_simp
          go_wp2_with fail
          refine hK.out _ _ ?_
          clear hK K
          try simp only [Act.put, List.setIfInBounds_toArray, List.set_cons_zero, List.set_cons_succ]
          refine wpAny_one (i := 19) (by kernel_rfl) rfl (fun K hK => ?_)
          go_simp
          go_wp2_with fail
          refine hK.out _ _ ?_
          clear hK K
          try simp only [Act.put, List.setIfInBounds_toArray, List.set_cons_zero, List.set_cons_succ]
          refine wpAny_one (i := 20) (by kernel_rfl) rfl (fun K hK => ?_)
          go_simp
          go_wp2_with fail
          refine hK.out _ _ ?_
          clear hK K
          try simp only [Act.put, List.setIfInBounds_toArray, List.set_cons_zero, List.set_cons_succ]
          refine wpAny_one (i := 21) (by kernel_rfl) rfl (fun K hK => ?_)
          go_simp
          go_wp2_with fail
          refine hK.out _ _ ?_
          clear hK K
          try simp only [Act.put, List.setIfInBounds_toArray, List.set_cons_zero, List.set_cons_succ]
          refine wpAny_done (by kernel_rfl) ?_ _
          go_wp2
          go_roundw
          case rel => exact ⟨k + 1, _, _, by go_num, by omega, by first | exact HNX4.out.fin | exact HNX4.out.fin.bel (Below.drew (Below.refl _ _))⟩
          case measure => first | (simp [intOf]; done) | (simp [intOf]; omega)
    · obtain rfl : k = l.length := by omega
      obtain ⟨n0, n1, n2, n3, -, -, n4, n5, n6, -, n8, n9, -, -⟩ := HST.out
      obtain ⟨am, cm, rfl, hm, -⟩ := owns_slP n5
      obtain ⟨gm, rfl⟩ := hm (by omega)
      obtain ⟨as_, cs, rfl, hs, -⟩ := owns_slP n6
      obtain ⟨gs, rfl⟩ := hs (by omega)
      have HR : Hid (WvR w.heap.size wr bw l (.slice ag l.length kg) ∧ Below w.heap.size w wr) := ⟨⟨gl, cl, gm, cm, gs, cs, n0, n1, n2, n3, inRu_below HIN.out n8, owns_weak n4 (by omega), owns_weak n5 (by omega), owns_weak n6 (by omega)⟩, n8⟩
      clear n0 n1 n2 n3 n4 n5 n6 n8 hm hs HST hinr
      go_wp2
      go_ret2
      exact ⟨bw, rfl, HR.out.1, HR.out.2⟩
end Go.Proofs.Ytoejelieogjjpaa

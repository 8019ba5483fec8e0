/- The automaton of a pattern: the reference's walk. -/
import Derived.Test.YtimfbnjgodbgoaaKW
namespace Go.Proofs.Ytimfbnjgodbgoaa
open Go.ChangeShapes Go.WideShapes Go.RowKit
set_option linter.unusedVariables false
set_option linter.unusedSimpArgs false
set_option maxHeartbeats 800000
set_option maxRecDepth 100000
theorem wpAnyH_str2 {P : Program} {md : Region.Mode} {ops : Array Oper} {Q : Exit → Act → World → Prop} {S S' : World → Prop} (h : ∀ w, S' w → S w) : ∀ (fuel : Nat) (listed : Array Bool) (a : Act) (w : World), wpAnyH P md ops Q S' fuel listed a w → wpAnyH P md ops Q S fuel listed a w
  | 0, _, _, _, g => g
  | fuel + 1, _, _, _, g => ⟨g.1, fun i hi => wpOp_mono (fun a' w' g' => ⟨h _ g'.1, wpAnyH_str2 h fuel _ a' w' g'.2⟩) (g.2 i hi)⟩
theorem wpH_gen {P : Program} {md : Region.Mode} {ops : Array Oper} {Q : Exit → Act → World → Prop} {S : World → Prop} {fuel : Nat} {listed : Array Bool} {a : Act} {w : World} (F : World → Prop) (h : F w) (k : ∀ w, F w → wpAnyH P md ops Q S fuel listed a w) : wpAnyH P md ops Q S fuel listed a w := k w h
theorem s_l04Pattern (p : ByteArray) (w : World) (hp : p.size ≤ 20) :
    Calls Try.prog 47 #[.string p] w fun e w' => ∃ x1 x2 vs, e = .returned (.agg #[.int .i64 (paA p).st, .int .i64 (paA p).sa, x1, x2]) ∧ AuR w.heap.size w' x1 x2 vs (paA p) ∧ Below w.heap.size w w' := by
  go_enter Try.func47, Try.ntmps47
  go_wp2
  refine gen_world2 (fun wz => paF p w.heap.size (w.heap.size + 1 + 1) (.slice (some ⟨w.heap.size + 1, 0, none⟩) 1 1) w wz) ?_ ?_
  · refine ⟨(((Below.refl _ _).alloc (Nat.le_refl _) _).alloc (by simp) _).alloc (by first | (simp; done) | (simp; omega)) _, ⟨by simp [go_sem], by simp [go_sem], by simp [go_sem], by simp [go_sem]⟩, fun j => by simp [go_sem], ⟨by simp [go_sem], by simp [go_sem], by simp [go_sem], by simp [go_sem]⟩, fun j => by simp [go_sem], ?_, ?_, Nat.le_refl _, by omega, by simp⟩
    · have h := owns_weak (base' := w.heap.size + 1) (own_one (w.alloc (.cells #[.int .i64 0, .int .i64 0, .slice none 0 0, .slice none 0 0] 43)) (.int .i64 (p.size : Int)) 2) (by simp)
      have h2 := h.alloc (.cells #[.int .i64 ((p.size : Int) + 1), .int .i64 0, .slice (some ⟨w.heap.size + 1, 0, none⟩) 1 1, .slice none 0 0] 43)
      simpa using h2
    · intro b hb
      injection hb with hb
      have hb2 : w.heap.size + 1 = b := hb
      omega
  intro wz hz
  obtain ⟨bx, hbx⟩ : ∃ b, b = w.heap.size + 1 + 1 := ⟨_, rfl⟩
  rw [← hbx] at hz ⊢
  have HZ := Lib.hid hz
  obtain ⟨F1, ⟨F20, F21, F22, F23⟩, F3, ⟨F40, F41, F42, F43⟩, F5, F6, F7, F8, F9, F10⟩ := hz
  have HSF := Lib.hid (fun x W h => s_l04Fit p x W (by omega) h)
  have hnw : IntKind.i64.wrap ((p.size : Int) + 1) = (p.size : Int) + 1 := IntWalk.i64_in _ (by omega)
  clear hbx
  go_loopw [4, 5, 6] (fun i _ _ wr => Gp (fun b => b = bx ∨ wz.heap.size ≤ b) wz wr ∧ (∀ j, wr.frozen? ⟨bx, j, none⟩ = false) ∧ (wr.cell? ⟨bx, 0, none⟩ = some (.int .i64 ((p.size : Int) + 1)) ∧ wr.cell? ⟨bx, 1, none⟩ = some (.int .i64 0) ∧ wr.cell? ⟨bx, 2, none⟩ = some (.slice (some ⟨w.heap.size + 1, 0, none⟩) 1 1)) ∧ ∃ k : Nat, k ≤ p.size + 1 ∧ i = .int .i64 k ∧ ∃ v, wr.cell? ⟨bx, 3, none⟩ = some v ∧ OwnT wz.heap.size wr v (paT p k)) (fun i _ _ _ => p.size + 1 - (intOf i).toNat)
  case atStart => exact ⟨Gp.refl _ _, F5, ⟨F40, F41, F42⟩, 0, by omega, rfl, _, F43, ownT_nil0 _ _⟩
  case round =>
    obtain ⟨hg, hfz, ⟨q0, q1, q2⟩, k, hk, rfl, v, q3, hown⟩ := hrel
    have HG := Lib.hid hg
    have HOWN := Lib.hid hown
    have HQ : Hid (wr.cell? ⟨bx, 0, none⟩ = some (.int .i64 ((p.size : Int) + 1)) ∧ wr.cell? ⟨bx, 1, none⟩ = some (.int .i64 0) ∧ wr.cell? ⟨bx, 2, none⟩ = some (.slice (some ⟨w.heap.size + 1, 0, none⟩) 1 1)) := ⟨q0, q1, q2⟩
    have HFZ := Lib.hid hfz
    have hsz := hg.size
    by_cases hlt : k ≤ p.size
    · have hin : ((k : Nat) : Int) < (p.size : Int) + 1 := by omega
      have hkI : ((k : Nat) : Int) ≤ p.size := by omega
      have HQ3 := Lib.hid q3
      obtain ⟨wo, rfl⟩ : ∃ wo, wo = wr := ⟨_, rfl⟩
      have HT := Lib.hid (show paT p (k + 1) = paT p k ++ [paR p k 4] from rfl)
      have HR : Hid (∀ c, paR p k (c + 1) = paR p k c ++ [paE p k c]) := fun c => rfl
      have HR0 : Hid (paR p k 0 = []) := rfl
      have HRL := Lib.hid (paR_len p k)
      have htl := paT_len p k
      have hkw : IntKind.i64.wrap ((k : Int) + 1) = (k : Int) + 1 := IntWalk.i64_in _ (by omega)
      clear hg hown hfz q0 q1 q2 q3 F1 F20 F21 F22 F23 F3 F40 F41 F42 F43 F5
      go_wp2
      go_loopw [5, 6] (fun o y wr => Below wo.heap.size wo wr ∧ ∃ c : Nat, c ≤ 4 ∧ y = .int .u8 (97 + (c : Int)) ∧ wr.ownsRow wo.heap.size 2 1 o c (iv (paR p k c))) (fun _ y _ => 101 - (intOf y).toNat)
      case atStart => exact ⟨(Below.refl _ _).alloc (by simp) _, 0, by omega, rfl, by rw [HR0.out]; exact own_nil64 (Nat.le_refl _)⟩
      case round =>
        obtain ⟨hb2, c, hc, rfl, hro⟩ := hrel
        have HB2 := Lib.hid hb2
        have HRO := Lib.hid hro
        by_cases hc4 : c < 4
        · have hci : 97 + (c : Int) ≤ 100 := by omega
          have HCV : ∀ W', W'.cell? ⟨wr.heap.size, 0, none⟩ = some (.int .u8 (97 + (c : Int))) → (convert 22 9 (.slice (some ⟨wr.heap.size, 0, none⟩) 1 1)).run Try.prog W' = .ok (.string ⟨#[UInt8.ofNat (97 + c)]⟩) W' := by
            intro W' hW
            refine Go.run_convert_bytes_back _ 22 9 5 ⟨wr.heap.size, 0, none⟩ 1 [UInt8.ofNat (97 + c)] Try.underlying22 Try.underlying5 Try.underlying9 ?_
            intro j hj
            have hj0 : j = 0 := by simp at hj; omega
            subst hj0
            rw [show (⟨wr.heap.size, 0, none⟩ : Addr).add 0 = ⟨wr.heap.size, 0, none⟩ by unfold Addr.add; split <;> simp_all, hW]
            simp; omega
          have hxs := paX_size p k c hlt
          have HX : Hid (p.extract 0 k ++ ⟨#[97 + UInt8.ofNat c]⟩ = paX p k c) := rfl
          have HMN : Hid (min (p.size : Int) ((k : Int) + 1) = ((min p.size (k + 1) : Nat) : Int)) := by show _ = _; omega
          have hm1 : min p.size (k + 1) ≤ p.size := by omega
          have hm2 : min p.size (k + 1) ≤ k + 1 := by omega
          have HRC := Lib.hid (HR.out c)
          have e3 : min p.size (paX p k c).size = min p.size (k + 1) := by rw [hxs]
          have HPE : Hid (paE p k c = (fitF p (paX p k c) (min p.size (k + 1)) : Int)) := rfl
          have HFT := Lib.hid (fun W => HSF.out (paX p k c) W (by omega))
          rw [e3] at HFT
          rw [← HX.out] at HFT
          have HV : Hid (fitF p (p.extract 0 k ++ ⟨#[97 + UInt8.ofNat c]⟩) (min p.size (k + 1)) = fitF p (paX p k c) (min p.size (k + 1))) := rfl
          generalize fitF p (p.extract 0 k ++ ⟨#[97 + UInt8.ofNat c]⟩) (min p.size (k + 1)) = z at *
          have hws : wo.heap.size ≤ wr.heap.size := hb2.size
          have hkc : ¬ 9223372036854775807 < k + 1 := by omega
          clear hb2 e3
          go_wp2
          refine wp_region_held_drew (S := fun w' => Below wo.heap.size wo w') (by kernel_rfl) HB2.out.drew (fun hHeld => ?_)
          refine wpAnyH_take (i := 0) (v := ?_) rfl (by kernel_rfl) (by kernel_rfl) (by kernel_rfl) (fun _ _ _ h => h) (Or.inl ⟨by rfl, ?_⟩) (by assumption) ?_
          rotate_left
          · intro w hSw
            try dsimp only at hSw
            go_simp
            all_goals with_reducible rfl
          try simp only [Act.put, List.setIfInBounds_toArray, List.set_cons_zero, List.set_cons_succ]
          refine wpAnyH_take (i := 1) (v := ?_) rfl (by kernel_rfl) (by kernel_rfl) (by kernel_rfl) (fun _ _ _ h => h) (Or.inl ⟨by rfl, ?_⟩) (by assumption) ?_
          rotate_left
          · intro w hSw
            try dsimp only at hSw
            go_simp
            all_goals with_reducible rfl
          try simp only [Act.put, List.setIfInBounds_toArray, List.set_cons_zero, List.set_cons_succ]
          refine wpAnyH_take (i := 2) (v := ?_) rfl (by kernel_rfl) (by kernel_rfl) (by kernel_rfl) (fun _ _ _ h => h) (Or.inl ⟨by rfl, ?_⟩) (by assumption) ?_
          rotate_left
          · intro w hSw
            try dsimp only at hSw
            go_simp
            all_goals with_reducible rfl
          try simp only [Act.put, List.setIfInBounds_toArray, List.set_cons_zero, List.set_cons_succ]
          refine wpAnyH_take (i := 3) (v := ?_) rfl (by kernel_rfl) (by kernel_rfl) (by kernel_rfl) (fun _ _ _ h => h) (Or.inl ⟨by rfl, ?_⟩) (by assumption) ?_
          rotate_left
          · intro w hSw
            try dsimp only at hSw
            go_simp
            all_goals with_reducible rfl
          try simp only [Act.put, List.setIfInBounds_toArray, List.set_cons_zero, List.set_cons_succ]
          refine wpAnyH_take (i := 4) (v := ?_) rfl (by kernel_rfl) (by kernel_rfl) (by kernel_rfl) (fun _ _ _ h => h) (Or.inl ⟨by rfl, ?_⟩) (by assumption) ?_
          rotate_left
          · intro w hSw
            try dsimp only at hSw
            go_simp
            all_goals with_reducible rfl
          try simp only [Act.put, List.setIfInBounds_toArray, List.set_cons_zero, List.set_cons_succ]
          refine wpAnyH_take (i := 5) (v := ?_) rfl (by kernel_rfl) (by kernel_rfl) (by kernel_rfl) (fun _ _ _ h => h) (Or.inl ⟨by rfl, ?_⟩) (by assumption) ?_
          rotate_left
          · intro w hSw
            try dsimp only at hSw
            go_simp
            all_goals with_reducible rfl
          try simp only [Act.put, List.setIfInBounds_toArray, List.set_cons_zero, List.set_cons_succ]
          refine wpAnyH_ready (rs := [6]) (by kernel_rfl) (by simp) ?_
          refine AllReadyH.cons rfl (fun K hK => ?_) AllReadyH.nil
          go_simp
          refine hK.out _ _ (by first | exact (HB2.out.alloc hws _).drew | exact HB2.out.drew.alloc (by simpa using hws) _) (fun hHeld => ?_)
          clear hK K
          try simp only [Act.put, List.setIfInBounds_toArray, List.set_cons_zero, List.set_cons_succ]
          refine wpH_gen (fun w' => w'.cell? ⟨wr.heap.size, 0, none⟩ = some (.int .u8 (97 + (c : Int))) ∧ w'.ownsRow wo.heap.size 2 1 u5 c (iv (paR p k c)) ∧ Below wo.heap.size wo w') ⟨by simp [go_sem], by first | exact ownsRow_drew (hro.alloc _) | exact (ownsRow_drew hro).alloc _, by first | exact (HB2.out.alloc hws _).drew | exact HB2.out.drew.alloc (by simpa using hws) _⟩ ?_
          rintro wb ⟨b1, b2, b3⟩
          refine wpAnyH_str2 (S' := fun w' => Below wo.heap.size wo w' ∧ w'.cell? ⟨wr.heap.size, 0, none⟩ = some (.int .u8 (97 + (c : Int)))) (fun _ h => h.1) _ _ _ _ ?_
          have hHeld2 : (fun w' : World => Below wo.heap.size wo w' ∧ w'.cell? ⟨wr.heap.size, 0, none⟩ = some (.int .u8 (97 + (c : Int)))) wb := ⟨b3, b1⟩
          clear hHeld
          refine wpAnyH_take (i := 7) (v := ?_) rfl (by kernel_rfl) (by kernel_rfl) (by kernel_rfl) (fun _ _ _ h => h) (Or.inl ⟨by rfl, ?_⟩) (by assumption) ?_
          rotate_left
          · intro w hSw
            try dsimp only at hSw
            go_simp
            all_goals with_reducible rfl
          try simp only [Act.put, List.setIfInBounds_toArray, List.set_cons_zero, List.set_cons_succ]
          refine wpAnyH_take (i := 8) (v := ?_) rfl (by kernel_rfl) (by kernel_rfl) (by kernel_rfl) (fun _ _ _ h => h) (Or.inl ⟨by rfl, ?_⟩) (by assumption) ?_
          rotate_left
          · intro w hSw
            try dsimp only at hSw
            go_simp
            all_goals with_reducible rfl
          try simp only [Act.put, List.setIfInBounds_toArray, List.set_cons_zero, List.set_cons_succ]
          refine wpAnyH_ready (rs := [9]) (by kernel_rfl) (by simp) ?_
          refine AllReadyH.cons rfl (fun K hK => ?_) AllReadyH.nil
          go_simp
          go_at_call 63
          refine (HFT.out _).mono ?_
          rintro e wF ⟨rfl, hqF⟩
          have hbF := hqF.below wb.heap.size
          have f1 := cell_later hbF b1
          have f2 := owns_after b2 hbF
          have f3 := b3.trans (hbF.mono b3.size)
          have f4 := f3.size
          clear hHeld2 b1 b2 b3 hbF hqF
          go_wp2_with fail
          refine hK.out _ _ ⟨f3, f1⟩ (fun hHeld => ?_)
          clear hK K
          try simp only [Act.put, List.setIfInBounds_toArray, List.set_cons_zero, List.set_cons_succ]
          refine wpAnyH_ready (rs := [10]) (by kernel_rfl) (by simp) ?_
          refine AllReadyH.cons rfl (fun K hK => ?_) AllReadyH.nil
          go_simp
          refine hK.out _ _ ⟨f3.alloc f4 _, cell_later ((Below.refl _ _).alloc (Nat.le_refl _) _) f1⟩ (fun hHeld => ?_)
          clear hK K
          try simp only [Act.put, List.setIfInBounds_toArray, List.set_cons_zero, List.set_cons_succ]
          refine wpAnyH_ready (rs := [11]) (by kernel_rfl) (by simp) ?_
          refine AllReadyH.cons rfl (fun K hK => ?_) AllReadyH.nil
          refine step_app_i64 (by rfl) _ _ (by rfl) wo.heap.size _ u5 c (iv (paR p k c)) (z : Int) (by rfl) (f2.alloc _) wF.heap.size (by rfl) (by simp [go_sem]) (by omega) (by simp; omega) ?_
          intro v' w4 ho4 hb7 hsz4 hgr4
          refine hK.out _ _ ⟨(f3.alloc f4 _).trans hb7, World.grownBy.cell hgr4 (cell_later ((Below.refl _ _).alloc (Nat.le_refl _) _) f1) (fun e => by have h9 : wr.heap.size < wr.heap.size := (hro.lt _ e.symm).2; omega)⟩ (fun hHeld => ?_)
          clear hK K
          try simp only [Act.put, List.setIfInBounds_toArray, List.set_cons_zero, List.set_cons_succ]
          refine wpAnyH_take (i := 12) (v := ?_) rfl (by kernel_rfl) (by kernel_rfl) (by kernel_rfl) (fun _ _ _ h => h) (Or.inl ⟨by rfl, ?_⟩) (by assumption) ?_
          rotate_left
          · intro w hSw
            try dsimp only at hSw
            go_simp
            all_goals with_reducible rfl
          try simp only [Act.put, List.setIfInBounds_toArray, List.set_cons_zero, List.set_cons_succ]
          refine wpAnyH_done (by kernel_rfl) ?_ _
          have HB8 : Hid (Below wo.heap.size wo w4) := (f3.alloc f4 _).trans hb7
          clear hb7 hgr4 hro HCV f1 f2 f3 f4
          go_wp2
          go_roundw
          case rel => exact ⟨HB8.out, c + 1, by omega, by first | rfl | (congr 1; omega) | go_num, by rw [HRC.out, HPE.out, ← HV.out]; simpa [iv] using ho4⟩
          case measure => first | (simp [intOf]; done) | (simp [intOf]; omega)
        · have ec : c = 4 := by omega
          subst ec
          have hci : ¬ 97 + ((4 : Nat) : Int) ≤ 100 := by omega
          obtain ⟨av, cv, rfl⟩ := inT_sl (ownT_in HOWN.out)
          have r3 : wr.cell? ⟨bx, 3, none⟩ = some (.slice av (paT p k).length cv) := cell_later hb2 HQ3.out
          have r3f : wr.frozen? ⟨bx, 3, none⟩ = false := by rw [hb2.frozen (by simpa using World.block_lt_of_cell? _ _ HQ3.out)]; exact HFZ.out 3
          obtain ⟨ar, cr, rfl, -, -⟩ := owns_sl3 hro
          have hro1 := own_len (m := (paR p k 4).length) hro (HRL.out 4)
          have hown1 : OwnT wz.heap.size wo (.slice av k cv) (paT p k) := by have := HOWN.out; rwa [htl] at this
          rw [htl] at r3
          have hl2 : (paT p k ++ [paR p k 4]).length = k + 1 := by rw [List.length_append, htl]; rfl
          have hkn : (paT p k).length + 1 ≤ 1099511627776 := by omega
          have HB2' := Lib.hid hb2
          have hbxw : bx < wr.heap.size := World.block_lt_of_cell? _ _ r3
          clear hb2 hro hc4
          generalize paT p k = T at *
          generalize paR p k 4 = R at *
          go_wp2_with (at_builtin; refine appT rfl (.tmp 38) (.tmp 40) rfl wz.heap.size wo wr _ _ _ T R (by rfl) hown1 HB2'.out hro1 (by rfl) (by simp) hkn hsz ?_; intro v' w4 ho4 hb4 hsz4; have g3 := (hb4.cell (p := ⟨bx, 3, none⟩) F10).trans r3; have g3f := (hb4.frozen (p := ⟨bx, 3, none⟩) F10).trans r3f; obtain ⟨av2, cv2, hv2⟩ := inT_sl (ownT_in ho4); rw [hl2] at hv2; subst hv2)
          have HB4 := Lib.hid hb4
          have HO4 := Lib.hid ho4
          have HG3 := Lib.hid g3
          clear g3 g3f hb4 ho4 r3 r3f hro1 hown1
          go_roundw
          case rel =>
            have hbo : bx < wo.heap.size := World.block_lt_of_cell? _ _ HQ3.out
            have hb24 : ∀ o, (w4.setCell ⟨bx, 3, none⟩ (.slice av2 (k + 1) cv2)).frozen? ⟨bx, o, none⟩ = false := fun o => by
              have h1 := (HB4.out.frozen (p := ⟨bx, o, none⟩) F10).trans ((HB2'.out.frozen (p := ⟨bx, o, none⟩) hbo).trans (HFZ.out o))
              simpa using h1
            have oth : ∀ (j : Nat) v, j ≠ 3 → wo.cell? ⟨bx, j, none⟩ = some v → (w4.setCell ⟨bx, 3, none⟩ (.slice av2 (k + 1) cv2)).cell? ⟨bx, j, none⟩ = some v := fun j v hj h => by
              rw [World.cell?_setCell_other (h := by first | (intro e; injection e with _ e; exact hj e) | (intro e; injection e with _ e; exact hj e.symm))]
              exact (HB4.out.cell (p := ⟨bx, j, none⟩) F10).trans (cell_later HB2'.out h)
            refine ⟨?_, hb24, ⟨oth 0 _ (by omega) HQ.out.1, oth 1 _ (by omega) HQ.out.2.1, oth 2 _ (by omega) HQ.out.2.2⟩, k + 1, by omega, by go_num, _, cell_st_same _ HG3.out, ?_⟩
            · exact HG.out.trans ((Gp.ofBelow HB2'.out).trans (((Gp.ofB HB4.out).mono (fun b hb => .inr hb)).trans (Gp.ofSet.mono (fun b hb => .inl hb))))
            · rw [HT.out]; exact ownT_st HO4.out F10 _
          case measure => first | (simp [intOf]; done) | (simp [intOf]; omega)
    · have ek : k = p.size + 1 := by omega
      subst ek
      have hk' : decide (((p.size + 1 : Nat) : Int) ≤ (p.size : Int)) = false := by rw [decide_eq_false_iff_not]; omega
      have hk2 : decide ((p.size : Int) + 1 ≤ (p.size : Int)) = false := by rw [decide_eq_false_iff_not]; omega
      have hzlt : w.heap.size < wz.heap.size := World.block_lt_of_cell? _ _ F20
      have hnP : ¬ (w.heap.size = bx ∨ wz.heap.size ≤ w.heap.size) := by omega
      have z0 := hg.cell F20 hnP
      have z1 := hg.cell F21 hnP
      have z2 := hg.cell F22 hnP
      have z3 := hg.cell F23 hnP
      have fz : ∀ j, wr.frozen? ⟨w.heap.size, j, none⟩ = false := fun j => (hg.frozen hzlt hnP).trans (F3 j)
      obtain ⟨av, cv, rfl⟩ := inT_sl (ownT_in hown)
      obtain ⟨vs, hrows⟩ := ownT_rows hown
      have HP := Lib.hid (put4 (w := wr) (b := w.heap.size) (.int .i64 ((p.size : Int) + 1)) (.int .i64 0) (.slice (some ⟨w.heap.size + 1, 0, none⟩) 1 1) (.slice av (paT p (p.size + 1)).length cv) z0 z1 z2 z3)
      have hfb : ∀ b, (Value.slice (some ⟨w.heap.size + 1, 0, none⟩) 1 1).ownBlock = some b → b < wz.heap.size := fun b hb => (F6.lt b hb).2
      have HAU : Hid (AuR (w.heap.size + 1) wr (.slice (some ⟨w.heap.size + 1, 0, none⟩) 1 1) (.slice av (paT p (p.size + 1)).length cv) vs (paA p)) := by
        refine ⟨?_, rowsT_weak hrows hzlt, fun b hb => ⟨fun e => ?_, fun i hi e => ?_⟩⟩
        · exact owns_gp F6 hg (fun b hb h => by have h1 := hfb b hb; have h2 := (F7 b hb).1; omega)
        · have h1 := hfb b hb
          have h2 := (hrows.2.1.lt b e).1
          omega
        · have h1 := hfb b hb
          have h2 := ((hrows.2.2.1 i hi).lt b e).1
          omega
      have HBF : Hid (Below w.heap.size w wr) := below_gp F1 hg F1.size (fun b hb => by omega)
      have hw1 : w.heap.size < wr.heap.size := World.block_lt_of_cell? _ _ z0
      have fz0 := fz 0
      have fz1 := fz 1
      have fz2 := fz 2
      have fz3 := fz 3
      have hnz : bx ≠ w.heap.size := by omega
      clear hg F1 F20 F21 F22 F23 F3 F40 F41 F42 F43 F5 F6 F7 hown hrows hlt fz hnP
      go_wp2
      have hP := HP.out
      refine bodyPost_ret (v := .agg #[.int .i64 ((p.size : Int) + 1), .int .i64 0, .slice (some ⟨w.heap.size + 1, 0, none⟩) 1 1, .slice av (paT p (p.size + 1)).length cv]) (by simp [results, Try.results47, go_sem, hP.1, hP.2.1, hP.2.2.1, hP.2.2.2]) rfl ⟨_, _, vs, rfl, ?_, ?_⟩
      · exact auR_weak (auR_gp (P := fun b => b = w.heap.size) HAU.out (Gp.ofSet.trans (Gp.ofSet.trans (Gp.ofSet.trans Gp.ofSet))) (fun b hb h => by omega)) (by omega)
      · exact (((HBF.out.setCell (p := ⟨w.heap.size, 0, none⟩) (Nat.le_refl _) _).setCell (p := ⟨w.heap.size, 1, none⟩) (Nat.le_refl _) _).setCell (p := ⟨w.heap.size, 2, none⟩) (Nat.le_refl _) _).setCell (p := ⟨w.heap.size, 3, none⟩) (Nat.le_refl _) _
end Go.Proofs.Ytimfbnjgodbgoaa

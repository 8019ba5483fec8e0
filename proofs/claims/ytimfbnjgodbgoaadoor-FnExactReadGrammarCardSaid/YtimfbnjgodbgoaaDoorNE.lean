/- Texts of grammars: numbers' texts, of the program and of the reference. -/
import Derived.Test.YtimfbnjgodbgoaaDoorGF
import Derived.Test.YtimfbnjgodbgoaaDoorY2
import Derived.Test.YtimfbnjgodbgoaaDoorShelf
import Derived.Laws.Concat
import Derived.Lib.ItoaLen
import Derived.Lib.AppendIntMem
namespace Go.Proofs.YtimfbnjgodbgoaaDoor
open Go.ChangeShapes Go.WideShapes Go.RowKit
set_option linter.unusedVariables false
set_option linter.unusedSimpArgs false
set_option maxHeartbeats 1000000
set_option maxRecDepth 100000
def dcL (n : Int) : List UInt8 := Lib.decDigits n.toNat
theorem ba_app (a b : List UInt8) : (⟨a.toArray⟩ : ByteArray) ++ (⟨b.toArray⟩ : ByteArray) = ⟨(a ++ b).toArray⟩ := by
  apply ByteArray.ext
  rw [ByteArray.data_append]
  simp
theorem cat_l (a b c : List UInt8) (hc : c = a ++ b) (h : a.length + b.length ≤ 9223372036854775807) (w : World) : (Op.stringOp .add ⟨a.toArray⟩ ⟨b.toArray⟩).run Tryd.prog w = .ok (.string ⟨c.toArray⟩) w := by
  rw [run_string_add_sum w _ _ (by simpa [ByteArray.size] using h), ba_app, hc]
/-- the table of powers stands, whatever the call makes -/
def PowT (w : World) : Prop := Lib.TabBelow Tryd.prog w.heap.size w "internal/strconv.uint64pow10" .u64 Lib.pow10Tab
theorem PowT.later {w w' : World} (h : PowT w) (hb : Below w.heap.size w w') : PowT w' := fun w2 h2 => h w2 (hb.trans (h2.mono hb.size))
theorem dcL_len {n : Int} (h : 0 ≤ n ∧ n ≤ 1000000) : (dcL n).length ≤ 21 := by
  obtain ⟨i, rfl⟩ := Int.eq_ofNat_of_zero_le h.1
  have := Lib.itoa_length_le (i : Int) (by omega) (by omega)
  rw [Lib.itoa_nonneg] at this
  simpa [dcL] using this
theorem below_growN (w : World) (k : Nat) (os : Array Obj) : Below w.heap.size w (Go.Sort.grow (w.drewN k) os) := by
  exact Lib.below_grow _ _ (Nat.le_refl _) _ _
theorem i_decimal (n : Int) (w : World) (h : 0 ≤ n ∧ n ≤ 1000000) (ht : PowT w) : Calls Tryd.prog 21 #[.int .i64 n] w fun e w' => e = .returned (.string ⟨(dcL n).toArray⟩) ∧ Below w.heap.size w w' := by
  have HF := Lib.hid (Tryd.strconv_FormatInt_10 n (by omega) (by omega) w ht.here)
  have HD : Hid (dcL n = Lib.itoa n) := by
    show _ = _
    obtain ⟨i, rfl⟩ := Int.eq_ofNat_of_zero_le h.1
    rw [dcL, Int.toNat_natCast, Lib.itoa_nonneg]
  rw [HD.out]
  clear h ht
  go_enter Tryd.func21, Tryd.ntmps21
  go_wp2_with fail
  refine (HF.out).mono ?_
  rintro e w2 ⟨rfl, k, os, rfl⟩
  have hb := below_growN w k os
  go_wp2
  go_ret
  exact ⟨rfl, hb⟩
theorem nwrap_u8 {c : Int} (h0 : 0 ≤ c) (h1 : c < 256) : IntKind.u8.wrap c = c := by
  simp only [IntKind.wrap, IntKind.bits, IntKind.signed]
  first | omega | (simp; omega) | (simp [Int.emod_eq_of_lt, h0, h1])
theorem conv1 (c : Nat) (hc : c < 208) (bb : Nat) (W' : World) (hW : W'.cell? ⟨bb, 0, none⟩ = some (.int .u8 (48 + (c : Int)))) : (convert 47 9 (.slice (some ⟨bb, 0, none⟩) 1 1)).run Tryd.prog W' = .ok (.string ⟨[UInt8.ofNat (48 + c)].toArray⟩) W' := by
  refine Go.run_convert_bytes_back _ 47 9 5 ⟨bb, 0, none⟩ 1 [UInt8.ofNat (48 + c)] Tryd.underlying47 Tryd.underlying5 Tryd.underlying9 ?_
  intro j hj
  have hj0 : j = 0 := by simp at hj; omega
  subst hj0
  rw [show (⟨bb, 0, none⟩ : Addr).add 0 = ⟨bb, 0, none⟩ by unfold Addr.add; split <;> simp_all, hW]
  simp; omega
theorem nb_alloc {w Y : World} {o : Obj} (h : Below w.heap.size w Y) : Below w.heap.size w (Y.alloc o) := h.alloc h.size o
theorem nb_tr {w Y Z : World} (h : Below w.heap.size w Y) (k : Below Y.heap.size Y Z) : Below w.heap.size w Z := h.trans (k.mono h.size)
theorem dd_len : ∀ (f u : Nat), u < f → (Lib.decDigits u).length ≤ u + 1
  | 0, u, h => by omega
  | f + 1, u, h => by
    by_cases h1 : u < 10
    · rw [Lib.decDigits_one h1]; simp
    · rw [Lib.decDigits, dif_neg h1, List.length_append]
      have := dd_len f (u / 10) (by omega)
      simp only [List.length_cons, List.length_nil]
      omega
theorem nH_str {P : Program} {md : Region.Mode} {ops : Array Oper} {Q : Exit → Act → World → Prop} {S S' : World → Prop} (h : ∀ w, S' w → S w) : ∀ (fuel : Nat) (listed : Array Bool) (a : Act) (w : World), wpAnyH P md ops Q S' fuel listed a w → wpAnyH P md ops Q S fuel listed a w
  | 0, _, _, _, g => g
  | fuel + 1, _, _, _, g => ⟨g.1, fun i hi => wpOp_mono (fun a' w' g' => ⟨h _ g'.1, nH_str h fuel _ a' w' g'.2⟩) (g.2 i hi)⟩
theorem nH_gen {P : Program} {md : Region.Mode} {ops : Array Oper} {Q : Exit → Act → World → Prop} {S : World → Prop} {fuel : Nat} {listed : Array Bool} {a : Act} {w : World} (F : World → Prop) (h : F w) (k : ∀ w, F w → wpAnyH P md ops Q S fuel listed a w) : wpAnyH P md ops Q S fuel listed a w := k w h
theorem s_Decimal : ∀ (f n : Nat) (w : World), n < f → n < 1000000000000000000 → Calls Tryd.prog 16 #[.int .i64 (n : Int)] w fun e w' => e = .returned (.string ⟨(Lib.decDigits n).toArray⟩) ∧ Below w.heap.size w w'
  | 0, n, w, h, _ => by omega
  | f + 1, n, w, h, hn => by
    by_cases h1 : n < 10
    · rw [Lib.decDigits_one h1]
      have hd : ¬ (10 : Int) ≤ (n : Int) := by omega
      have hcv := fun bb W' hW => conv1 n (by omega) bb W' hW
      go_enter Tryd.func16, Tryd.ntmps16
      go_wp2
      go_ret
      exact ⟨rfl, (Below.refl _ _).alloc (Nat.le_refl _) _⟩
    · have HI := Lib.hid (fun w => s_Decimal f (n / 10) w (by omega) (by omega))
      have hd : (10 : Int) ≤ (n : Int) := by omega
      have hq : (n : Int).tdiv 10 = ((n / 10 : Nat) : Int) := by rfl
      have hm : (n : Int).tmod 10 = ((n % 10 : Nat) : Int) := by rfl
      obtain ⟨c, hc⟩ : ∃ c, n % 10 = c := ⟨_, rfl⟩
      have hcl : c < 10 := by omega
      have he : Lib.decDigits n = Lib.decDigits (n / 10) ++ [UInt8.ofNat (48 + c)] := by rw [Lib.decDigits, dif_neg h1, hc]
      have hln := dd_len (n / 10 + 1) (n / 10) (by omega)
      have hcat := cat_l (Lib.decDigits (n / 10)) [UInt8.ofNat (48 + c)] (Lib.decDigits n) he (by have h9 : ([UInt8.ofNat (48 + c)] : List UInt8).length = 1 := rfl; have h8 : n / 10 ≤ n := Nat.div_le_self _ _; omega)
      have hcv := fun bb W' hW => conv1 c (by omega) bb W' hW
      have hwm : IntKind.i64.wrap (48 + (c : Int)) = 48 + (c : Int) := IntWalk.i64_in _ (by omega)
      have hw8 : IntKind.u8.wrap (48 + (c : Int)) = 48 + (c : Int) := nwrap_u8 (by omega) (by omega)
      have hwn : IntKind.i64.wrap (n : Int) = (n : Int) := IntWalk.i64_in _ (by omega)
      rw [hc] at hm
      clear he hln hc h1
      obtain ⟨m, hm2⟩ : ∃ m, n / 10 = m := ⟨_, rfl⟩
      rw [hm2] at HI hq hcat
      have hwq : IntKind.i64.wrap (m : Int) = (m : Int) := IntWalk.i64_in _ (by omega)
      clear hm2
      generalize Lib.decDigits m = D at *
      generalize Lib.decDigits n = E at *
      generalize UInt8.ofNat (48 + c) = u at *
      go_enter Tryd.func16, Tryd.ntmps16
      go_wp2
      refine wp_region_held_drew (S := fun w' => Below w.heap.size w w') (by kernel_rfl) (Below.refl _ _).drew (fun hHeld => ?_)
      refine wpAnyH_take (i := 0) (v := ?_) rfl (by kernel_rfl) (by kernel_rfl) (by kernel_rfl) (fun _ _ _ h => h) (Or.inl ⟨by rfl, ?_⟩) (by assumption) ?_
      rotate_left
      · intro w hSw
        try dsimp only at hSw
        go_simp
        all_goals with_reducible rfl
      try simp only [Act.put, List.setIfInBounds_toArray, List.set_cons_zero, List.set_cons_succ]
      refine wpAnyH_take (i := 1) (v := ?_) rfl (by kernel_rfl) (by kernel_rfl) (by kernel_rfl) (fun _ _ _ h => h) (Or.inl ⟨by rfl, ?_⟩) (by assumption) ?_
      rotate_left
      · intro w hSw
        try dsimp only at hSw
        go_simp
        all_goals with_reducible rfl
      try simp only [Act.put, List.setIfInBounds_toArray, List.set_cons_zero, List.set_cons_succ]
      refine wpAnyH_take (i := 3) (v := ?_) rfl (by kernel_rfl) (by kernel_rfl) (by kernel_rfl) (fun _ _ _ h => h) (Or.inl ⟨by rfl, ?_⟩) (by assumption) ?_
      rotate_left
      · intro w hSw
        try dsimp only at hSw
        go_simp
        all_goals with_reducible rfl
      try simp only [Act.put, List.setIfInBounds_toArray, List.set_cons_zero, List.set_cons_succ]
      refine wpAnyH_take (i := 4) (v := ?_) rfl (by kernel_rfl) (by kernel_rfl) (by kernel_rfl) (fun _ _ _ h => h) (Or.inl ⟨by rfl, ?_⟩) (by assumption) ?_
      rotate_left
      · intro w hSw
        try dsimp only at hSw
        go_simp
        all_goals with_reducible rfl
      try simp only [Act.put, List.setIfInBounds_toArray, List.set_cons_zero, List.set_cons_succ]
      refine wpAnyH_take (i := 5) (v := ?_) rfl (by kernel_rfl) (by kernel_rfl) (by kernel_rfl) (fun _ _ _ h => h) (Or.inl ⟨by rfl, ?_⟩) (by assumption) ?_
      rotate_left
      · intro w hSw
        try dsimp only at hSw
        go_simp
        all_goals with_reducible rfl
      try simp only [Act.put, List.setIfInBounds_toArray, List.set_cons_zero, List.set_cons_succ]
      refine wpAnyH_take (i := 6) (v := ?_) rfl (by kernel_rfl) (by kernel_rfl) (by kernel_rfl) (fun _ _ _ h => h) (Or.inl ⟨by rfl, ?_⟩) (by assumption) ?_
      rotate_left
      · intro w hSw
        try dsimp only at hSw
        go_simp
        all_goals with_reducible rfl
      try simp only [Act.put, List.setIfInBounds_toArray, List.set_cons_zero, List.set_cons_succ]
      refine wpAnyH_ready (rs := [2, 7]) (by kernel_rfl) (by simp) ?_
      refine AllReadyH.cons rfl (fun K hK => ?_) (AllReadyH.cons rfl (fun K hK => ?_) AllReadyH.nil)
      · go_simp
        go_at_call 16
        refine (HI.out _).mono ?_
        rintro e wA ⟨rfl, hA⟩
        have hA1 : Below w.heap.size w wA := nb_tr (Below.refl _ _).drew hA
        have HA1 := Lib.hid hA1
        clear hHeld
        go_wp2_with fail
        refine hK.out _ _ HA1.out (fun hHeld => ?_)
        clear hK K
        try simp only [Act.put, List.setIfInBounds_toArray, List.set_cons_zero, List.set_cons_succ]
        refine wpAnyH_ready (rs := [7]) (by kernel_rfl) (by simp) ?_
        refine AllReadyH.cons rfl (fun K hK => ?_) AllReadyH.nil
        go_simp
        refine hK.out _ _ (nb_alloc HA1.out) (fun hHeld => ?_)
        clear hK K
        try simp only [Act.put, List.setIfInBounds_toArray, List.set_cons_zero, List.set_cons_succ]
        refine nH_gen (fun w' => w'.cell? ⟨wA.heap.size, 0, none⟩ = some (.int .u8 (48 + (c : Int))) ∧ Below w.heap.size w w') ⟨by simp [go_sem], nb_alloc HA1.out⟩ ?_
        rintro wb ⟨b1, b2⟩
        refine nH_str (S' := fun w' => Below w.heap.size w w' ∧ w'.cell? ⟨wA.heap.size, 0, none⟩ = some (.int .u8 (48 + (c : Int)))) (fun _ h => h.1) _ _ _ _ ?_
        have hHeld2 : (fun w' : World => Below w.heap.size w w' ∧ w'.cell? ⟨wA.heap.size, 0, none⟩ = some (.int .u8 (48 + (c : Int)))) wb := ⟨b2, b1⟩
        clear hHeld
        refine wpAnyH_take (i := 8) (v := ?_) rfl (by kernel_rfl) (by kernel_rfl) (by kernel_rfl) (fun _ _ _ h => h) (Or.inl ⟨by rfl, ?_⟩) (by assumption) ?_
        rotate_left
        · intro w hSw
          try dsimp only at hSw
          go_simp
          all_goals with_reducible rfl
        try simp only [Act.put, List.setIfInBounds_toArray, List.set_cons_zero, List.set_cons_succ]
        refine wpAnyH_take (i := 9) (v := ?_) rfl (by kernel_rfl) (by kernel_rfl) (by kernel_rfl) (fun _ _ _ h => h) (Or.inl ⟨by rfl, ?_⟩) (by assumption) ?_
        rotate_left
        · intro w hSw
          try dsimp only at hSw
          go_simp
          all_goals with_reducible rfl
        try simp only [Act.put, List.setIfInBounds_toArray, List.set_cons_zero, List.set_cons_succ]
        refine wpAnyH_take (i := 10) (v := ?_) rfl (by kernel_rfl) (by kernel_rfl) (by kernel_rfl) (fun _ _ _ h => h) (Or.inl ⟨by rfl, ?_⟩) (by assumption) ?_
        rotate_left
        · intro w hSw
          try dsimp only at hSw
          go_simp
          all_goals with_reducible rfl
        try simp only [Act.put, List.setIfInBounds_toArray, List.set_cons_zero, List.set_cons_succ]
        refine wpAnyH_done (by kernel_rfl) ?_ _
        have HB2 := Lib.hid b2
        clear hHeld2 b1 b2 hA hA1
        go_simp
        go_wp2
        go_ret
        exact ⟨rfl, HB2.out⟩
      · go_simp
        refine hK.out _ _ (nb_alloc (Below.refl _ _).drew) (fun hHeld => ?_)
        clear hK K
        try simp only [Act.put, List.setIfInBounds_toArray, List.set_cons_zero, List.set_cons_succ]
        refine nH_gen (fun w' => w'.cell? ⟨w.heap.size, 0, none⟩ = some (.int .u8 (48 + (c : Int))) ∧ Below w.heap.size w w') ⟨by simp [go_sem], nb_alloc (Below.refl _ _).drew⟩ ?_
        rintro wb ⟨b1, b2⟩
        refine nH_str (S' := fun w' => Below w.heap.size w w' ∧ w'.cell? ⟨w.heap.size, 0, none⟩ = some (.int .u8 (48 + (c : Int)))) (fun _ h => h.1) _ _ _ _ ?_
        have hHeld2 : (fun w' : World => Below w.heap.size w w' ∧ w'.cell? ⟨w.heap.size, 0, none⟩ = some (.int .u8 (48 + (c : Int)))) wb := ⟨b2, b1⟩
        clear hHeld
        refine wpAnyH_take (i := 8) (v := ?_) rfl (by kernel_rfl) (by kernel_rfl) (by kernel_rfl) (fun _ _ _ h => h) (Or.inl ⟨by rfl, ?_⟩) (by assumption) ?_
        rotate_left
        · intro w hSw
          try dsimp only at hSw
          go_simp
          all_goals with_reducible rfl
        try simp only [Act.put, List.setIfInBounds_toArray, List.set_cons_zero, List.set_cons_succ]
        refine wpAnyH_ready (rs := [2]) (by kernel_rfl) (by simp) ?_
        refine AllReadyH.cons rfl (fun K hK => ?_) AllReadyH.nil
        go_simp
        go_at_call 16
        refine (HI.out _).mono ?_
        rintro e wA ⟨rfl, hA⟩
        have HA1 := Lib.hid (nb_tr b2 hA)
        have HA2 := Lib.hid (cell_later hA b1)
        clear hHeld2 b1 b2 hA
        go_wp2_with fail
        refine hK.out _ _ ⟨HA1.out, HA2.out⟩ (fun hHeld => ?_)
        clear hK K
        try simp only [Act.put, List.setIfInBounds_toArray, List.set_cons_zero, List.set_cons_succ]
        refine wpAnyH_take (i := 9) (v := ?_) rfl (by kernel_rfl) (by kernel_rfl) (by kernel_rfl) (fun _ _ _ h => h) (Or.inl ⟨by rfl, ?_⟩) (by assumption) ?_
        rotate_left
        · intro w hSw
          try dsimp only at hSw
          go_simp
          all_goals with_reducible rfl
        try simp only [Act.put, List.setIfInBounds_toArray, List.set_cons_zero, List.set_cons_succ]
        refine wpAnyH_take (i := 10) (v := ?_) rfl (by kernel_rfl) (by kernel_rfl) (by kernel_rfl) (fun _ _ _ h => h) (Or.inl ⟨by rfl, ?_⟩) (by assumption) ?_
        rotate_left
        · intro w hSw
          try dsimp only at hSw
          go_simp
          all_goals with_reducible rfl
        try simp only [Act.put, List.setIfInBounds_toArray, List.set_cons_zero, List.set_cons_succ]
        refine wpAnyH_done (by kernel_rfl) ?_ _
        clear hHeld
        go_simp
        go_wp2
        go_ret
        exact ⟨rfl, HA1.out⟩
end Go.Proofs.YtimfbnjgodbgoaaDoor

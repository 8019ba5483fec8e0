/- insertionSortCmpFunc, walked. -/
import Derived.Test.YtecmnebppngcbaaZK
namespace Go.Proofs.Ytecmnebppngcbaa
open Go.ChangeShapes Go.WideShapes Go.RowKit
set_option linter.unusedVariables false
set_option linter.unusedSimpArgs false
set_option maxHeartbeats 4000000
set_option maxRecDepth 100000
/-- the row that is put in order -/
def SrtR (W0 : World) (g cap n : Nat) (d0 d : List Int) (wr : World) : Prop := d.length = n ∧ (∀ x, d.count x = d0.count x) ∧ wr.ownsRow W0.heap.size 2 1 (.slice (some ⟨g, 0, none⟩) n cap) n (d.map (Value.int .i64)) ∧ Below W0.heap.size W0 wr
theorem SrtR.bel {W0 : World} {g cap n : Nat} {d0 d : List Int} {w w' : World} (h : SrtR W0 g cap n d0 d w) (hb : Below w.heap.size w w') : SrtR W0 g cap n d0 d w' :=
  ⟨h.1, h.2.1, owns_after h.2.2.1 hb, h.2.2.2.trans (hb.mono h.2.2.2.size)⟩
theorem SrtR.get {W0 : World} {g cap n : Nat} {d0 d : List Int} {w : World} (h : SrtR W0 g cap n d0 d w) {k : Nat} (hk : k < n) : w.cell? ⟨g, k, none⟩ = some (.int .i64 (d.getD k 0)) := own_get h.2.2.1 h.1 hk
theorem SrtR.mem {W0 : World} {g cap n : Nat} {d0 d : List Int} {w : World} (h : SrtR W0 g cap n d0 d w) {k : Nat} (hk : k < n) : d.getD k 0 ∈ d0 := by
  have hk' : k < d.length := by rw [h.1]; exact hk
  have e : d.getD k 0 = d[k] := by simp [List.getD, hk']
  rw [e, ← List.count_pos_iff, ← h.2.1, List.count_pos_iff]
  exact List.getElem_mem hk'
theorem f_insert (W0 : World) (g cap n : Nat) (d0 : List Int) (F : Nat) (C : Array Value) (l : List Ru) (W : World) (hn : n ≤ 20) (hS : SrtR W0 g cap n d0 d0 W)
    (eF : ∀ args w, (callFunc F args).run Try.prog w = .ok (.enter F args) w)
    (hC : ∀ w' x y, Below W0.heap.size W0 w' → x ∈ d0 → y ∈ d0 → Calls Try.prog F (#[.int .i64 x, .int .i64 y] ++ C) w' fun e w2 => e = .returned (.int .i64 (cmpB (sfx l x) (sfx l y))) ∧ Below w'.heap.size w' w2) :
    Calls Try.prog 52 #[.slice (some ⟨g, 0, none⟩) n cap, .int .i64 0, .int .i64 n, .func (.func F) #[] C] W fun e W' => e = .returned (.tuple #[]) ∧ ∃ d, ordU l d n ∧ SrtR W0 g cap n d0 d W' := by
  have HC := Lib.hid hC
  have HST := Lib.hid hS
  clear hC hS
  go_enter Try.func52, Try.ntmps52
  go_wp2
  go_loopw [8] (fun x wr => ∃ (i : Nat) (d : List Int), x = .int .i64 i ∧ 1 ≤ i ∧ (i ≤ n ∨ i = 1) ∧ ordU l d i ∧ SrtR W0 g cap n d0 d wr) (fun x _ => n + 1 - (intOf x).toNat)
  case atStart => exact ⟨1, d0, rfl, by omega, by omega, ordU_1 _ _, HST.out⟩
  case round =>
    clear HST
    obtain ⟨i, d, rfl, h1, h2, ho, hs⟩ := hrel
    have HS := Lib.hid hs
    have HO := Lib.hid ho
    clear ho hs
    by_cases hlt : i < n
    · have hiI : (i : Int) < n := by omega
      go_wp2
      go_loopw [9] (fun y wr => ∃ (j : Nat) (d : List Int), y = .int .i64 j ∧ j ≤ i ∧ ordB l d i j ∧ SrtR W0 g cap n d0 d wr) (fun y _ => (intOf y).toNat)
      case atStart => exact ⟨i, d, rfl, by omega, ordB_of HO.out, HS.out⟩
      case round =>
        clear HS HO
        obtain ⟨j, d, rfl, hji, ho, hs⟩ := hrel
        have HS := Lib.hid hs
        have HO := Lib.hid ho
        clear ho hs
        have hjI : (j : Int) ≤ i := by omega
        by_cases hj0 : j = 0
        · subst hj0
          have HOU := Lib.hid (ordU_of HO.out (.inl rfl) (by omega))
          clear HO
          go_upto_region 4 with fail
          refine wp_region_L (S := fun w' => Below wr.heap.size wr w') (T := [16]) (by kernel_rfl) (Below.drew (Below.refl _ _)) (fun hHeld => ?_)
          refine wpAnyL_take (i := 0) (v := ?_) rfl (by kernel_rfl) (by kernel_rfl) (by kernel_rfl) (by kernel_rfl) (fun _ _ _ h => h) (Or.inl ⟨by rfl, ?_⟩) (by assumption) ?_
          rotate_left
          · intro w hSw
            try dsimp only at hSw
            go_simp
            all_goals with_reducible rfl
          try simp only [Act.put, List.setIfInBounds_toArray, List.set_cons_zero, List.set_cons_succ]
          refine wpAnyL_take (i := 1) (v := ?_) rfl (by kernel_rfl) (by kernel_rfl) (by kernel_rfl) (by kernel_rfl) (fun _ _ _ h => h) (Or.inl ⟨by rfl, ?_⟩) (by assumption) ?_
          rotate_left
          · intro w hSw
            try dsimp only at hSw
            go_simp
            all_goals with_reducible rfl
          try simp only [Act.put, List.setIfInBounds_toArray, List.set_cons_zero, List.set_cons_succ]
          refine wpAnyL_take (i := 2) (v := ?_) rfl (by kernel_rfl) (by kernel_rfl) (by kernel_rfl) (by kernel_rfl) (fun _ _ _ h => h) (Or.inl ⟨by rfl, ?_⟩) (by assumption) ?_
          rotate_left
          · intro w hSw
            try dsimp only at hSw
            go_simp
            all_goals with_reducible rfl
          try simp only [Act.put, List.setIfInBounds_toArray, List.set_cons_zero, List.set_cons_succ]
          refine wpAnyL_take (i := 3) (v := ?_) rfl (by kernel_rfl) (by kernel_rfl) (by kernel_rfl) (by kernel_rfl) (fun _ _ _ h => h) (Or.inl ⟨by rfl, ?_⟩) (by assumption) ?_
          rotate_left
          · intro w hSw
            try dsimp only at hSw
            go_simp
            all_goals with_reducible rfl
          try simp only [Act.put, List.setIfInBounds_toArray, List.set_cons_zero, List.set_cons_succ]
          refine wpAnyL_take (i := 4) (v := undef) rfl (by kernel_rfl) (by kernel_rfl) (by kernel_rfl) (by kernel_rfl) (fun _ _ _ h => h) (Or.inr ⟨by go_simp, rfl⟩) (by assumption) ?_
          try simp only [Act.put, List.setIfInBounds_toArray, List.set_cons_zero, List.set_cons_succ]
          refine wpAnyL_take (i := 5) (v := undef) rfl (by kernel_rfl) (by kernel_rfl) (by kernel_rfl) (by kernel_rfl) (fun _ _ _ h => h) (Or.inr ⟨by go_simp, rfl⟩) (by assumption) ?_
          try simp only [Act.put, List.setIfInBounds_toArray, List.set_cons_zero, List.set_cons_succ]
          refine wpAnyL_take (i := 6) (v := undef) rfl (by kernel_rfl) (by kernel_rfl) (by kernel_rfl) (by kernel_rfl) (fun _ _ _ h => h) (Or.inr ⟨by go_simp, rfl⟩) (by assumption) ?_
          try simp only [Act.put, List.setIfInBounds_toArray, List.set_cons_zero, List.set_cons_succ]
          refine wpAnyL_take (i := 7) (v := undef) rfl (by kernel_rfl) (by kernel_rfl) (by kernel_rfl) (by kernel_rfl) (fun _ _ _ h => h) (Or.inr ⟨by go_simp, rfl⟩) (by assumption) ?_
          try simp only [Act.put, List.setIfInBounds_toArray, List.set_cons_zero, List.set_cons_succ]
          refine wpAnyL_take (i := 8) (v := undef) rfl (by kernel_rfl) (by kernel_rfl) (by kernel_rfl) (by kernel_rfl) (fun _ _ _ h => h) (Or.inr ⟨by go_simp, rfl⟩) (by assumption) ?_
          try simp only [Act.put, List.setIfInBounds_toArray, List.set_cons_zero, List.set_cons_succ]
          refine wpAnyL_take (i := 9) (v := undef) rfl (by kernel_rfl) (by kernel_rfl) (by kernel_rfl) (by kernel_rfl) (fun _ _ _ h => h) (Or.inr ⟨by go_simp, rfl⟩) (by assumption) ?_
          try simp only [Act.put, List.setIfInBounds_toArray, List.set_cons_zero, List.set_cons_succ]
          refine wpAnyL_take (i := 10) (v := undef) rfl (by kernel_rfl) (by kernel_rfl) (by kernel_rfl) (by kernel_rfl) (fun _ _ _ h => h) (Or.inr ⟨by go_simp, rfl⟩) (by assumption) ?_
          try simp only [Act.put, List.setIfInBounds_toArray, List.set_cons_zero, List.set_cons_succ]
          refine wpAnyL_take (i := 11) (v := undef) rfl (by kernel_rfl) (by kernel_rfl) (by kernel_rfl) (by kernel_rfl) (fun _ _ _ h => h) (Or.inr ⟨by go_simp, rfl⟩) (by assumption) ?_
          try simp only [Act.put, List.setIfInBounds_toArray, List.set_cons_zero, List.set_cons_succ]
          refine wpAnyL_take (i := 12) (v := undef) rfl (by kernel_rfl) (by kernel_rfl) (by kernel_rfl) (by kernel_rfl) (fun _ _ _ h => h) (Or.inr ⟨by go_simp, rfl⟩) (by assumption) ?_
          try simp only [Act.put, List.setIfInBounds_toArray, List.set_cons_zero, List.set_cons_succ]
          refine wpAnyL_take (i := 13) (v := undef) rfl (by kernel_rfl) (by kernel_rfl) (by kernel_rfl) (by kernel_rfl) (fun _ _ _ h => h) (Or.inr ⟨by go_simp, rfl⟩) (by assumption) ?_
          try simp only [Act.put, List.setIfInBounds_toArray, List.set_cons_zero, List.set_cons_succ]
          refine wpAnyL_take (i := 14) (v := undef) rfl (by kernel_rfl) (by kernel_rfl) (by kernel_rfl) (by kernel_rfl) (fun _ _ _ h => h) (Or.inr ⟨by go_simp, rfl⟩) (by assumption) ?_
          try simp only [Act.put, List.setIfInBounds_toArray, List.set_cons_zero, List.set_cons_succ]
          refine wpAnyL_take (i := 15) (v := undef) rfl (by kernel_rfl) (by kernel_rfl) (by kernel_rfl) (by kernel_rfl) (fun _ _ _ h => h) (Or.inr ⟨by go_simp, rfl⟩) (by assumption) ?_
          try simp only [Act.put, List.setIfInBounds_toArray, List.set_cons_zero, List.set_cons_succ]
          refine wpAnyL_tail (i := 16) (by kernel_rfl) (by rfl) rfl (fun K hK => ?_)
          go_simp
          go_wp2_with fail
          refine hK.out _ _ ?_
          clear hK K
          try simp only [Act.put, List.setIfInBounds_toArray, List.set_cons_zero, List.set_cons_succ]
          refine wpAny_done (by kernel_rfl) ?_ _
          go_wp2
          exact ⟨⟨i + 1, d, by simp, by omega, by omega, HOU.out, HS.out.bel (Below.drew (Below.refl _ _))⟩, by simp only [intOf]; omega⟩
        · obtain ⟨p, hp⟩ : ∃ p, j = p + 1 := ⟨j - 1, by omega⟩
          have hjp : (j : Int) - 1 = (p : Int) := by omega
          have hjI0 : (0 : Int) < j := by omega
          have hjN : 0 < j := by omega
          have hjn : (j : Int) < n := by omega
          have hpn : (p : Int) < n := by omega
          have hpj : p = j - 1 := by omega
          have kp : IntKind.i64.wrap (p : Int) = p := by rw [IntKind.wrap_i64]; omega
          have c1 := HS.out.get (show j < n by omega)
          have c2 := HS.out.get (show p < n by omega)
          have HCC := Lib.hid (fun w' (hb : Below wr.heap.size wr w') => HC.out w' (d.getD j 0) (d.getD p 0) (HS.out.2.2.2.trans (hb.mono HS.out.2.2.2.size)) (HS.out.mem (show j < n by omega)) (HS.out.mem (show p < n by omega)))
          have HY := Lib.hid (cmpB_neg (sfx l (d.getD j 0)) (sfx l (d.getD p 0)))
          have HX : Hid (sfx l (d.getD j 0) < sfx l (d.getD p 0) → ordB l (swA d j) i p) := fun h => by
            have := swA_ord HO.out (by omega) hji (by rw [HS.out.1]; omega) (by rw [← hpj]; exact h)
            rw [← hpj] at this; exact this
          have HN : Hid (¬ sfx l (d.getD j 0) < sfx l (d.getD p 0) → ordU l d (i + 1)) := fun h => ordU_of HO.out (.inr (by rw [← hpj]; exact h)) hji
          have HSW : Hid (swA d j = (d.set j (d.getD p 0)).set p (d.getD j 0)) := by show _ = _; rw [swA, ← hpj]
          obtain ⟨x, hx⟩ : ∃ x, x = d.getD j 0 := ⟨_, rfl⟩
          obtain ⟨y, hy⟩ : ∃ x, x = d.getD p 0 := ⟨_, rfl⟩
          rw [← hx] at c1 HCC HY HX HN HSW
          rw [← hy] at c2 HCC HY HX HN HSW
          obtain ⟨z, hz⟩ : ∃ z, z = cmpB (sfx l x) (sfx l y) := ⟨_, rfl⟩
          have HXX := Lib.hid hx
          have HYY := Lib.hid hy
          rw [← hz] at HCC HY
          have HSX : Hid (∀ w', Below wr.heap.size wr w' → (fun w' => Below wr.heap.size wr w' ∧ w'.cell? ⟨g, j, none⟩ = some (.int .i64 x) ∧ w'.cell? ⟨g, p, none⟩ = some (.int .i64 y)) w') := fun w' h => ⟨h, cell_later h c1, cell_later h c2⟩
          have HJ := Lib.hid hp
          clear hx hy hz hp hpj c1 c2 hj0
          go_upto_region 4 with fail
          refine wp_region_L (S := fun w' => Below wr.heap.size wr w' ∧ w'.cell? ⟨g, j, none⟩ = some (.int .i64 x) ∧ w'.cell? ⟨g, p, none⟩ = some (.int .i64 y)) (T := [16]) (by kernel_rfl) (HSX.out _ (Below.drew (Below.refl _ _))) (fun hHeld => ?_)
          have hcur : Below wr.heap.size wr wr.drew := Below.drew (Below.refl _ _)
          refine wpAnyL_take (i := 0) (v := ?_) rfl (by kernel_rfl) (by kernel_rfl) (by kernel_rfl) (by kernel_rfl) (fun _ _ _ h => h) (Or.inl ⟨by rfl, ?_⟩) (by assumption) ?_
          rotate_left
          · intro w hSw
            try dsimp only at hSw
            go_simp
            all_goals with_reducible rfl
          try simp only [Act.put, List.setIfInBounds_toArray, List.set_cons_zero, List.set_cons_succ]
          refine wpAnyL_take (i := 1) (v := ?_) rfl (by kernel_rfl) (by kernel_rfl) (by kernel_rfl) (by kernel_rfl) (fun _ _ _ h => h) (Or.inl ⟨by rfl, ?_⟩) (by assumption) ?_
          rotate_left
          · intro w hSw
            try dsimp only at hSw
            go_simp
            all_goals with_reducible rfl
          try simp only [Act.put, List.setIfInBounds_toArray, List.set_cons_zero, List.set_cons_succ]
          refine wpAnyL_take (i := 2) (v := ?_) rfl (by kernel_rfl) (by kernel_rfl) (by kernel_rfl) (by kernel_rfl) (fun _ _ _ h => h) (Or.inl ⟨by rfl, ?_⟩) (by assumption) ?_
          rotate_left
          · intro w hSw
            try dsimp only at hSw
            go_simp
            all_goals with_reducible rfl
          try simp only [Act.put, List.setIfInBounds_toArray, List.set_cons_zero, List.set_cons_succ]
          refine wpAnyL_take (i := 3) (v := ?_) rfl (by kernel_rfl) (by kernel_rfl) (by kernel_rfl) (by kernel_rfl) (fun _ _ _ h => h) (Or.inl ⟨by rfl, ?_⟩) (by assumption) ?_
          rotate_left
          · intro w hSw
            try dsimp only at hSw
            go_simp
            all_goals with_reducible rfl
          try simp only [Act.put, List.setIfInBounds_toArray, List.set_cons_zero, List.set_cons_succ]
          refine wpAnyL_take (i := 4) (v := ?_) rfl (by kernel_rfl) (by kernel_rfl) (by kernel_rfl) (by kernel_rfl) (fun _ _ _ h => h) (Or.inl ⟨by first | (go_simp; done) | (go_simp; omega), ?_⟩) (by assumption) ?_
          rotate_left
          · intro w hSw
            try dsimp only at hSw
            go_simp
            all_goals with_reducible rfl
          try simp only [Act.put, List.setIfInBounds_toArray, List.set_cons_zero, List.set_cons_succ]
          refine wpAnyL_take (i := 5) (v := ?_) rfl (by kernel_rfl) (by kernel_rfl) (by kernel_rfl) (by kernel_rfl) (fun _ _ _ h => h) (Or.inl ⟨by first | (go_simp; done) | (go_simp; omega), ?_⟩) (by assumption) ?_
          rotate_left
          · intro w hSw
            try dsimp only at hSw
            go_simp
            all_goals with_reducible rfl
          try simp only [Act.put, List.setIfInBounds_toArray, List.set_cons_zero, List.set_cons_succ]
          refine wpAnyL_take (i := 6) (v := ?_) rfl (by kernel_rfl) (by kernel_rfl) (by kernel_rfl) (by kernel_rfl) (fun _ _ _ h => h) (Or.inl ⟨by first | (go_simp; done) | (go_simp; omega), ?_⟩) (by assumption) ?_
          rotate_left
          · intro w hSw
            try dsimp only at hSw
            go_simp
            all_goals with_reducible rfl
          try simp only [Act.put, List.setIfInBounds_toArray, List.set_cons_zero, List.set_cons_succ]
          refine wpAnyL_take (i := 7) (v := ?_) rfl (by kernel_rfl) (by kernel_rfl) (by kernel_rfl) (by kernel_rfl) (fun _ _ _ h => h) (Or.inl ⟨by first | (go_simp; done) | (go_simp; omega), ?_⟩) (by assumption) ?_
          rotate_left
          · intro w hSw
            try dsimp only at hSw
            go_simp
            all_goals with_reducible rfl
          try simp only [Act.put, List.setIfInBounds_toArray, List.set_cons_zero, List.set_cons_succ]
          refine wpAnyL_take (i := 8) (v := ?_) rfl (by kernel_rfl) (by kernel_rfl) (by kernel_rfl) (by kernel_rfl) (fun _ _ _ h => h) (Or.inl ⟨by first | (go_simp; done) | (go_simp; omega), ?_⟩) (by assumption) ?_
          rotate_left
          · intro w hSw
            try dsimp only at hSw
            go_simp
            all_goals with_reducible rfl
          try simp only [Act.put, List.setIfInBounds_toArray, List.set_cons_zero, List.set_cons_succ]
          refine wpAnyL_take (i := 9) (v := ?_) rfl (by kernel_rfl) (by kernel_rfl) (by kernel_rfl) (by kernel_rfl) (fun _ _ _ h => h) (Or.inl ⟨by first | (go_simp; done) | (go_simp; omega), ?_⟩) (by assumption) ?_
          rotate_left
          · intro w hSw
            try dsimp only at hSw
            go_simp
            all_goals with_reducible rfl
          try simp only [Act.put, List.setIfInBounds_toArray, List.set_cons_zero, List.set_cons_succ]
          refine wpAnyL_take (i := 10) (v := ?_) rfl (by kernel_rfl) (by kernel_rfl) (by kernel_rfl) (by kernel_rfl) (fun _ _ _ h => h) (Or.inl ⟨by first | (go_simp; done) | (go_simp; omega), ?_⟩) (by assumption) ?_
          rotate_left
          · intro w hSw
            try dsimp only at hSw
            go_simp
            all_goals with_reducible rfl
          try simp only [Act.put, List.setIfInBounds_toArray, List.set_cons_zero, List.set_cons_succ]
          refine wpAnyL_take (i := 11) (v := ?_) rfl (by kernel_rfl) (by kernel_rfl) (by kernel_rfl) (by kernel_rfl) (fun _ _ _ h => h) (Or.inl ⟨by first | (go_simp; done) | (go_simp; omega), ?_⟩) (by assumption) ?_
          rotate_left
          · intro w hSw
            try dsimp only at hSw
            go_simp
            all_goals with_reducible rfl
          try simp only [Act.put, List.setIfInBounds_toArray, List.set_cons_zero, List.set_cons_succ]
          refine wpAnyL_take (i := 12) (v := ?_) rfl (by kernel_rfl) (by kernel_rfl) (by kernel_rfl) (by kernel_rfl) (fun _ _ _ h => h) (Or.inl ⟨by first | (go_simp; done) | (go_simp; omega), ?_⟩) (by assumption) ?_
          rotate_left
          · intro w hSw
            try dsimp only at hSw
            go_simp
            all_goals with_reducible rfl
          try simp only [Act.put, List.setIfInBounds_toArray, List.set_cons_zero, List.set_cons_succ]
          refine wpAnyL_take (i := 13) (v := ?_) rfl (by kernel_rfl) (by kernel_rfl) (by kernel_rfl) (by kernel_rfl) (fun _ _ _ h => h) (Or.inl ⟨by first | (go_simp; done) | (go_simp; omega), ?_⟩) (by assumption) ?_
          rotate_left
          · intro w hSw
            try dsimp only at hSw
            go_simp
            all_goals with_reducible rfl
          try simp only [Act.put, List.setIfInBounds_toArray, List.set_cons_zero, List.set_cons_succ]
          refine wpAnyL_one (i := 14) (by kernel_rfl) (by rfl) rfl (fun K hK => ?_)
          go_simp
          refine (HCC.out _ hcur).mono ?_
          rintro e w1 ⟨rfl, hb1⟩
          have hcur2 := hcur.trans (hb1.mono hcur.size)
          go_wp2_with fail
          refine hK.out _ _ (HSX.out _ hcur2) ?_
          clear hK K hcur hb1 hHeld
          have hcur := hcur2
          have hHeld := HSX.out _ hcur2
          clear hcur2
          try simp only [Act.put, List.setIfInBounds_toArray, List.set_cons_zero, List.set_cons_succ]
          refine wpAnyL_take (i := 15) (v := ?_) rfl (by kernel_rfl) (by kernel_rfl) (by kernel_rfl) (by kernel_rfl) (fun _ _ _ h => h) (Or.inl ⟨by first | (go_simp; done) | (go_simp; omega), ?_⟩) (by assumption) ?_
          rotate_left
          · intro w hSw
            try dsimp only at hSw
            go_simp
            all_goals with_reducible rfl
          try simp only [Act.put, List.setIfInBounds_toArray, List.set_cons_zero, List.set_cons_succ]
          refine wpAnyL_tail (i := 16) (by kernel_rfl) (by rfl) rfl (fun K hK => ?_)
          go_simp
          go_wp2_with fail
          refine hK.out _ _ ?_
          clear hK K
          try simp only [Act.put, List.setIfInBounds_toArray, List.set_cons_zero, List.set_cons_succ]
          refine wpAny_done (by kernel_rfl) ?_ _
          have hS1 := HS.out.bel hcur
          have HS1 := Lib.hid hS1
          clear hcur hHeld HSX HS hS1 HCC
          by_cases hzn : z < 0
          · have HO2 := Lib.hid (HX.out (HY.out.1 hzn))
            clear HX HN HO HY
            go_upto_region 6 with fail
            have b1 := owns_after HS1.out.2.2.1 (Below.drew (Below.refl w1.heap.size w1))
            have HSD := Lib.hid (own_set (own_set b1 j y) p x)
            have HSY : Hid (∀ w', Below w1.heap.size w1 w' → (fun w' => Below w1.heap.size w1 w' ∧ w'.cell? ⟨g, j, none⟩ = some (.int .i64 x) ∧ w'.cell? ⟨g, p, none⟩ = some (.int .i64 y)) w') := fun w' h => ⟨h, by rw [HXX.out]; exact cell_later h (HS1.out.get (by omega)), by rw [HYY.out]; exact cell_later h (HS1.out.get (by omega))⟩
            refine wp_region_L (S := fun _ => True) (T := []) (by kernel_rfl) trivial (fun hTop => ?_)
            refine wpAnyL_take (i := 2) (v := ?_) rfl (by kernel_rfl) (by kernel_rfl) (by kernel_rfl) (by kernel_rfl) (fun _ _ _ h => h) (Or.inl ⟨by rfl, ?_⟩) (by assumption) ?_
            rotate_left
            · intro w hSw
              try dsimp only at hSw
              go_simp
              all_goals with_reducible rfl
            try simp only [Act.put, List.setIfInBounds_toArray, List.set_cons_zero, List.set_cons_succ]
            refine wpAnyL_take (i := 3) (v := ?_) rfl (by kernel_rfl) (by kernel_rfl) (by kernel_rfl) (by kernel_rfl) (fun _ _ _ h => h) (Or.inl ⟨by rfl, ?_⟩) (by assumption) ?_
            rotate_left
            · intro w hSw
              try dsimp only at hSw
              go_simp
              all_goals with_reducible rfl
            try simp only [Act.put, List.setIfInBounds_toArray, List.set_cons_zero, List.set_cons_succ]
            refine wpAnyL_take (i := 4) (v := ?_) rfl (by kernel_rfl) (by kernel_rfl) (by kernel_rfl) (by kernel_rfl) (fun _ _ _ h => h) (Or.inl ⟨by rfl, ?_⟩) (by assumption) ?_
            rotate_left
            · intro w hSw
              try dsimp only at hSw
              go_simp
              all_goals with_reducible rfl
            try simp only [Act.put, List.setIfInBounds_toArray, List.set_cons_zero, List.set_cons_succ]
            clear hTop
            have hHeld := HSY.out _ (Below.drew (Below.refl w1.heap.size w1))
            refine wpAnyL_turn (S2 := fun w' => Below w1.heap.size w1 w' ∧ w'.cell? ⟨g, j, none⟩ = some (.int .i64 x) ∧ w'.cell? ⟨g, p, none⟩ = some (.int .i64 y)) (T2 := [15, 17]) ?_
            refine wpAnyL_take (i := 0) (v := ?_) rfl (by kernel_rfl) (by kernel_rfl) (by kernel_rfl) (by kernel_rfl) (fun _ _ _ h => h) (Or.inl ⟨by rfl, ?_⟩) (by assumption) ?_
            rotate_left
            · intro w hSw
              try dsimp only at hSw
              go_simp
              all_goals with_reducible rfl
            try simp only [Act.put, List.setIfInBounds_toArray, List.set_cons_zero, List.set_cons_succ]
            refine wpAnyL_take (i := 1) (v := ?_) rfl (by kernel_rfl) (by kernel_rfl) (by kernel_rfl) (by kernel_rfl) (fun _ _ _ h => h) (Or.inl ⟨by rfl, ?_⟩) (by assumption) ?_
            rotate_left
            · intro w hSw
              try dsimp only at hSw
              go_simp
              all_goals with_reducible rfl
            try simp only [Act.put, List.setIfInBounds_toArray, List.set_cons_zero, List.set_cons_succ]
            refine wpAnyL_take (i := 5) (v := ?_) rfl (by kernel_rfl) (by kernel_rfl) (by kernel_rfl) (by kernel_rfl) (fun _ _ _ h => h) (Or.inl ⟨by rfl, ?_⟩) (by assumption) ?_
            rotate_left
            · intro w hSw
              try dsimp only at hSw
              go_simp
              all_goals with_reducible rfl
            try simp only [Act.put, List.setIfInBounds_toArray, List.set_cons_zero, List.set_cons_succ]
            refine wpAnyL_take (i := 6) (v := ?_) rfl (by kernel_rfl) (by kernel_rfl) (by kernel_rfl) (by kernel_rfl) (fun _ _ _ h => h) (Or.inl ⟨by rfl, ?_⟩) (by assumption) ?_
            rotate_left
            · intro w hSw
              try dsimp only at hSw
              go_simp
              all_goals with_reducible rfl
            try simp only [Act.put, List.setIfInBounds_toArray, List.set_cons_zero, List.set_cons_succ]
            refine wpAnyL_take (i := 7) (v := ?_) rfl (by kernel_rfl) (by kernel_rfl) (by kernel_rfl) (by kernel_rfl) (fun _ _ _ h => h) (Or.inl ⟨by rfl, ?_⟩) (by assumption) ?_
            rotate_left
            · intro w hSw
              try dsimp only at hSw
              go_simp
              all_goals with_reducible rfl
            try simp only [Act.put, List.setIfInBounds_toArray, List.set_cons_zero, List.set_cons_succ]
            refine wpAnyL_take (i := 8) (v := ?_) rfl (by kernel_rfl) (by kernel_rfl) (by kernel_rfl) (by kernel_rfl) (fun _ _ _ h => h) (Or.inl ⟨by rfl, ?_⟩) (by assumption) ?_
            rotate_left
            · intro w hSw
              try dsimp only at hSw
              go_simp
              all_goals with_reducible rfl
            try simp only [Act.put, List.setIfInBounds_toArray, List.set_cons_zero, List.set_cons_succ]
            refine wpAnyL_take (i := 9) (v := ?_) rfl (by kernel_rfl) (by kernel_rfl) (by kernel_rfl) (by kernel_rfl) (fun _ _ _ h => h) (Or.inl ⟨by rfl, ?_⟩) (by assumption) ?_
            rotate_left
            · intro w hSw
              try dsimp only at hSw
              go_simp
              all_goals with_reducible rfl
            try simp only [Act.put, List.setIfInBounds_toArray, List.set_cons_zero, List.set_cons_succ]
            refine wpAnyL_take (i := 10) (v := ?_) rfl (by kernel_rfl) (by kernel_rfl) (by kernel_rfl) (by kernel_rfl) (fun _ _ _ h => h) (Or.inl ⟨by rfl, ?_⟩) (by assumption) ?_
            rotate_left
            · intro w hSw
              try dsimp only at hSw
              go_simp
              all_goals with_reducible rfl
            try simp only [Act.put, List.setIfInBounds_toArray, List.set_cons_zero, List.set_cons_succ]
            refine wpAnyL_take (i := 11) (v := ?_) rfl (by kernel_rfl) (by kernel_rfl) (by kernel_rfl) (by kernel_rfl) (fun _ _ _ h => h) (Or.inl ⟨by rfl, ?_⟩) (by assumption) ?_
            rotate_left
            · intro w hSw
              try dsimp only at hSw
              go_simp
              all_goals with_reducible rfl
            try simp only [Act.put, List.setIfInBounds_toArray, List.set_cons_zero, List.set_cons_succ]
            refine wpAnyL_take (i := 12) (v := ?_) rfl (by kernel_rfl) (by kernel_rfl) (by kernel_rfl) (by kernel_rfl) (fun _ _ _ h => h) (Or.inl ⟨by rfl, ?_⟩) (by assumption) ?_
            rotate_left
            · intro w hSw
              try dsimp only at hSw
              go_simp
              all_goals with_reducible rfl
            try simp only [Act.put, List.setIfInBounds_toArray, List.set_cons_zero, List.set_cons_succ]
            refine wpAnyL_take (i := 13) (v := ?_) rfl (by kernel_rfl) (by kernel_rfl) (by kernel_rfl) (by kernel_rfl) (fun _ _ _ h => h) (Or.inl ⟨by rfl, ?_⟩) (by assumption) ?_
            rotate_left
            · intro w hSw
              try dsimp only at hSw
              go_simp
              all_goals with_reducible rfl
            try simp only [Act.put, List.setIfInBounds_toArray, List.set_cons_zero, List.set_cons_succ]
            refine wpAnyL_take (i := 14) (v := ?_) rfl (by kernel_rfl) (by kernel_rfl) (by kernel_rfl) (by kernel_rfl) (fun _ _ _ h => h) (Or.inl ⟨by rfl, ?_⟩) (by assumption) ?_
            rotate_left
            · intro w hSw
              try dsimp only at hSw
              go_simp
              all_goals with_reducible rfl
            try simp only [Act.put, List.setIfInBounds_toArray, List.set_cons_zero, List.set_cons_succ]
            obtain ⟨hcu, m1, m2⟩ := hHeld
            have HCU := Lib.hid hcu
            clear hcu
            have HEND : Hid (SrtR W0 g cap n d0 (swA d j) ((w1.drew.setCell ⟨g, j, none⟩ (.int .i64 y)).setCell ⟨g, p, none⟩ (.int .i64 x))) := by
              have hgb := (HS1.out.2.2.1.lt g rfl).1
              refine ⟨(swA_len _ _).trans HS1.out.1, fun v => (swA_count (by omega) (by rw [HS1.out.1]; omega) v).trans (HS1.out.2.1 v), by rw [HSW.out]; exact HSD.out, ?_⟩
              exact ((HS1.out.2.2.2.trans ((Below.drew (Below.refl w1.heap.size w1)).mono HS1.out.2.2.2.size)).setCell (p := ⟨g, j, none⟩) hgb _).setCell (p := ⟨g, p, none⟩) hgb _
            have f1 := b1.frozenAt j
            have f2 := b1.frozenAt p
            have f3 := HS1.out.2.2.1.frozenAt j
            have f4 := HS1.out.2.2.1.frozenAt p
            have m3 : w1.cell? ⟨g, j, none⟩ = some (.int .i64 x) := m1
            have m4 : w1.cell? ⟨g, p, none⟩ = some (.int .i64 y) := m2
            have m5 : ((w1.drew.setCell ⟨g, j, none⟩ (.int .i64 y)).cell? ⟨g, p, none⟩) = some (.int .i64 y) := by rw [st_ne _ (by intro h; injection h with _ h _; omega)]; exact m2
            have hne1 : ¬ j = p := by omega
            have hne2 : ¬ p = j := by omega
            clear HSY HSD HSW HS1 HXX HYY HCU b1
            refine wpAnyL_tail (i := 15) (by kernel_rfl) (by rfl) rfl (fun K hK => ?_)
            go_simp
            go_wp2_with fail
            refine hK.out _ _ ?_
            clear hK K
            try simp only [Act.put, List.setIfInBounds_toArray, List.set_cons_zero, List.set_cons_succ]
            refine wpAny_one (i := 16) (by kernel_rfl) rfl (fun K hK => ?_)
            go_simp
            go_wp2_with fail
            refine hK.out _ _ ?_
            clear hK K
            try simp only [Act.put, List.setIfInBounds_toArray, List.set_cons_zero, List.set_cons_succ]
            refine wpAny_one (i := 17) (by kernel_rfl) rfl (fun K hK => ?_)
            go_simp
            go_wp2_with fail
            refine hK.out _ _ ?_
            clear hK K
            try simp only [Act.put, List.setIfInBounds_toArray, List.set_cons_zero, List.set_cons_succ]
            refine wpAny_done (by kernel_rfl) ?_ _
            go_wp2
            exact ⟨⟨p, swA d j, rfl, by omega, HO2.out, HEND.out⟩, by simp only [intOf]; omega⟩
          · have HO2 := Lib.hid (HN.out (fun h => hzn (HY.out.2 h)))
            clear HX HN HO HY
            go_wp2
            exact ⟨⟨i + 1, d, by simp, by omega, by omega, HO2.out, HS1.out⟩, by simp only [intOf]; omega⟩
    · have hiI : ¬ (i : Int) < n := by omega
      go_wp2
      go_end0
      exact ⟨rfl, d, fun p q a b => HO.out p q a (by omega), HS.out⟩
end Go.Proofs.Ytecmnebppngcbaa

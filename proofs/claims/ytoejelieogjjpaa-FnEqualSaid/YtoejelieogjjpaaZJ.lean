/- letter, Compare, compare. -/
import Derived.Test.YtoejelieogjjpaaZI
import Derived.Test.YtoejelieogjjpaaY8
namespace Go.Proofs.Ytoejelieogjjpaa
open Go.ChangeShapes Go.WideShapes Go.RowKit
set_option linter.unusedVariables false
set_option linter.unusedSimpArgs false
set_option maxHeartbeats 2000000
set_option maxRecDepth 100000
/-- the order of two texts -/
def cmpB (u v : List UInt8) : Int := if Op.bytesLess u v = true then -1 else if (u == v) = true then 0 else 1
def cmpI (x y : Int) : Int := if x < y then -1 else if y < x then 1 else 0
theorem cmpB_nil_l (b : UInt8) (y : List UInt8) : cmpB [] (b :: y) = -1 := rfl
theorem cmpB_nil_r (b : UInt8) (y : List UInt8) : cmpB (b :: y) [] = 1 := rfl
theorem cmpB_same (a : UInt8) (x y : List UInt8) : cmpB (a :: x) (a :: y) = cmpB x y := by
  simp [cmpB, Op.bytesLess]
theorem cmpB_diff {a b : UInt8} (h : a ≠ b) (x y : List UInt8) : cmpB (a :: x) (b :: y) = cmpB [a] [b] := by
  simp [cmpB, Op.bytesLess, h]
theorem cmpB_at : ∀ (x y : List UInt8), cmpB x y = if cpl x y < x.length ∧ cpl x y < y.length then cmpB [x.getD (cpl x y) 0] [y.getD (cpl x y) 0] else cmpI x.length y.length
  | [], [] => rfl
  | [], b :: y => by rw [cpl_nil, cmpB_nil_l, if_neg (by simp)]; simp [cmpI]
  | a :: x, [] => by rw [cpl_nil2, cmpB_nil_r, if_neg (by simp)]; simp [cmpI]; try omega
  | a :: x, b :: y => by
    by_cases hab : a = b
    · subst hab
      rw [cmpB_same, cmpB_at x y, cpl_cons, if_pos rfl]
      simp [cmpI]
    · rw [cmpB_diff hab, cpl_cons, if_neg hab, if_pos (by simp)]
      simp
@[simp] theorem baL (u : List UInt8) : (⟨u.toArray⟩ : ByteArray).toList = u := by simp
theorem f_isNaNZ (u : ByteArray) (w : World) : Calls Try.prog 64 #[.string u] w fun e w' => e = .returned (.bool false) ∧ w = w' := by
  go_enter Try.func64, Try.ntmps64
  go_wp2
  go_ret
  exact ⟨ret_bool (by simp), rfl⟩
theorem f_CompareZ (u v : ByteArray) (w : World) : Calls Try.prog 48 #[.string u, .string v] w fun e w' => e = .returned (.int .i64 (cmpB u.toList v.toList)) ∧ w = w' := by
  cases h1 : Op.bytesLess u.toList v.toList
  · cases h2 : (u.toList == v.toList)
    all_goals
      go_enter Try.func48, Try.ntmps48
      go_wp2_with (go_at_call 64; refine (f_isNaNZ _ _).mono ?_; rintro e w' ⟨rfl, rfl⟩)
      go_ret
      exact ⟨ret_int (by simp [cmpB, h1, h2]), rfl⟩
  · go_enter Try.func48, Try.ntmps48
    go_wp2_with (go_at_call 64; refine (f_isNaNZ _ _).mono ?_; rintro e w' ⟨rfl, rfl⟩)
    go_ret
    exact ⟨ret_int (by simp [cmpB, h1]), rfl⟩
theorem f_isNaNI (u : Int) (w : World) : Calls Try.prog 66 #[.int .i64 u] w fun e w' => e = .returned (.bool false) ∧ w = w' := by
  go_enter Try.func66, Try.ntmps66
  go_wp2
  go_ret
  exact ⟨ret_bool (by simp), rfl⟩
theorem f_CompareI (u v : Int) (w : World) : Calls Try.prog 50 #[.int .i64 u, .int .i64 v] w fun e w' => e = .returned (.int .i64 (cmpI u v)) ∧ w = w' := by
  by_cases h1 : u < v
  · go_enter Try.func50, Try.ntmps50
    go_wp2_with (go_at_call 66; refine (f_isNaNI _ _).mono ?_; rintro e w' ⟨rfl, rfl⟩)
    go_ret
    exact ⟨ret_int (by simp [cmpI, h1]), rfl⟩
  · by_cases h2 : v < u
    all_goals
      go_enter Try.func50, Try.ntmps50
      go_wp2_with (go_at_call 66; refine (f_isNaNI _ _).mono ?_; rintro e w' ⟨rfl, rfl⟩)
      go_ret
      exact ⟨ret_int (by unfold cmpI; split <;> (try split) <;> omega), rfl⟩
theorem pt_oneZ {l : List Ru} {i : Int} (h0 : 0 ≤ i) (h1 : i.toNat < (wd l).length) : ptX l i (i + 1) = [(wd l).getD i.toNat 0] := by
  have := ptX_snoc (l := l) (i := i) (k := i.toNat) (by omega) h0 h1
  rw [show ((i.toNat + 1 : Nat) : Int) = i + 1 by omega, show ((i.toNat : Nat) : Int) = i by omega, ptX_nil] at this
  simpa using this
theorem i_letter (base bw cap : Nat) (a : Option Addr) (l : List Ru) (i : Int) (W : World) (hok : gOk l = true) (hw : WvR base W bw l (.slice a l.length cap)) (h0 : 0 ≤ i) (h1 : i < (wd l).length) (h30 : (wd l).length ≤ 100000) :
    Calls Try.prog 49 #[.pointer (some ⟨bw, 0, none⟩), .int .i64 i] W fun e W' => e = .returned (.string ⟨#[(wd l).getD i.toNat 0]⟩) ∧ Below W.heap.size W W' := by
  have hpt : ptW l i (i + 1) = [(wd l).getD i.toNat 0] := (ptW_law hok h0).trans (pt_oneZ h0 (by omega))
  obtain ⟨x, hx⟩ : ∃ x, x = (wd l).getD i.toNat 0 := ⟨_, rfl⟩
  rw [← hx] at hpt ⊢
  obtain ⟨gl, cl, gm, cm, gs, cs, c0, c1, -, -, hin, hown, -, -⟩ := hw
  have k1 : IntKind.i64.wrap (i + 1) = i + 1 := by rw [IntKind.wrap_i64]; omega
  have HU : Hid (∀ w', Below W.heap.size W w' → Calls Try.prog 65 #[.agg #[.slice a l.length cap], .slice (some ⟨gl, 0, none⟩) l.length cl, .int .i64 i, .int .i64 (i + 1)] w' fun e w2 => e = .returned (.string ⟨#[x]⟩) ∧ Below w'.heap.size w' w2) := fun w' hb => by
    have := i_unpack a (some ⟨gl, 0, none⟩) cap gl cl base l i (i + 1) w' hok (inRu_below hin hb) (fun _ => rfl) (owns_after hown hb) (by rw [hpt]; simp)
    rw [hpt] at this
    exact this
  have HSX : Hid (∀ w', Below W.heap.size W w' → (fun w' => Below W.heap.size W w' ∧ w'.cell? ⟨bw, 0, none⟩ = some (.slice a l.length cap) ∧ w'.cell? ⟨bw, 1, none⟩ = some (.slice (some ⟨gl, 0, none⟩) l.length cl)) w') :=
    fun w' h => ⟨h, cell_later h c0, cell_later h c1⟩
  clear hin hown hx hpt c0 c1
  go_enter Try.func49, Try.ntmps49
  go_upto_region 1 with fail
  refine wp_region_L (S := fun w' => Below W.heap.size W w' ∧ w'.cell? ⟨bw, 0, none⟩ = some (.slice a l.length cap) ∧ w'.cell? ⟨bw, 1, none⟩ = some (.slice (some ⟨gl, 0, none⟩) l.length cl)) (T := [12]) (by kernel_rfl) (HSX.out _ (Below.drew (Below.refl _ _))) (fun hHeld => ?_)
  have hcur : Below W.heap.size W W.drew := Below.drew (Below.refl _ _)
  refine wpAnyL_take (i := 0) (v := ?_) rfl (by kernel_rfl) (by kernel_rfl) (by kernel_rfl) (by kernel_rfl) (fun _ _ _ h => h) (Or.inl ⟨by rfl, ?_⟩) (by assumption) ?_
  rotate_left
  · intro w hSw
    try dsimp only at hSw
    go_simp
    all_goals with_reducible rfl
  try simp only [Act.put, List.setIfInBounds_toArray, List.set_cons_zero, List.set_cons_succ]
  refine wpAnyL_take (i := 1) (v := ?_) rfl (by kernel_rfl) (by kernel_rfl) (by kernel_rfl) (by kernel_rfl) (fun _ _ _ h => h) (Or.inl ⟨by rfl, ?_⟩) (by assumption) ?_
  rotate_left
  · intro w hSw
    try dsimp only at hSw
    go_simp
    all_goals with_reducible rfl
  try simp only [Act.put, List.setIfInBounds_toArray, List.set_cons_zero, List.set_cons_succ]
  refine wpAnyL_take (i := 2) (v := ?_) rfl (by kernel_rfl) (by kernel_rfl) (by kernel_rfl) (by kernel_rfl) (fun _ _ _ h => h) (Or.inl ⟨by rfl, ?_⟩) (by assumption) ?_
  rotate_left
  · intro w hSw
    try dsimp only at hSw
    go_simp
    all_goals with_reducible rfl
  try simp only [Act.put, List.setIfInBounds_toArray, List.set_cons_zero, List.set_cons_succ]
  refine wpAnyL_take (i := 3) (v := ?_) rfl (by kernel_rfl) (by kernel_rfl) (by kernel_rfl) (by kernel_rfl) (fun _ _ _ h => h) (Or.inl ⟨by rfl, ?_⟩) (by assumption) ?_
  rotate_left
  · intro w hSw
    try dsimp only at hSw
    go_simp
    all_goals with_reducible rfl
  try simp only [Act.put, List.setIfInBounds_toArray, List.set_cons_zero, List.set_cons_succ]
  refine wpAnyL_take (i := 4) (v := ?_) rfl (by kernel_rfl) (by kernel_rfl) (by kernel_rfl) (by kernel_rfl) (fun _ _ _ h => h) (Or.inl ⟨by rfl, ?_⟩) (by assumption) ?_
  rotate_left
  · intro w hSw
    try dsimp only at hSw
    go_simp
    all_goals with_reducible rfl
  try simp only [Act.put, List.setIfInBounds_toArray, List.set_cons_zero, List.set_cons_succ]
  refine wpAnyL_take (i := 5) (v := ?_) rfl (by kernel_rfl) (by kernel_rfl) (by kernel_rfl) (by kernel_rfl) (fun _ _ _ h => h) (Or.inl ⟨by rfl, ?_⟩) (by assumption) ?_
  rotate_left
  · intro w hSw
    try dsimp only at hSw
    go_simp
    all_goals with_reducible rfl
  try simp only [Act.put, List.setIfInBounds_toArray, List.set_cons_zero, List.set_cons_succ]
  refine wpAnyL_take (i := 6) (v := ?_) rfl (by kernel_rfl) (by kernel_rfl) (by kernel_rfl) (by kernel_rfl) (fun _ _ _ h => h) (Or.inl ⟨by rfl, ?_⟩) (by assumption) ?_
  rotate_left
  · intro w hSw
    try dsimp only at hSw
    go_simp
    all_goals with_reducible rfl
  try simp only [Act.put, List.setIfInBounds_toArray, List.set_cons_zero, List.set_cons_succ]
  refine wpAnyL_take (i := 7) (v := ?_) rfl (by kernel_rfl) (by kernel_rfl) (by kernel_rfl) (by kernel_rfl) (fun _ _ _ h => h) (Or.inl ⟨by rfl, ?_⟩) (by assumption) ?_
  rotate_left
  · intro w hSw
    try dsimp only at hSw
    go_simp
    all_goals with_reducible rfl
  try simp only [Act.put, List.setIfInBounds_toArray, List.set_cons_zero, List.set_cons_succ]
  refine wpAnyL_take (i := 8) (v := ?_) rfl (by kernel_rfl) (by kernel_rfl) (by kernel_rfl) (by kernel_rfl) (fun _ _ _ h => h) (Or.inl ⟨by rfl, ?_⟩) (by assumption) ?_
  rotate_left
  · intro w hSw
    try dsimp only at hSw
    go_simp
    all_goals with_reducible rfl
  try simp only [Act.put, List.setIfInBounds_toArray, List.set_cons_zero, List.set_cons_succ]
  refine wpAnyL_take (i := 9) (v := ?_) rfl (by kernel_rfl) (by kernel_rfl) (by kernel_rfl) (by kernel_rfl) (fun _ _ _ h => h) (Or.inl ⟨by rfl, ?_⟩) (by assumption) ?_
  rotate_left
  · intro w hSw
    try dsimp only at hSw
    go_simp
    all_goals with_reducible rfl
  try simp only [Act.put, List.setIfInBounds_toArray, List.set_cons_zero, List.set_cons_succ]
  refine wpAnyL_take (i := 10) (v := ?_) rfl (by kernel_rfl) (by kernel_rfl) (by kernel_rfl) (by kernel_rfl) (fun _ _ _ h => h) (Or.inl ⟨by rfl, ?_⟩) (by assumption) ?_
  rotate_left
  · intro w hSw
    try dsimp only at hSw
    go_simp
    all_goals with_reducible rfl
  try simp only [Act.put, List.setIfInBounds_toArray, List.set_cons_zero, List.set_cons_succ]
  refine wpAnyL_one (i := 11) (by kernel_rfl) (by rfl) rfl (fun K hK => ?_)
  go_simp
  go_at_call 65
  refine (HU.out _ hcur).mono ?_
  rintro e w1 ⟨rfl, hb1⟩
  have hcur2 := hcur.trans (hb1.mono hcur.size)
  go_wp2_with fail
  refine hK.out _ _ (HSX.out _ hcur2) ?_
  clear hK K hcur hb1 hHeld
  have hcur := hcur2
  have hHeld := HSX.out _ hcur2
  clear hcur2
  try simp only [Act.put, List.setIfInBounds_toArray, List.set_cons_zero, List.set_cons_succ]
  have HCU := Lib.hid hcur
  clear hcur hHeld HSX HU
  refine wpAnyL_tail (i := 12) (by kernel_rfl) (by rfl) rfl (fun K hK => ?_)
  go_simp
  go_wp2_with fail
  refine hK.out _ _ ?_
  clear hK K
  try simp only [Act.put, List.setIfInBounds_toArray, List.set_cons_zero, List.set_cons_succ]
  refine wpAny_done (by kernel_rfl) ?_ _
  go_wp2
  go_ret
  exact ⟨rfl, HCU.out⟩
theorem i_compare (base bw cap : Nat) (a : Option Addr) (l : List Ru) (i j : Int) (W : World) (hok : gOk l = true) (hw : WvR base W bw l (.slice a l.length cap)) (hl : letC (wd l)) (h30 : (wd l).length ≤ 30)
    (hi : 0 ≤ i) (hj : 0 ≤ j) (hin : i ≤ (wd l).length) (hjn : j ≤ (wd l).length) :
    Calls Try.prog 29 #[.pointer (some ⟨bw, 0, none⟩), .int .i64 i, .pointer (some ⟨bw, 0, none⟩), .int .i64 j] W fun e W' => e = .returned (.int .i64 (cmpB (sfx l i) (sfx l j))) ∧ Below W.heap.size W W' := by
  have hle := cpl_le (sfx l i) (sfx l j)
  have HC : Hid (cmpB (sfx l i) (sfx l j) = if cpl (sfx l i) (sfx l j) < (wd l).length - i.toNat ∧ cpl (sfx l i) (sfx l j) < (wd l).length - j.toNat then cmpB [(wd l).getD (i.toNat + cpl (sfx l i) (sfx l j)) 0] [(wd l).getD (j.toNat + cpl (sfx l i) (sfx l j)) 0] else cmpI ((wd l).length - i) ((wd l).length - j)) := by
    show _ = _
    rw [cmpB_at, sfx_len, sfx_len]
    congr 1
    · congr 1 <;> simp [sfx, List.getD_eq_getElem?_getD]
    · congr 1 <;> omega
  rw [sfx_len, sfx_len] at hle
  have HCO := Lib.hid (fun W hw => i_common base bw cap a l i j W hok hw hl h30 hi hj hin hjn)
  have HL := Lib.hid (fun W hw => i_length base bw cap a l W hok hw)
  have HLE := Lib.hid (fun i W hw h0 h1 => i_letter base bw cap a l i W hok hw h0 h1 (by omega))
  have HW := Lib.hid hw
  obtain ⟨c, hc⟩ : ∃ c, c = cpl (sfx l i) (sfx l j) := ⟨_, rfl⟩
  obtain ⟨z, hz⟩ : ∃ z, z = cmpB (sfx l i) (sfx l j) := ⟨_, rfl⟩
  obtain ⟨n, hn⟩ : ∃ n, n = (wd l).length := ⟨_, rfl⟩
  rw [← hn] at h30 hin hjn hle HL HLE HC
  rw [← hc] at hle HCO HC
  rw [← hz] at HC ⊢
  have k1 : IntKind.i64.wrap ((n : Int) - i) = n - i := by rw [IntKind.wrap_i64]; omega
  have k2 : IntKind.i64.wrap ((n : Int) - j) = n - j := by rw [IntKind.wrap_i64]; omega
  have k3 : IntKind.i64.wrap (i + c) = i + c := by rw [IntKind.wrap_i64]; omega
  have k4 : IntKind.i64.wrap (j + c) = j + c := by rw [IntKind.wrap_i64]; omega
  clear hn hc hz hw hl
  go_enter Try.func29, Try.ntmps29
  go_wp2_with fail
  refine (HCO.out _ HW.out).mono ?_
  rintro e W1 ⟨rfl, hb1⟩
  have HW1 := Lib.hid (HW.out.bel hb1)
  clear HCO HW
  go_wp2_with fail
  refine (HL.out _ HW1.out).mono ?_
  rintro e W2 ⟨rfl, hb2⟩
  have HB := Lib.hid (hb1.trans (hb2.mono hb1.size))
  have HW2 := Lib.hid (HW1.out.bel hb2)
  clear hb1 hb2 HW1
  have hbz : ∀ x y : UInt8, (⟨#[x]⟩ : ByteArray).toList = [x] := fun x _ => by simp
  by_cases h1 : i + c < n
  · by_cases h2 : j + c < n
    · have hz : z = _ := HC.out.trans (if_pos ⟨by omega, by omega⟩)
      have HZ := Lib.hid hz
      have k5 : (i + c).toNat = i.toNat + c := by omega
      have k6 : (j + c).toNat = j.toNat + c := by omega
      have L1 := Lib.hid (fun W hw => HLE.out (i + c) W hw (by omega) h1)
      have L2 := Lib.hid (fun W hw => HLE.out (j + c) W hw (by omega) h2)
      rw [k5] at L1
      rw [k6] at L2
      generalize (wd l).getD (i.toNat + c) 0 = p1 at *
      generalize (wd l).getD (j.toNat + c) 0 = p2 at *
      clear HC hz HLE k5 k6
      go_wp2_with fail
      refine (HL.out _ HW2.out).mono ?_
      rintro e W3 ⟨rfl, hb3⟩
      have HB3 := Lib.hid (HB.out.trans (hb3.mono HB.out.size))
      have HW3 := Lib.hid (HW2.out.bel hb3)
      clear hb3 HB HW2
      go_wp2_with fail
      refine (L1.out _ HW3.out).mono ?_
      rintro e W4 ⟨rfl, hb4⟩
      have HB4 := Lib.hid (HB3.out.trans (hb4.mono HB3.out.size))
      have HW4 := Lib.hid (HW3.out.bel hb4)
      clear hb4 HB3 HW3
      go_wp2_with fail
      refine (L2.out _ HW4.out).mono ?_
      rintro e W5 ⟨rfl, hb5⟩
      have HB5 := Lib.hid (HB4.out.trans (hb5.mono HB4.out.size))
      clear hb5 HB4 HW4 HL
      go_wp2_with fail
      refine (f_CompareZ _ _ _).mono ?_
      rintro e W6 ⟨rfl, rfl⟩
      go_wp2
      go_ret
      exact ⟨ret_int HZ.out.symm, HB5.out⟩
    · have hz : z = _ := HC.out.trans (if_neg (by omega))
      have HZ := Lib.hid hz
      clear HC hz HLE
      go_wp2_with fail
      refine (HL.out _ HW2.out).mono ?_
      rintro e W3 ⟨rfl, hb3⟩
      have HB3 := Lib.hid (HB.out.trans (hb3.mono HB.out.size))
      have HW3 := Lib.hid (HW2.out.bel hb3)
      clear hb3 HB HW2
      go_wp2_with fail
      refine (HL.out _ HW3.out).mono ?_
      rintro e W4 ⟨rfl, hb4⟩
      have HB4 := Lib.hid (HB3.out.trans (hb4.mono HB3.out.size))
      have HW4 := Lib.hid (HW3.out.bel hb4)
      clear hb4 HB3 HW3
      go_wp2_with fail
      refine (HL.out _ HW4.out).mono ?_
      rintro e W5 ⟨rfl, hb5⟩
      have HB5 := Lib.hid (HB4.out.trans (hb5.mono HB4.out.size))
      clear hb5 HB4 HW4 HL
      go_wp2_with fail
      refine (f_CompareI _ _ _).mono ?_
      rintro e W6 ⟨rfl, rfl⟩
      go_wp2
      go_ret
      exact ⟨ret_int HZ.out.symm, HB5.out⟩
  · have hz : z = _ := HC.out.trans (if_neg (by omega))
    have HZ := Lib.hid hz
    clear HC hz HLE
    go_wp2_with fail
    refine (HL.out _ HW2.out).mono ?_
    rintro e W4 ⟨rfl, hb4⟩
    have HB4 := Lib.hid (HB.out.trans (hb4.mono HB.out.size))
    have HW4 := Lib.hid (HW2.out.bel hb4)
    clear hb4 HB HW2
    go_wp2_with fail
    refine (HL.out _ HW4.out).mono ?_
    rintro e W5 ⟨rfl, hb5⟩
    have HB5 := Lib.hid (HB4.out.trans (hb5.mono HB4.out.size))
    clear hb5 HB4 HW4 HL
    go_wp2_with fail
    refine (f_CompareI _ _ _).mono ?_
    rintro e W6 ⟨rfl, rfl⟩
    go_wp2
    go_ret
    exact ⟨ret_int HZ.out.symm, HB5.out⟩
end Go.Proofs.Ytoejelieogjjpaa

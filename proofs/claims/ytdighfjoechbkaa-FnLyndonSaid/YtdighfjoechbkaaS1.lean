/- markText, and slices of strings that a call owns: eqStringS, markStringS, heldStringS. -/
import Derived.Test.YtdighfjoechbkaaD0
import Derived.Deep.RegionHeld3
namespace Go.Proofs.Ytdighfjoechbkaa
open Go.ChangeShapes Go.WideShapes Go.RowKit
set_option linter.unusedVariables false
set_option linter.unusedSimpArgs false
set_option maxHeartbeats 2000000
set_option maxRecDepth 100000
theorem ret_s {a b : ByteArray} (h : a = b) : Ending.returned (.string a) = .returned (.string b) := by rw [h]
theorem conv_one (y : Nat) (hy : y < 256) (w : World) : (convert 52 9 (.slice (some ⟨w.heap.size, 0, none⟩) 1 1)).run Try.prog (w.alloc (.cells #[.int .u8 (y : Int)] 5)) = .ok (.string ⟨#[UInt8.ofNat y]⟩) (w.alloc (.cells #[.int .u8 (y : Int)] 5)) := by
  refine Go.run_convert_bytes_back _ 52 9 5 ⟨w.heap.size, 0, none⟩ 1 [UInt8.ofNat y] Try.underlying52 Try.underlying5 Try.underlying9 ?_
  intro j hj
  have hj0 : j = 0 := by simp at hj; omega
  subst hj0
  rw [show (⟨w.heap.size, 0, none⟩ : Addr).add 0 = ⟨w.heap.size, 0, none⟩ by unfold Addr.add; split <;> simp_all, World.cell?_alloc_at _ _ _ _ rfl]
  simp; omega
/-- the last digit of a number, as a byte -/
def dgt (n : Nat) : UInt8 := UInt8.ofNat (48 + n % 10)
def mtD : Nat → Nat → ByteArray → ByteArray
  | 0, _, acc => acc
  | f + 1, k, acc => if k = 0 then acc else mtD f (k / 10) (⟨#[dgt k]⟩ ++ acc)
theorem mtD_zero (f : Nat) (acc : ByteArray) : mtD f 0 acc = acc := by
  cases f <;> simp [mtD]
theorem mtD_step (f k : Nat) (acc : ByteArray) (h : k ≠ 0) : mtD (f + 1) k acc = mtD f (k / 10) (⟨#[dgt k]⟩ ++ acc) := by
  rw [mtD, if_neg h]
/-- the text of a mark -/
def mt (k : Nat) : ByteArray := ⟨#[109]⟩ ++ mtD k k ⟨#[]⟩
theorem l_markText (k : Nat) (w : World) (h1 : 1 ≤ k) (h2 : k ≤ 1099511627776) : Calls Try.prog 65 #[.int .i64 k] w fun e w' => e = .returned (.string (mt k)) ∧ Below w.heap.size w w' := by
  have H0 : Hid (mt k = ⟨#[109]⟩ ++ mtD k k ⟨#[]⟩) := rfl
  go_enter Try.func65, Try.ntmps65
  go_wp2
  go_loopw [0, 3] (fun i s wr => Below w.heap.size w wr ∧ ∃ (j f : Nat) (acc : ByteArray), i = .int .i64 j ∧ s = .string acc ∧ j ≤ f ∧ acc.size + j ≤ k ∧ mtD f j acc = mtD k k ⟨#[]⟩) (fun i _ _ => (intOf i).toNat)
  case atStart => exact ⟨Below.refl _ _, k, k, ⟨#[]⟩, rfl, rfl, Nat.le_refl _, by show 0 + k ≤ k; omega, rfl⟩
  case round =>
    obtain ⟨hb, j, f, acc, rfl, rfl, hjf, hsz, heq⟩ := hrel
    have HE := Lib.hid heq
    have HB := Lib.hid hb
    clear heq
    by_cases hj : j = 0
    · have HF : Hid (acc = mtD k k ⟨#[]⟩) := by
        show _ = _
        rw [← HE.out, hj, mtD_zero]
      have hb0 : ¬ 0 < j := by omega
      clear hj
      go_wp2
      go_ret
      exact ⟨ret_s (by rw [H0.out, ← HF.out]), HB.out⟩
    · have hj0 : 0 < j := by omega
      obtain ⟨f', hf'⟩ : ∃ f', f = f' + 1 := ⟨f - 1, by omega⟩
      have hd : j / 10 ≤ f' := by omega
      have hd2 : j / 10 + 1 ≤ j := by omega
      have HN := Lib.hid (mtD_step f' j acc hj)
      have HF' := Lib.hid hf'
      have hm := Nat.mod_lt j (show 10 > 0 by decide)
      clear hj hf'
      have hcv : _ = Result.ok (Value.string ⟨#[dgt j]⟩) _ := conv_one (48 + j % 10) (by omega) wr
      rw [show ((48 + j % 10 : Nat) : Int) = 48 + (j : Int) % 10 by omega] at hcv
      have hsum : (⟨#[dgt j]⟩ ++ acc : ByteArray).size = acc.size + 1 := by rw [ByteArray.size_append]; show 1 + _ = _; omega
      have HSUM := Lib.hid hsum
      clear hsum
      go_wp2
      go_roundw
      case rel => exact ⟨HB.out.alloc HB.out.size _, j / 10, f', _, by go_num, rfl, hd, by rw [HSUM.out]; omega, by rw [← HN.out, ← HF'.out]; exact HE.out⟩
      case measure => first | (simp [intOf]; done) | (simp [intOf]; omega)
theorem l_eqStringS (va vb : Value) (xs : List ByteArray) (ba bb : Nat) (w : World) (ha : w.ownsRow ba 9 1 va xs.length (xs.map Value.string)) (hb : w.ownsRow bb 9 1 vb xs.length (xs.map Value.string)) (hx : xs.length ≤ 1099511627776) :
    Calls Try.prog 29 #[va, vb] w fun e w' => e = .returned (.bool true) ∧ Qt w w' := by
  rcases owns_cases ha with ⟨rfl, h0, hnil⟩ | ⟨g, cap, rfl, -, hg, hc, hm, -⟩
  · rcases owns_cases hb with ⟨rfl, h1, hnil1⟩ | ⟨g1, cap1, rfl, -, hg1, hc1, hm1, -⟩
    · clear ha hb h0 h1 hnil hnil1 hx
      go_enter Try.func29, Try.ntmps29
      go_wp2
      refine wp_loop_rounds 1 ?_
      rw [rounds_succ]
      go_wp2
      go_ret
      exact ⟨rfl, Qt.refl _⟩
    · clear ha hb hnil hx
      rw [h0]
      clear h0
      go_enter Try.func29, Try.ntmps29
      go_wp2
      refine wp_loop_rounds 1 ?_
      rw [rounds_succ]
      go_wp2
      go_ret
      exact ⟨rfl, Qt.refl _⟩
  · rcases owns_cases hb with ⟨rfl, h1, hnil1⟩ | ⟨g1, cap1, rfl, -, hg1, hc1, hm1, -⟩
    · clear ha hb hnil1 hx
      rw [h1]
      clear h1
      go_enter Try.func29, Try.ntmps29
      go_wp2
      refine wp_loop_rounds 1 ?_
      rw [rounds_succ]
      go_wp2
      go_ret
      exact ⟨rfl, Qt.refl _⟩
    · have hca : ∀ j, j < xs.length → w.cell? ⟨g, j, none⟩ = some (Value.string (xs.getD j ByteArray.empty)) := fun j hj => by
        rw [ha.cellAt j (by omega)]; simp [List.getD, hj]
      have hcb : ∀ j, j < xs.length → w.cell? ⟨g1, j, none⟩ = some (Value.string (xs.getD j ByteArray.empty)) := fun j hj => by
        rw [hb.cellAt j (by omega)]; simp [List.getD, hj]
      clear ha hb
      have HCA := Lib.hid hca
      have HCB := Lib.hid hcb
      clear hca hcb
      go_enter Try.func29, Try.ntmps29
      go_wp2
      go_loopw [5] (fun i wr => Qt w wr ∧ ∃ k : Nat, k ≤ xs.length ∧ i = .int .i64 k) (fun i _ => xs.length - (intOf i).toNat)
      case atStart => exact ⟨Qt.refl _, 0, by omega, rfl⟩
      case round =>
        obtain ⟨⟨q, rfl⟩, k, hk, rfl⟩ := hrel
        by_cases hlt : k < xs.length
        · have hcx := HCA.out k hlt
          have hcy := HCB.out k hlt
          have hin : ((k : Nat) : Int) < xs.length := by omega
          generalize xs.getD k ByteArray.empty = x at *
          go_wp2
          go_quiet (fail)
          go_wp2
          go_roundw
          case rel => exact ⟨(by first | exact Qt.refl _ | exact ⟨_, rfl⟩ | exact qt_dd _ _ _ | assumption), k + 1, by omega, by go_num⟩
          case measure => first | (simp [intOf]; done) | (simp [intOf]; omega)
        · go_wp2
          go_ret
          exact ⟨rfl, ⟨_, rfl⟩⟩
/-- the marks from k on, as texts -/
def mkt (k n : Nat) : List ByteArray := (List.range n).map fun i => mt (k + i)
theorem mkt_of {k n : Nat} {ys : List Value} (hl : ys.length = n) (h : ∀ j, j < n → ys[j]? = some (.string (mt (k + j)))) : ys = (mkt k n).map Value.string := by
  apply List.ext_getElem?
  intro j
  by_cases hj : j < n
  · rw [h j hj]; simp [mkt, hj]
  · rw [List.getElem?_eq_none (by omega), List.getElem?_eq_none (by simp [mkt]; omega)]
/-- a draw, new blocks, and writes to one row -/
theorem grown_below {w w1 w2 : World} {r : Option Nat} (h : w.grownBy w1 r) (hb : Below w1.heap.size w1 w2) : w.grownBy w2 r :=
  ⟨hb.os.trans h.os, hb.tape.trans h.tape, hb.output.trans h.output, Nat.le_trans h.size hb.size, fun k hk hne => by rw [hb.block k (Nat.lt_of_lt_of_le hk h.size)]; exact h.block k hk hne⟩
theorem l_markStringS (v : Value) (n k : Nat) (ys : List Value) (base : Nat) (w : World) (hk1 : 1 ≤ k) (hk : k + n ≤ 1099511627776) (hown : w.ownsRow base 9 1 v n ys) :
    Calls Try.prog 30 #[v, .int .i64 k] w fun e w' => e = .returned (.int .i64 ((k + n : Nat) : Int)) ∧ w'.ownsRow base 9 1 v n ((mkt k n).map Value.string) ∧ w.grownBy w' v.ownBlock := by
  rcases owns_cases hown with ⟨rfl, rfl, rfl⟩ | ⟨g, cap, rfl, -, hg, hc, hm, hyl⟩
  · go_enter Try.func30, Try.ntmps30
    go_wp2
    refine wp_loop_rounds 1 ?_
    rw [rounds_succ]
    go_wp2
    go_ret
    exact ⟨rfl, hown, World.grownBy.refl _ _⟩
  · show Calls _ _ _ _ fun e w' => e = .returned (.int .i64 ((k + n : Nat) : Int)) ∧ w'.ownsRow base 9 1 (.slice (some ⟨g, 0, none⟩) n cap) n ((mkt k n).map Value.string) ∧ w.grownBy w' (some g)
    clear hyl
    unfold maxLen at hm
    go_enter Try.func30, Try.ntmps30
    go_wp2
    go_loopw [1, 5] (fun m i wr => w.grownBy wr (some g) ∧ ∃ j : Nat, j ≤ n ∧ i = .int .i64 j ∧ m = .int .i64 ((k + j : Nat) : Int) ∧ ∃ zs, wr.ownsRow base 9 1 (.slice (some ⟨g, 0, none⟩) n cap) n zs ∧ ∀ t, t < j → zs[t]? = some (.string (mt (k + t)))) (fun _ i _ => n - (intOf i).toNat)
    case atStart => exact ⟨World.grownBy.refl _ _, 0, by omega, rfl, rfl, ys, hown, fun t ht => by omega⟩
    case round =>
      obtain ⟨hgr, j, hj, rfl, rfl, zs, hzs, hall⟩ := hrel
      have HA := Lib.hid hall
      clear hall hown
      have hzl : zs.length = n := by have := hzs.1; omega
      by_cases hlt : j < n
      · have HZ := Lib.hid hzl
        have HG := Lib.hid hgr
        have HO := Lib.hid hzs
        have hin : ((j : Nat) : Int) < n := by omega
        clear hzl hgr hzs
        go_wp2_with fail
        refine (l_markText _ _ (by omega) (by omega)).mono ?_
        rintro e w1 ⟨rfl, hb1⟩
        have hzs := owns_after HO.out hb1
        obtain ⟨z, hz⟩ : ∃ z, zs[j]? = some z := ⟨_, List.getElem?_eq_getElem (by have := HZ.out; omega)⟩
        have hcell : w1.cell? ⟨g, j, none⟩ = some z := by rw [hzs.cellAt j (by omega)]; exact hz
        have hfro : w1.frozen? ⟨g, j, none⟩ = false := hzs.frozenAt j
        have HST := Lib.hid (hzs.stored j (.string (mt (k + j))))
        have HB1 := Lib.hid hb1
        clear hz hzs hb1
        generalize hy : mt (k + j) = y at *
        have HY := Lib.hid hy
        clear hy
        go_wp2
        go_roundw
        case rel =>
          refine ⟨grown_set (grown_below HG.out HB1.out) _ _, j + 1, by omega, by go_num, by go_num, _, HST.out.1, fun t ht => ?_⟩
          have := HZ.out
          by_cases he : t = j
          · subst he; rw [List.getElem?_set_self (by omega), HY.out]
          · rw [List.getElem?_set_ne (by omega)]; exact HA.out t (by omega)
        case measure => first | (simp [intOf]; done) | (simp [intOf]; omega)
      · have ej : j = n := by omega
        subst ej
        have hfin := mkt_of hzl HA.out
        have HF := Lib.hid hfin
        clear hfin
        go_wp2
        go_ret
        exact ⟨rfl, by rw [← HF.out]; exact hzs, hgr⟩
theorem l_heldStringS (v : Value) (n k : Nat) (base : Nat) (w : World) (hk1 : 1 ≤ k) (hk : k + n ≤ 1099511627776) (hown : w.ownsRow base 9 1 v n ((mkt k n).map Value.string)) :
    Calls Try.prog 31 #[v, .int .i64 k] w fun e w' => e = .returned (.int .i64 ((k + n : Nat) : Int)) ∧ Below w.heap.size w w' := by
  rcases owns_cases hown with ⟨rfl, rfl, hnil⟩ | ⟨g, cap, rfl, -, hg, hc, hm, hyl⟩
  · clear hnil
    go_enter Try.func31, Try.ntmps31
    go_wp2
    refine wp_loop_rounds 1 ?_
    rw [rounds_succ]
    go_wp2
    go_ret
    exact ⟨rfl, Below.refl _ _⟩
  · clear hyl
    unfold maxLen at hm
    have hcell : ∀ j, j < n → w.cell? ⟨g, j, none⟩ = some (.string (mt (k + j))) := fun j hj => by
      rw [hown.cellAt j (by omega)]; simp [mkt, hj]
    have HC := Lib.hid hcell
    clear hcell hown
    go_enter Try.func31, Try.ntmps31
    go_wp2
    go_loopw [1, 5] (fun m i wr => Below w.heap.size w wr ∧ ∃ j : Nat, j ≤ n ∧ i = .int .i64 j ∧ m = .int .i64 ((k + j : Nat) : Int)) (fun _ i _ => n - (intOf i).toNat)
    case atStart => exact ⟨Below.refl _ _, 0, by omega, rfl, rfl⟩
    case round =>
      obtain ⟨hb, j, hj, rfl, rfl⟩ := hrel
      by_cases hlt : j < n
      · have hc1 : wr.cell? ⟨g, j, none⟩ = some (.string (mt (k + j))) := (hb.cell (p := ⟨g, j, none⟩) hg).trans (HC.out j hlt)
        have hin : ((j : Nat) : Int) < n := by omega
        have hmt := fun w => l_markText (k + j) w (by omega) (by omega)
        generalize mt (k + j) = y at *
        have HMT := Lib.hid hmt
        clear hmt
        go_wp2
        go_region_held3 (fun w' => w'.cell? ⟨g, j, none⟩ = some (.string y)) (first | go_keep | (exact (hb1.cell (p := ⟨g, j, none⟩) (by have := hb.size; simp; omega)).trans (by assumption))) ((go_at_call 65; refine (HMT.out _).mono ?_; rintro e w1 ⟨rfl, hb1⟩))
        have HB2 := Lib.hid (hb.drew.trans (hb1.mono (by have := hb.size; simp; omega)))
        clear hb hb1 hc1
        go_wp2
        go_roundw
        case rel => exact ⟨HB2.out, j + 1, by omega, by go_num, by go_num⟩
        case measure => first | (simp [intOf]; done) | (simp [intOf]; omega)
      · have ej : j = n := by omega
        subst ej
        go_wp2
        go_ret
        exact ⟨rfl, hb⟩
theorem l_markS1 (v : Value) (n : Nat) (ys : List Value) (base : Nat) (w : World) (hk : n ≤ 1099511627000) (hown : w.ownsRow base 9 1 v n ys) :
    Calls Try.prog 30 #[v, .int .i64 1] w fun e w' => e = .returned (.int .i64 ((1 + n : Nat) : Int)) ∧ w'.ownsRow base 9 1 v n ((mkt 1 n).map Value.string) ∧ w.grownBy w' v.ownBlock :=
  l_markStringS v n 1 ys base w (by omega) (by omega) hown
theorem l_heldS1 (v : Value) (n : Nat) (base : Nat) (w : World) (hk : n ≤ 1099511627000) (hown : w.ownsRow base 9 1 v n ((mkt 1 n).map Value.string)) :
    Calls Try.prog 31 #[v, .int .i64 1] w fun e w' => e = .returned (.int .i64 ((1 + n : Nat) : Int)) ∧ Below w.heap.size w w' :=
  l_heldStringS v n 1 base w (by omega) (by omega) hown
end Go.Proofs.Ytdighfjoechbkaa

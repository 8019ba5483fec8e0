/- markText, and slices of strings that a call owns: eqStringS, markStringS, heldStringS. -/
import Derived.Test.YtefcdkgfabaffaaD0
import Derived.Deep.RegionHeld3
namespace Go.Proofs.Ytefcdkgfabaffaa
open Go.ChangeShapes Go.WideShapes Go.RowKit
set_option linter.unusedVariables false
set_option linter.unusedSimpArgs false
set_option maxHeartbeats 2000000
set_option maxRecDepth 100000
theorem ret_s {a b : ByteArray} (h : a = b) : Ending.returned (.string a) = .returned (.string b) := by rw [h]
theorem conv_one (y : Nat) (hy : y < 256) (w : World) : (convert 101 9 (.slice (some ⟨w.heap.size, 0, none⟩) 1 1)).run Try.prog (w.alloc (.cells #[.int .u8 (y : Int)] 5)) = .ok (.string ⟨#[UInt8.ofNat y]⟩) (w.alloc (.cells #[.int .u8 (y : Int)] 5)) := by
  refine Go.run_convert_bytes_back _ 101 9 5 ⟨w.heap.size, 0, none⟩ 1 [UInt8.ofNat y] Try.underlying101 Try.underlying5 Try.underlying9 ?_
  intro j hj
  have hj0 : j = 0 := by simp at hj; omega
  subst hj0
  rw [show (⟨w.heap.size, 0, none⟩ : Addr).add 0 = ⟨w.heap.size, 0, none⟩ by unfold Addr.add; split <;> simp_all, World.cell?_alloc_at _ _ _ _ rfl]
  simp; omega
/-- the last digit of a number, as a byte -/
def dgt (n : Nat) : UInt8 := UInt8.ofNat (48 + n % 10)
def mtD : Nat → Nat → ByteArray → ByteArray
  | 0, _, acc => acc
  | f + 1, k, acc => if k = 0 then acc else mtD f (k / 10) (⟨#[dgt k]⟩ ++ acc)
theorem mtD_zero (f : Nat) (acc : ByteArray) : mtD f 0 acc = acc := by
  cases f <;> simp [mtD]
theorem mtD_step (f k : Nat) (acc : ByteArray) (h : k ≠ 0) : mtD (f + 1) k acc = mtD f (k / 10) (⟨#[dgt k]⟩ ++ acc) := by
  rw [mtD, if_neg h]
/-- the text of a mark -/
def mt (k : Nat) : ByteArray := ⟨#[109]⟩ ++ mtD k k ⟨#[]⟩
theorem l_markText (k : Nat) (w : World) (h1 : 1 ≤ k) (h2 : k ≤ 1099511627776) : Calls Try.prog 143 #[.int .i64 k] w fun e w' => e = .returned (.string (mt k)) ∧ Below w.heap.size w w' := by
  have H0 : Hid (mt k = ⟨#[109]⟩ ++ mtD k k ⟨#[]⟩) := rfl
  go_enter Try.func143, Try.ntmps143
  go_wp2
  go_loopw [0, 3] (fun i s wr => Below w.heap.size w wr ∧ ∃ (j f : Nat) (acc : ByteArray), i = .int .i64 j ∧ s = .string acc ∧ j ≤ f ∧ acc.size + j ≤ k ∧ mtD f j acc = mtD k k ⟨#[]⟩) (fun i _ _ => (intOf i).toNat)
  case atStart => exact ⟨Below.refl _ _, k, k, ⟨#[]⟩, rfl, rfl, Nat.le_refl _, by show 0 + k ≤ k; omega, rfl⟩
  case round =>
    obtain ⟨hb, j, f, acc, rfl, rfl, hjf, hsz, heq⟩ := hrel
    have HE := Lib.hid heq
    have HB := Lib.hid hb
    clear heq
    by_cases hj : j = 0
    · have HF : Hid (acc = mtD k k ⟨#[]⟩) := by
        show _ = _
        rw [← HE.out, hj, mtD_zero]
      have hb0 : ¬ 0 < j := by omega
      clear hj
      go_wp2
      go_ret
      exact ⟨ret_s (by rw [H0.out, ← HF.out]), HB.out⟩
    · have hj0 : 0 < j := by omega
      obtain ⟨f', hf'⟩ : ∃ f', f = f' + 1 := ⟨f - 1, by omega⟩
      have hd : j / 10 ≤ f' := by omega
      have hd2 : j / 10 + 1 ≤ j := by omega
      have HN := Lib.hid (mtD_step f' j acc hj)
      have HF' := Lib.hid hf'
      have hm := Nat.mod_lt j (show 10 > 0 by decide)
      clear hj hf'
      have hcv : _ = Result.ok (Value.string ⟨#[dgt j]⟩) _ := conv_one (48 + j % 10) (by omega) wr
      rw [show ((48 + j % 10 : Nat) : Int) = 48 + (j : Int) % 10 by omega] at hcv
      have hsum : (⟨#[dgt j]⟩ ++ acc : ByteArray).size = acc.size + 1 := by rw [ByteArray.size_append]; show 1 + _ = _; omega
      have HSUM := Lib.hid hsum
      clear hsum
      go_wp2
      go_roundw
      case rel => exact ⟨HB.out.alloc HB.out.size _, j / 10, f', _, by go_num, rfl, hd, by rw [HSUM.out]; omega, by rw [← HN.out, ← HF'.out]; exact HE.out⟩
      case measure => first | (simp [intOf]; done) | (simp [intOf]; omega)
theorem l_eqStringS (va vb : Value) (xs : List ByteArray) (ba bb : Nat) (w : World) (ha : w.ownsRow ba 9 1 va xs.length (xs.map Value.string)) (hb : w.ownsRow bb 9 1 vb xs.length (xs.map Value.string)) (hx : xs.length ≤ 1099511627776) :
    Calls Try.prog 133 #[va, vb] w fun e w' => e = .returned (.bool true) ∧ Qt w w' := by
  rcases owns_cases ha with ⟨rfl, h0, hnil⟩ | ⟨g, cap, rfl, -, hg, hc, hm, -⟩
  · rcases owns_cases hb with ⟨rfl, h1, hnil1⟩ | ⟨g1, cap1, rfl, -, hg1, hc1, hm1, -⟩
    · clear ha hb h0 h1 hnil hnil1 hx
      go_enter Try.func133, Try.ntmps133
      go_wp2
      refine wp_loop_rounds 1 ?_
      rw [rounds_succ]
      go_wp2
      go_ret
      exact ⟨rfl, Qt.refl _⟩
    · clear ha hb hnil hx
      rw [h0]
      clear h0
      go_enter Try.func133, Try.ntmps133
      go_wp2
      refine wp_loop_rounds 1 ?_
      rw [rounds_succ]
      go_wp2
      go_ret
      exact ⟨rfl, Qt.refl _⟩
  · rcases owns_cases hb with ⟨rfl, h1, hnil1⟩ | ⟨g1, cap1, rfl, -, hg1, hc1, hm1, -⟩
    · clear ha hb hnil1 hx
      rw [h1]
      clear h1
      go_enter Try.func133, Try.ntmps133
      go_wp2
      refine wp_loop_rounds 1 ?_
      rw [rounds_succ]
      go_wp2
      go_ret
      exact ⟨rfl, Qt.refl _⟩
    · have hca : ∀ j, j < xs.length → w.cell? ⟨g, j, none⟩ = some (Value.string (xs.getD j ByteArray.empty)) := fun j hj => by
        rw [ha.cellAt j (by omega)]; simp [List.getD, hj]
      have hcb : ∀ j, j < xs.length → w.cell? ⟨g1, j, none⟩ = some (Value.string (xs.getD j ByteArray.empty)) := fun j hj => by
        rw [hb.cellAt j (by omega)]; simp [List.getD, hj]
      clear ha hb
      have HCA := Lib.hid hca
      have HCB := Lib.hid hcb
      clear hca hcb
      go_enter Try.func133, Try.ntmps133
      go_wp2
      go_loopw [5] (fun i wr => Qt w wr ∧ ∃ k : Nat, k ≤ xs.length ∧ i = .int .i64 k) (fun i _ => xs.length - (intOf i).toNat)
      case atStart => exact ⟨Qt.refl _, 0, by omega, rfl⟩
      case round =>
        obtain ⟨⟨q, rfl⟩, k, hk, rfl⟩ := hrel
        by_cases hlt : k < xs.length
        · have hcx := HCA.out k hlt
          have hcy := HCB.out k hlt
          have hin : ((k : Nat) : Int) < xs.length := by omega
          generalize xs.getD k ByteArray.empty = x at *
          go_wp2
          go_quiet (fail)
          go_wp2
          go_roundw
          case rel => exact ⟨(by first | exact Qt.refl _ | exact ⟨_, rfl⟩ | exact qt_dd _ _ _ | assumption), k + 1, by omega, by go_num⟩
          case measure => first | (simp [intOf]; done) | (simp [intOf]; omega)
        · go_wp2
          go_ret
          exact ⟨rfl, ⟨_, rfl⟩⟩
end Go.Proofs.Ytefcdkgfabaffaa

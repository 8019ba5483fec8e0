/- A drawn word. -/
import Derived.Test.YtimfbnjgodbgoaaP1
import Derived.Test.YtimfbnjgodbgoaaY1
namespace Go.Proofs.Ytimfbnjgodbgoaa
open Go.ChangeShapes Go.WideShapes Go.RowKit
set_option linter.unusedVariables false
set_option linter.unusedSimpArgs false
set_option maxHeartbeats 1000000
set_option maxRecDepth 100000
theorem own_ne {W : World} {v : Value} {n e base g : Nat} {xs : List Value} (h : W.ownsRow base e 1 v n xs) (hg : g < base) : v.ownBlock = none ∨ v.ownBlock ≠ some g := by
  rcases owns_cases h with ⟨rfl, _⟩ | ⟨gg, cap, rfl, h1, _⟩
  · exact .inl rfl
  · refine .inr (fun e => ?_)
    simp [Value.ownBlock] at e
    omega
theorem own_ge {W : World} {v : Value} {n e base : Nat} {xs : List Value} (h : W.ownsRow base e 1 v n xs) (r : Nat) (hr : v.ownBlock = some r) : base ≤ r := by
  rcases owns_cases h with ⟨rfl, _⟩ | ⟨gg, cap, rfl, h1, _⟩
  · simp [Value.ownBlock] at hr
  · simp [Value.ownBlock] at hr
    omega
theorem allL_put {bs : List UInt8} {y : Nat} (h : allL bs = true) (hy : y ≤ 2) : allL (bs ++ [UInt8.ofNat (97 + y)]) = true := by
  have : y = 0 ∨ y = 1 ∨ y = 2 := by omega
  unfold allL at h ⊢
  rw [List.all_append, h]
  rcases this with rfl | rfl | rfl <;> decide
theorem u8_put {W : World} {base e n : Nat} {v : Value} {bs : List UInt8} {y : Nat} (hy : y ≤ 2) (hn : n = bs.length + 1) (h : W.ownsRow base e 1 v n (u8s bs ++ [.int .u8 (97 + (y : Int))])) :
    W.ownsRow base e 1 v (bs ++ [UInt8.ofNat (97 + y)]).length (u8s (bs ++ [UInt8.ofNat (97 + y)])) := by
  subst hn
  have e : ((UInt8.ofNat (97 + y)).toNat : Int) = 97 + (y : Int) := by
    have : y = 0 ∨ y = 1 ∨ y = 2 := by omega
    rcases this with rfl | rfl | rfl <;> rfl
  rw [show u8s (bs ++ [UInt8.ofNat (97 + y)]) = u8s bs ++ [.int .u8 (97 + (y : Int))] by rw [← e]; simp only [u8s, List.map_append, List.map_cons, List.map_nil]]
  simpa using h
theorem s_l01Drawn (g B : Nat) (l : List UInt8) (m : Nat) (w : World) (hm : m ≤ 100) (hB : B ≤ 100000) (hs : Src w g l B) :
    Calls Try.prog 31 #[.pointer (some ⟨g, 0, none⟩), .int .i64 m] w fun e w' => ∃ s : ByteArray, e = .returned (.string s) ∧ s.size ≤ m ∧ validB s = true ∧ w.grownBy w' (some g) ∧ Src w' g l (B + 5000) := by
  have hg := hs.lt
  go_enter Try.func31, Try.ntmps31
  go_wp2_with fail
  refine (s_pick g B l 3 w (by omega) (by omega) hs).mono ?_
  rintro e w1 ⟨x1, rfl, hx1, hg1, hs1⟩
  go_wp2_with fail
  have hsz1 := hg1.size
  have hsA := Src.kept (row := none) hs1 (World.grownBy_alloc w1 (.cells #[] 5) none) (fun r e => by cases e)
  have hgA : w.grownBy (w1.alloc (.cells #[] 5)) (some g) := hg1.trans ((World.grownBy_alloc w1 (.cells #[] 5) none).but _)
  have howA : (w1.alloc (.cells #[] 5)).ownsRow w.heap.size 5 1 (.slice (some ⟨w1.heap.size, 0, none⟩) 0 0) 0 [] := World.ownsRow_made w1 #[] 0 hsz1 (by decide) (by simp)
  have HG := Lib.hid hg
  generalize w1.alloc (.cells #[] 5) = wA at *
  generalize (Value.slice (some ⟨w1.heap.size, 0, none⟩) 0 0) = vA at *
  clear hs1 hg1 hsz1
  refine (s_pick g (B + 2) l ((m : Int) + 1) wA (by omega) (by omega) hsA).mono ?_
  rintro e w2 ⟨x2, rfl, hx2, hg2, hs2⟩
  have how2 := howA.kept hg2 (own_ne howA HG.out)
  have hgW2 := hgA.trans hg2
  have hx22 : x2 ≤ m := by omega
  have hx12 : x1 ≤ 2 := by omega
  clear hx1 hx2 hsA hgA howA hg2
  go_wp2
  go_loopw [6, 7] (fun v i wr => ∃ (k : Nat) (bs : List UInt8), i = .int .i64 k ∧ bs.length + k ≤ m ∧ allL bs = true ∧ wr.ownsRow w.heap.size 5 1 v bs.length (u8s bs) ∧ w.grownBy wr (some g) ∧ Src wr g l (B + 4 + 2 * bs.length)) (fun _ i _ => (intOf i).toNat)
  case atStart => exact ⟨x2, [], rfl, by simpa using hx22, rfl, by simpa [u8s] using how2, hgW2, hs2.more (by simp)⟩
  case round =>
    obtain ⟨k, bs, rfl, hlen, hal, hown, hgr, hsr⟩ := hrel
    clear how2 hgW2 hs2
    by_cases hk : k = 0
    · subst hk
      have hcv := conv_any hown
      have hsz : ByteArray.size ⟨bs.toArray⟩ = bs.length := by simp [ByteArray.size]
      have hval : validB ⟨bs.toArray⟩ = true := by
        unfold validB
        rw [hsz]
        simp [hal]
        omega
      have hsm : ByteArray.size ⟨bs.toArray⟩ ≤ m := by omega
      have HVAL := Lib.hid hval
      have hsr2 : Src wr g l (B + 4 + 2 * m) := hsr.more (by omega)
      clear hval hown hal hsr hsz hlen
      generalize (⟨bs.toArray⟩ : ByteArray) = S at *
      go_wp2_with fail
      refine (s_one g (B + 4 + 2 * m) l 3 _ (by omega) (by omega) hsr2).mono ?_
      rintro e w3 ⟨b1, rfl, hg3, hs3⟩
      have hgr3 := hgr.trans hg3
      clear hgr hg3 hsr2
      cases b1
      · go_wp2
        go_ret
        exact ⟨S, rfl, hsm, HVAL.out, hgr3, hs3.more (by omega)⟩
      · by_cases h0 : S.size = 0
        · go_wp2
          go_ret
          exact ⟨S, rfl, hsm, HVAL.out, hgr3, hs3.more (by omega)⟩
        · have h0p : 0 < S.size := by omega
          have hSs : S.size ≤ 9223372036854775807 := by omega
          go_wp2_with fail
          refine (s_pick g (B + 4 + 2 * m + 2) l (S.size : Int) _ (by omega) (by omega) hs3).mono ?_
          rintro e w4 ⟨x4, rfl, hx4, hg4, hs4⟩
          have hx44 : (1 : Int) + x4 ≤ S.size := by omega
          have hgr4 := hgr3.trans hg4
          clear hx4 hs3 hgr3 hg4
          have HSM := Lib.hid hsm
          have hpre : ∃ r : ByteArray, S.extract 0 (1 + x4) = r ∧ allL r.data.toList = true ∧ 1 ≤ r.size ∧ r.size ≤ 2 * m := by
            refine ⟨_, rfl, ?_, ?_, ?_⟩
            · have h := HVAL.out
              simp only [validB, Bool.and_eq_true] at h
              have h1 := h.1
              unfold allL at h1 ⊢
              rw [List.all_eq_true] at h1 ⊢
              intro c hc
              apply h1
              rw [ByteArray.data_extract, Array.toList_extract] at hc
              exact List.mem_of_mem_drop (List.mem_of_mem_take hc)
            · rw [ByteArray.size_extract]; omega
            · rw [ByteArray.size_extract]; omega
          obtain ⟨r, hr, har, hr1, hrm⟩ := hpre
          have HR := Lib.hid hr
          clear hr
          go_wp2
          go_loopw [9] (fun v wr => ∃ r : ByteArray, v = .string r ∧ allL r.data.toList = true ∧ 1 ≤ r.size ∧ r.size ≤ 2 * m ∧ w.grownBy wr (some g) ∧ Src wr g l (B + 8 + 2 * m + 2 * r.size)) (fun v _ => 2 * m - (match v with | .string s => s.size | _ => 0))
          case atStart =>
            refine ⟨r, ?_, har, hr1, hrm, hgr4, hs4.more (by omega)⟩
            first | rw [← HR.out]; done | (rw [← HR.out]; congr 2; omega) | trace_state
          case round =>
            clear har hr1 hrm HR
            obtain ⟨r, rfl, har, hr1, hrm, hgr5, hsr5⟩ := hrel
            have hrs : r.size ≤ 9223372036854775807 := by omega
            have hcat1 : r.size + r.size ≤ 9223372036854775807 := by omega
            have hcat4 : ∀ w : World, (Op.stringOp .add r r).run Try.prog w = .ok (.string (r ++ r)) w := fun w => run_string_add_sum w r r hcat1
            have HA := Lib.hid har
            clear har
            have HDONE : Hid (r.size ≤ m → validB r = true) := fun h => by simp only [validB, HA.out, Bool.true_and, decide_eq_true_eq]; omega
            by_cases hlt : r.size < m
            · have hle : r.size ≤ m := by omega
              go_wp2_with fail
              refine (s_one g (B + 8 + 2 * m + 2 * r.size) l 2 _ (by omega) (by omega) hsr5).mono ?_
              rintro e w5 ⟨b5, rfl, hg5, hs5⟩
              have hgr6 := hgr5.trans hg5
              clear hgr5 hg5 hsr5
              cases b5
              · go_wp2
                go_ret
                exact ⟨r, rfl, hle, HDONE.out hle, hgr6, hs5.more (by omega)⟩
              · have hsum : (r ++ r).size = r.size + r.size := by rw [ByteArray.size_append]
                have HC : Hid (allL (r ++ r).data.toList = true) := by
                  show _ = _
                  have h := HA.out
                  unfold allL at h ⊢
                  rw [ByteArray.data_append, Array.toList_append, List.all_append, h]; rfl
                go_wp2
                go_roundw
                case rel => exact ⟨_, rfl, HC.out, by omega, by omega, hgr6, hs5.more (by omega)⟩
                case measure => show 2 * m - (r ++ r).size < 2 * m - r.size; omega
            · by_cases hle : r.size ≤ m
              · go_wp2
                go_ret
                exact ⟨r, rfl, hle, HDONE.out hle, hgr5, hsr5.more (by omega)⟩
              · go_wp2
                go_ret
                exact ⟨S, rfl, HSM.out, HVAL.out, hgr5, hsr5.more (by omega)⟩
    · have hkp : 0 < k := by omega
      go_wp2_with fail
      refine (s_pick g (B + 4 + 2 * bs.length) l (1 + (x1 : Int)) _ (by omega) (by omega) hsr).mono ?_
      rintro e w3 ⟨y, rfl, hy, hg3, hs3⟩
      have hy2 : y ≤ 2 := by omega
      have hown3 := hown.kept hg3 (own_ne hown HG.out)
      have hgr3 := hgr.trans hg3
      clear hown hgr hsr hy hg3
      have hle3 := hgr3.size
      have hbl : bs.length ≤ 1000 := by omega
      go_wp2_with (at_builtin; refine app2 rfl (.tmp 22) (.tmp 28) 22 rfl w.heap.size 5 (.int .u8 0) 1 1 Try.underlying22 info_u8 rfl (by decide) _ _ _ _ _ rfl hown3 [.int .u8 (97 + (y : Int))] rfl (by simp [Value.oneCell']) rfl (by simp) (by omega) (by decide) hle3 ?_; intro v' w4 ho4 hg4 hv4)
      have hgr4 := hgr3.andThen hg4 (fun j hj => .inl (own_ge hown3 j hj))
      have hs4 := hs3.kept hg4 (fun j hj => Nat.lt_of_lt_of_le HG.out (own_ge hown3 j hj))
      clear hown3 hgr3 hs3 hg4 hv4
      go_roundw
      case rel => exact ⟨k - 1, bs ++ [UInt8.ofNat (97 + y)], by rw [show ((k - 1 : Nat) : Int) = (k : Int) - 1 by omega], by simp; omega, allL_put hal hy2, u8_put hy2 rfl ho4, hgr4, hs4.more (by simp; omega)⟩
      case measure => first | (simp [intOf]; done) | (simp [intOf]; omega)
end Go.Proofs.Ytimfbnjgodbgoaa

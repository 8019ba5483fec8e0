/- Rules of grammars: their cells; what the laws do with a grammar that comes in: its size, its copy, its comparison. -/
import Derived.Test.YtefcdkgfabaffaaG0
namespace Go.Proofs.Ytefcdkgfabaffaa
open Go.ChangeShapes Go.WideShapes Go.RowKit
set_option linter.unusedVariables false
set_option linter.unusedSimpArgs false
set_option maxHeartbeats 4000000
set_option maxRecDepth 100000
/-- a rule: its letter, its numbers -/
abbrev Ru := ByteArray × Int × Int
def ruV (l : List Ru) : List Value := l.flatMap fun r => [.string r.1, .int .i64 r.2.1, .int .i64 r.2.2]
def ruA (l : List Ru) (k : Nat) : Ru := l.getD k (⟨#[]⟩, 0, 0)
theorem ruV_len : ∀ l, (ruV l).length = l.length * 3
  | [] => rfl
  | a :: l => by
    have := ruV_len l
    simp [ruV] at *; omega
theorem ruV_at : ∀ (l : List Ru) (k : Nat), k < l.length → (ruV l)[k * 3]? = some (.string (ruA l k).1) ∧ (ruV l)[k * 3 + 1]? = some (.int .i64 (ruA l k).2.1) ∧ (ruV l)[k * 3 + 2]? = some (.int .i64 (ruA l k).2.2)
  | [], k, h => by simp at h
  | a :: l, 0, h => ⟨rfl, rfl, rfl⟩
  | a :: l, k + 1, h => by
    have := ruV_at l k (by simpa using h)
    simp only [ruV, List.flatMap_cons, ruA] at *
    rw [show (k + 1) * 3 = k * 3 + 1 + 1 + 1 by omega]
    simpa using this
theorem ruA_mem {l : List Ru} {k : Nat} (h : k < l.length) : ruA l k ∈ l := by
  rw [ruA, List.getD, List.getElem?_eq_getElem h]; exact List.getElem_mem h
/-- a slice of rules that lies somewhere and reads as a list -/
def InRu (w : World) (v : Value) (l : List Ru) : Prop := InRow w v l.length 3 (ruV l)
theorem inRu_sl {w : World} {v : Value} {l : List Ru} (h : InRu w v l) : ∃ a cap, v = .slice a l.length cap := by
  rcases h with ⟨h0, _, a, cap, rfl⟩ | ⟨b, off, cap, rfl, _⟩
  · exact ⟨a, cap, by rw [h0]⟩
  · exact ⟨_, _, rfl⟩
theorem inRu_below {w w' : World} {v : Value} {l : List Ru} (h : InRu w v l) (hb : Below w.heap.size w w') : InRu w' v l := inRow_below h hb
theorem inRu_from {w w' : World} {B : Nat} {v : Value} {l : List Ru} (h : InRu w v l) (hB : w.heap.size ≤ B) (hb : Below B w w') : InRu w' v l := inRow_below h (hb.mono hB)
theorem inRu_at {w : World} {a : Option Addr} {cap : Nat} {l : List Ru} (h : InRu w (.slice a l.length cap) l) {k : Nat} (hk : k < l.length) :
    ∃ b off, a = some ⟨b, off, none⟩ ∧ b < w.heap.size ∧ w.cell? ⟨b, off + k * 3, none⟩ = some (.string (ruA l k).1) ∧ w.cell? ⟨b, off + k * 3 + 1, none⟩ = some (.int .i64 (ruA l k).2.1) ∧ w.cell? ⟨b, off + k * 3 + 2, none⟩ = some (.int .i64 (ruA l k).2.2) := by
  rcases h with ⟨h0, _, _⟩ | ⟨b, off, cap', hv, hb, _, _, hc⟩
  · omega
  · injection hv with h1 h2 h3
    subst h1
    obtain ⟨e0, e1, e2⟩ := ruV_at l k hk
    refine ⟨b, off, rfl, hb, ?_, ?_, ?_⟩
    · rw [hc (k * 3) (by omega), e0]
    · rw [Nat.add_assoc, hc (k * 3 + 1) (by omega), e1]
    · rw [Nat.add_assoc, hc (k * 3 + 2) (by omega), e2]
theorem inRu_drewN {w : World} {v : Value} {l : List Ru} (h : InRu w v l) (q : Nat) : InRu (w.drewN q) v l := inRow_below h (below_drewN (Below.refl _ _) q)
theorem inRu_own {w : World} {base g n cap : Nat} {l : List Ru} (hl : n = l.length) (h : w.ownsRow base 131 3 (.slice (some ⟨g, 0, none⟩) n cap) n (ruV l)) : InRu w (.slice (some ⟨g, 0, none⟩) n cap) l := by
  subst hl
  obtain ⟨h1, h2⟩ := id h
  rcases h2 with ⟨hv, hn⟩ | ⟨g', cap', cur, hv, hb, hh, hn, hm, _, _⟩
  · cases hv
  · injection hv with e1 e2 e3
    injection e1 with e1
    injection e1 with e1
    subst e1 e3
    refine .inr ⟨g, 0, cap, rfl, (h.lt g rfl).2, hn, hm, fun j hj => ?_⟩
    rw [Nat.zero_add]; exact h.cellAt j (by omega)
theorem l_szRule (a : ByteArray) (x y : Int) (left : Int) (w : World) (h0 : 0 ≤ left) (h1 : left ≤ 1048576) (ha : a.size ≤ 9223372036854775807) : Calls Try.prog 138 #[.agg #[.string a, .int .i64 x, .int .i64 y], .int .i64 left] w fun e w' => e = .returned (.int .i64 (if left - a.size < 0 then -1 else left - a.size)) ∧ Below w.heap.size w w' := by
  by_cases h : left - a.size < 0
  · rw [if_pos h]
    go_enter Try.func138, Try.ntmps138
    go_wp2
    go_ret
    exact ⟨rfl, (by repeat (first | exact Below.refl _ _ | assumption | apply Below.drew | (refine Below.alloc ?_ (by simp) _) | (refine Below.setCell ?_ (by simp) _)))⟩
  · rw [if_neg h]
    have h2 : ¬ left < a.size := by omega
    go_enter Try.func138, Try.ntmps138
    go_wp2
    go_ret
    exact ⟨rfl, (by repeat (first | exact Below.refl _ _ | assumption | apply Below.drew | (refine Below.alloc ?_ (by simp) _) | (refine Below.setCell ?_ (by simp) _)))⟩
/-- either the size is too great, and nothing more is asked, or every text is short -/
theorem l_szRuleS (v : Value) (l : List Ru) (lf : Nat) (w : World) (hlf : lf ≤ 1048576) (hin : InRu w v l) (hl : l.length ≤ 9223372036854775807) (hsz : ∀ r ∈ l, r.1.size ≤ 9223372036854775807) :
    Calls Try.prog 96 #[v, .int .i64 lf] w fun e w' => Below w.heap.size w w' ∧ (e = .returned (.int .i64 (-1)) ∨ ∃ n : Nat, e = .returned (.int .i64 n) ∧ n ≤ 1048576 ∧ l.length ≤ 1048576 ∧ ∀ r ∈ l, r.1.size ≤ 1048576) := by
  obtain ⟨a, cap, rfl⟩ := inRu_sl hin
  have HIN := Lib.hid hin
  have HSZ := Lib.hid hsz
  clear hin hsz
  by_cases hbig : lf < l.length
  · have hb2 : (lf : Int) - l.length < 0 := by omega
    go_enter Try.func96, Try.ntmps96
    go_wp2
    go_ret
    exact ⟨Below.refl _ _, .inl rfl⟩
  · have hb2 : ¬ (lf : Int) < l.length := by omega
    go_enter Try.func96, Try.ntmps96
    go_wp2
    go_loopw [1, 5] (fun x i wr => Below w.heap.size w wr ∧ ∃ k n : Nat, k ≤ l.length ∧ i = .int .i64 k ∧ x = .int .i64 n ∧ n ≤ 1048576 ∧ ∀ t, t < k → (ruA l t).1.size ≤ 1048576) (fun _ i _ => l.length - (intOf i).toNat)
    case atStart => exact ⟨Below.refl _ _, 0, lf - l.length, by omega, rfl, by go_num, by omega, fun t ht => by omega⟩
    case round =>
      obtain ⟨hb3, k, n, hk, rfl, rfl, hn, hall⟩ := hrel
      have HA := Lib.hid hall
      clear hall
      by_cases hlt : k < l.length
      · obtain ⟨b, off, rfl, hbl, hc0, hc1, hc2⟩ := inRu_at (inRu_below HIN.out hb3) hlt
        have hs1 : (ruA l k).1.size ≤ 9223372036854775807 := HSZ.out _ (ruA_mem hlt)
        have HN : Hid (((ruA l k).1.size ≤ 1048576) → ∀ t, t < k + 1 → (ruA l t).1.size ≤ 1048576) := by
          intro h t ht
          by_cases he : t = k
          · subst he; exact h
          · exact HA.out t (by omega)
        have hin : ((k : Nat) : Int) < l.length := by omega
        have HB := Lib.hid hb3
        clear hb3
        generalize (ruA l k).1 = x1 at *
        generalize (ruA l k).2.1 = x2 at *
        generalize (ruA l k).2.2 = x3 at *
        by_cases hneg : (n : Int) - x1.size < 0
        · have HSR := Lib.hid (fun w => l_szRule x1 x2 x3 n w (by omega) (by omega) hs1)
          rw [if_pos hneg] at HSR
          go_wp2_with (go_at_call 138; refine (HSR.out _).mono ?_; rintro e w2 ⟨rfl, hb4⟩)
          go_ret
          exact ⟨HB.out.trans (hb4.mono HB.out.size), .inl rfl⟩
        · have HSR := Lib.hid (fun w => l_szRule x1 x2 x3 n w (by omega) (by omega) hs1)
          rw [if_neg hneg] at HSR
          obtain ⟨n2, hn2⟩ : ∃ n2 : Nat, (n : Int) - x1.size = n2 := ⟨n - x1.size, by omega⟩
          rw [hn2] at HSR
          have hle : x1.size ≤ 1048576 := by omega
          have hle2 : n2 ≤ 1048576 := by omega
          have HN2 := Lib.hid (HN.out hle)
          clear hn2 hneg
          go_wp2_with (go_at_call 138; refine (HSR.out _).mono ?_; rintro e w2 ⟨rfl, hb4⟩)
          go_roundw
          case rel => exact ⟨HB.out.trans (hb4.mono HB.out.size), k + 1, n2, by omega, by go_num, rfl, hle2, HN2.out⟩
          case measure => first | (simp [intOf]; done) | (simp [intOf]; omega)
      · have ek : k = l.length := by omega
        have HF : Hid (∀ r ∈ l, r.1.size ≤ 1048576) := by
          intro r hr
          obtain ⟨t, ht, rfl⟩ := List.getElem_of_mem hr
          have := HA.out t (by omega)
          rwa [ruA, List.getD, List.getElem?_eq_getElem ht] at this
        clear ek
        go_wp2
        go_ret
        exact ⟨hb3, .inr ⟨n, rfl, hn, by omega, HF.out⟩⟩
theorem l_szGrammar (v : Value) (l : List Ru) (lf : Nat) (w : World) (hlf : lf ≤ 1048576) (hin : InRu w v l) (hl : l.length ≤ 9223372036854775807) (hsz : ∀ r ∈ l, r.1.size ≤ 9223372036854775807) :
    Calls Try.prog 39 #[.agg #[v], .int .i64 lf] w fun e w' => Below w.heap.size w w' ∧ (e = .returned (.int .i64 (-1)) ∨ ∃ n : Nat, e = .returned (.int .i64 n) ∧ n ≤ 1048576 ∧ l.length ≤ 1048576 ∧ ∀ r ∈ l, r.1.size ≤ 1048576) := by
  have H := Lib.hid (fun w (h : InRu w v l) => l_szRuleS v l lf w hlf h hl hsz)
  have HIN := Lib.hid hin
  clear hin hl hsz
  go_enter Try.func39, Try.ntmps39
  go_wp2_with fail
  refine (H.out _ (by have := HIN.out; exact inRu_from this (Nat.le_refl _) (by repeat (first | exact Below.refl _ _ | assumption | apply Below.drew | (refine Below.alloc ?_ (by simp) _) | (refine Below.setCell ?_ (by simp) _))))).mono ?_
  rintro e w1 ⟨hb1, rfl | ⟨n, rfl, hn, h1, h2⟩⟩
  · go_wp2
    go_ret
    exact ⟨below_box hb1, .inl rfl⟩
  · have H2 := Lib.hid h2
    clear h2
    go_wp2
    go_ret
    exact ⟨below_box hb1, .inr ⟨n, rfl, hn, h1, H2.out⟩⟩
end Go.Proofs.Ytefcdkgfabaffaa

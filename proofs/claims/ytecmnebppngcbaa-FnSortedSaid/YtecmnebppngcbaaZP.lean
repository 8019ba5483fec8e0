/- SortParts. -/
import Derived.Test.YtecmnebppngcbaaZO
import Derived.Test.YtecmnebppngcbaaShelf
namespace Go.Proofs.Ytecmnebppngcbaa
open Go.ChangeShapes Go.WideShapes Go.RowKit
set_option linter.unusedVariables false
set_option linter.unusedSimpArgs false
set_option maxHeartbeats 4000000
set_option maxRecDepth 100000
theorem i_SortParts (ag : Option Addr) (kg : Nat) (l : List Ru) (gp cp n : Nat) (ps : List Int) (W : World) (h0 : l ≠ []) (hok : gOk l = true) (hsm : ∀ r ∈ l, r.1.size ≤ 1048576) (hin : InRu W (.slice ag l.length kg) l) (hl : letC (wd l)) (h30 : (wd l).length ≤ 30)
    (hn : n ≤ 4) (hpl : ps.length = n) (hps : ∀ k, k < n → W.cell? ⟨gp, k, none⟩ = some (.int .i64 (ps.getD k 0))) (hpr : ∀ x ∈ ps, 0 ≤ x ∧ x ≤ (wd l).length) :
    Calls Try.prog 8 #[.agg #[.slice ag l.length kg], .slice (some ⟨gp, 0, none⟩) n cp] W fun e W' => ∃ v d, e = .returned (.tuple #[v, .int .i64 0]) ∧ d.length = n ∧ ordU l d n ∧ (∀ x, d.count x = ps.count x) ∧ W'.ownsRow W.heap.size 2 1 v n (d.map (Value.int .i64)) ∧ Below W.heap.size W W' := by
  have hmf : ∀ (fn : Fn) (first cap : Array Value) (w : World), (Instr.makeFunc fn first cap).run Try.prog w = .ok (.func fn first cap) w := fun _ _ _ _ => rfl
  have eF1 : ∀ args w, (callFunc 15 args).run Try.prog w = .ok (.enter 15 args) w := enters_of Try.func15 (by kernel_rfl) rfl
  have eF2 : ∀ args w, (callFunc 19 args).run Try.prog w = .ok (.enter 19 args) w := enters_of Try.func19 (by kernel_rfl) rfl
  have hal := (Below.refl W.heap.size W).alloc (Nat.le_refl _) (.cells #[.slice ag l.length kg] 26)
  have HIN := Lib.hid (inRu_below hin hal)
  have HNW := Lib.hid (i_newWeave ag kg l _ h0 hok hsm HIN.out)
  have HPS := Lib.hid hps
  clear hin hsm
  go_enter Try.func8, Try.ntmps8
  go_wp2_with fail
  refine HNW.out.mono ?_
  rintro e W2 ⟨bw, rfl, hw, hb2⟩
  have hal2 := (Below.refl W2.heap.size W2).alloc (Nat.le_refl _) (.cells #[.pointer (some ⟨bw, 0, none⟩)] 40)
  have hb02 := hal.trans (hb2.mono hal.size)
  have HB2 := Lib.hid hb02
  have HW2 := Lib.hid hw
  clear hb2 hw hal hb02 HNW HIN
  go_upto_region 4 with fail
  refine gen_world2 (fun X => X.cell? ⟨W2.heap.size, 0, none⟩ = some (.pointer (some ⟨bw, 0, none⟩)) ∧ WvR (W.heap.size + 1) X bw l (.slice ag l.length kg) ∧ Below W.heap.size W X) ⟨by simp [go_sem], ?_, ?_⟩ ?_
  · have := HW2.out.bel hal2
    simpa using this
  · exact HB2.out.trans (hal2.mono HB2.out.size)
  rintro X ⟨c6, hw, hb⟩
  have HX := Lib.hid (And.intro c6 (And.intro hw hb))
  obtain ⟨b6, hb6⟩ : ∃ b, b = W2.heap.size := ⟨_, rfl⟩
  rw [← hb6] at HX ⊢
  clear hb6 c6 hw hb HB2 HW2 hal2
  have HCO : Hid (Calls Try.prog 14 #[.slice (some ⟨gp, 0, none⟩) n cp, .func (.func 15) #[] #[.pointer (some ⟨b6, 0, none⟩)]] X fun e W' => e = .returned (.bool false) ∧ Below X.heap.size X W') :=
    f_containsNone gp cp n ps _ _ X (by omega) hpl (fun k hk => cell_later HX.out.2.2 (HPS.out k hk)) eF1 (fun w' x hb hx => c_inPart (W.heap.size + 1) b6 bw kg ag l x w' hok (HX.out.2.1.bel hb) h30 (hpr x hx).1 (hpr x hx).2 (cell_later hb HX.out.1))
  go_wp2_with fail
  refine HCO.out.mono ?_
  rintro e W3 ⟨rfl, hb3⟩
  have HX3 : Hid (W3.cell? ⟨b6, 0, none⟩ = some (.pointer (some ⟨bw, 0, none⟩)) ∧ WvR (W.heap.size + 1) W3 bw l (.slice ag l.length kg) ∧ Below W.heap.size W W3) :=
    ⟨cell_later hb3 HX.out.1, HX.out.2.1.bel hb3, HX.out.2.2.trans (hb3.mono HX.out.2.2.size)⟩
  clear hb3 HX HCO
  go_wp2_with fail
  obtain ⟨i0, hi, hz0, hz1, hz2⟩ := info_parts info_i64
  refine (Try.slices_Clone i0 (.int .i64 0) 1 8 hi hz0 hz1 hz2 rfl (by decide) Try.sizeOf2 gp 0 n cp (ps.map (Value.int .i64)) W3 (by simp [hpl]) (by unfold maxLen; omega) (by omega) ?_ ?_).mono ?_
  · intro j u hj
    rw [List.getElem?_map] at hj
    obtain ⟨x, hx, rfl⟩ := Option.map_eq_some_iff.1 hj
    have hjn : j < n := by rw [← hpl]; exact (List.getElem?_eq_some_iff.1 hx).1
    have := cell_later HX3.out.2.2 (HPS.out j hjn)
    rw [Nat.zero_add, this, List.getD_eq_getElem?_getD, hx]; rfl
  · intro u hu
    obtain ⟨x, -, rfl⟩ := List.mem_map.1 hu
    rfl
  clear hi hz0 hz1 hz2
  rintro e W4 ⟨v, rfl, ho, hvn, hb4⟩
  obtain ⟨g, kv, rfl⟩ : ∃ g cap, v = .slice (some ⟨g, 0, none⟩) n cap := by
    rcases owns_cases3 ho with ⟨h, -, -⟩ | ⟨g, cap, h, -⟩
    · exact absurd h hvn
    · exact ⟨g, cap, h⟩
  have HSO : Hid (Calls Try.prog 18 #[.slice (some ⟨g, 0, none⟩) n kv, .func (.func 19) #[] #[.pointer (some ⟨b6, 0, none⟩)]] W4 fun e W' => e = .returned (.tuple #[]) ∧ ∃ d, ordU l d n ∧ SrtR W3 g kv n ps d W') :=
    f_sortStable W3 g kv n ps _ _ l W4 (by omega) ⟨hpl, fun _ => rfl, ho, hb4⟩ eF2 (fun w' x y hb hx hy => c_less (W.heap.size + 1) b6 bw kg ag l x y w' hok (HX3.out.2.1.bel hb) hl h30 (hpr x hx).1 (hpr y hy).1 (hpr x hx).2 (hpr y hy).2 (cell_later hb HX3.out.1))
  clear ho hvn hb4
  go_wp2_with fail
  refine HSO.out.mono ?_
  rintro e W5 ⟨rfl, d, hd, hs⟩
  have HD := Lib.hid (And.intro hd hs)
  clear hd hs HSO
  go_wp2
  go_ret2
  obtain ⟨hd, h1, h2, h3, h4⟩ := HD.out
  exact ⟨_, d, rfl, h1, hd, h2, owns_weak h3 HX3.out.2.2.size, HX3.out.2.2.trans (h4.mono HX3.out.2.2.size)⟩
end Go.Proofs.Ytecmnebppngcbaa

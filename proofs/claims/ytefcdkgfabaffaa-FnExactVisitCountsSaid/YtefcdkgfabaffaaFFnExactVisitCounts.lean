/- The statement Rows.FnExactVisitCountsSaid: for every argument the law returns true and leaves its arguments as they were. The walk lies in YtefcdkgfabaffaaVM. -/
import Derived.Test.YtefcdkgfabaffaaRows
import Derived.Test.YtefcdkgfabaffaaVM
import Derived.Test.YtefcdkgfabaffaaO3
import Derived.Test.YtefcdkgfabaffaaO4
import Derived.WalkKit
import Derived.ProofKit
import Derived.OpenShut
import Derived.ShutString
import Derived.ChangeOld
import Derived.Below
namespace Go.Proofs.Ytefcdkgfabaffaa.fnExactVisitCounts
open Go.ChangeShapes Go.WideShapes Go.ChangeAt Go.RowKit
open Go.ChangeMaps (open_string shut_string)
set_option linter.unusedVariables false
theorem own : ownKnob Try.prog.godebug = none := by kernel_rfl
theorem laidOut : laidOutB Try.prog = true := by kernel_rfl
set_option maxRecDepth 100000 in
theorem lifted (os : Os) (started : os.Started) (H : Type) (enc : TypeId × Value → H) :
    ReturnsInHanded {} Try.checked os 16 .any (Rows.fnExactVisitCountsSpec.pre6 enc Try.prog Try.f16 Rows.fnExactVisitCountsRow.domain false) (Rows.fnExactVisitCountsSpec.post enc Try.prog Try.f16 false true false false) := by
  refine returnsInHanded_of_change (C := Try.checked) own started (by kernel_rfl) Try.func16
    (ChangeSpec.witness6 (enc := enc) (C := Try.checked) false ⟨#[], #[.agg #[.int .i64 0, .int .i64 0, .slice none 0 0, .slice none 0 0], .agg #[.slice none 0 0]], []⟩ 8 (by kernel_rfl) (by kernel_rfl) (by kernel_rfl) (by kernel_rfl)) ?_
  intro W base args ds gs before hval0 hW hcnd _
  have hval : ∀ (j : Nat) t v, Try.f16.params[j]? = some t → args[j]? = some v → Value.okWide Try.prog W .any base t v := hval0
  have hW' := hW
  obtain ⟨p, q, hA0, hV, rfl, hfz, hnd⟩ := hW
  have hA : DataW.TrodAll enc Try.prog W 0 (fun _ => true) true Try.f16.params.toList args.toList ds p := hA0
  rw [Try.params16] at hA hval
  obtain ⟨v0, vs0, d0, ds0, p0, q0, hargs, rfl, rfl, h0, r0⟩ := trodAll_cons hA
  obtain ⟨v1, vs1, d1, ds1, p1, q1, rfl, rfl, rfl, h1, r1⟩ := trodAll_cons r0
  obtain ⟨rfl, rfl, rfl⟩ := trodAll_nil r1
  obtain rfl : args = #[v0, v1] := by cases args; simp_all
  obtain ⟨rfl, rfl⟩ := trodVars_none hV
  have k0 := h0
  have lt0 : ∀ x ∈ p0, x.block < W.heap.size := by obtain ⟨m, hm⟩ := k0; exact DataW.trod_lt m _ _ _ hm
  obtain ⟨a0, w0, w0b, w0c⟩ := openAuto (hval 0 25 v0 rfl rfl) h0
  have k1 := h1
  have lt1 : ∀ x ∈ p1, x.block < W.heap.size := by obtain ⟨m, hm⟩ := k1; exact DataW.trod_lt m _ _ _ hm
  obtain ⟨a1, w1, w1b, w1c⟩ := openGram (hval 1 53 v1 rfl rfl) h1
  clear hA0 hval0
  refine (walk_FnExactVisitCounts v0 a0 v1 a1 W w0 w0b w0c w1 w1b w1c).mono fun e W' ⟨he, bel⟩ => ?_
  subst he
  exact ⟨_, rfl, _, _, _, [], _, [], hW', trodAll_mk1 (shut_bool Try.underlying4 _), (trodAll_cons_mk (Below.trod laidOut (by kernel_rfl) (of_decide_eq_true (by kernel_rfl)) k0 bel lt0) (trodAll_cons_mk (Below.trod laidOut (by kernel_rfl) (of_decide_eq_true (by kernel_rfl)) k1 bel lt1) trodAll_mk0)), rfl, bel.frame _, fun h => by cases h⟩
theorem closed1 : joinedFacts Try.pinned.checked.prog 16 Try.f16 Rows.fnExactVisitCountsSpec Rows.fnExactVisitCountsRow = true := by kernel_rfl
theorem named1 : Try.pinned.checked.prog.funcNamed Rows.fnExactVisitCountsRow.func = some 16 := by kernel_rfl
theorem inst1 : Try.f16.isInstance Try.pinned.checked.prog Rows.fnExactVisitCountsRow.origin Rows.fnExactVisitCountsRow.targs := of_decide_eq_true (by kernel_rfl)
theorem wrap1 : Try.f16.isWrapper Try.pinned.checked.prog Rows.fnExactVisitCountsRow.wrapper Rows.fnExactVisitCountsRow.mainSum := by
  unfold Func.isWrapper; first | (rw [if_pos (by decide +kernel)]; kernel_rfl) | (rw [if_neg (by decide +kernel)]; exact ⟨rfl, rfl⟩)
theorem over : Rows.fnExactVisitCountsRow.holds Try.pinned (OpenSpec.ofChange Rows.fnExactVisitCountsSpec) :=
  OpenClaim.holds_of_wide 16 Try.f16 rfl rfl rfl rfl rfl rfl rfl ⟨rfl, rfl, rfl, rfl, rfl⟩ rfl rfl rfl rfl rfl named1 Try.func16 closed1 inst1 wrap1
    (fun os started H enc _ => lifted os started H enc)
theorem proved : Rows.FnExactVisitCountsSaid := over
#print axioms proved
end Go.Proofs.Ytefcdkgfabaffaa.fnExactVisitCounts

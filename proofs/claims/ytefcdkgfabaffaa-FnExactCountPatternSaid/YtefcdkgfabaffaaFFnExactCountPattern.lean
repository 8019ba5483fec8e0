/- The statement Rows.FnExactCountPatternSaid: for every argument the law returns true and leaves its arguments as they were. The walk lies in YtefcdkgfabaffaaVV. -/
import Derived.Test.YtefcdkgfabaffaaRows
import Derived.Test.YtefcdkgfabaffaaVV
import Derived.Test.YtefcdkgfabaffaaO3
import Derived.WalkKit
import Derived.ProofKit
import Derived.OpenShut
import Derived.ShutString
import Derived.ChangeOld
import Derived.Below
namespace Go.Proofs.Ytefcdkgfabaffaa.fnExactCountPattern
open Go.ChangeShapes Go.WideShapes Go.ChangeAt Go.RowKit
open Go.ChangeMaps (open_string shut_string)
set_option linter.unusedVariables false
theorem own : ownKnob Try.prog.godebug = none := by kernel_rfl
theorem laidOut : laidOutB Try.prog = true := by kernel_rfl
set_option maxRecDepth 100000 in
theorem lifted (os : Os) (started : os.Started) (H : Type) (enc : TypeId × Value → H) :
    ReturnsInHanded {} Try.checked os 11 .any (Rows.fnExactCountPatternSpec.pre6 enc Try.prog Try.f11 Rows.fnExactCountPatternRow.domain false) (Rows.fnExactCountPatternSpec.post enc Try.prog Try.f11 false true false false) := by
  refine returnsInHanded_of_change (C := Try.checked) own started (by kernel_rfl) Try.func11
    (ChangeSpec.witness6 (enc := enc) (C := Try.checked) false ⟨#[], #[.agg #[.slice none 0 0], .string ByteArray.empty], []⟩ 8 (by kernel_rfl) (by kernel_rfl) (by kernel_rfl) (by kernel_rfl)) ?_
  intro W base args ds gs before hval0 hW hcnd _
  have hval : ∀ (j : Nat) t v, Try.f11.params[j]? = some t → args[j]? = some v → Value.okWide Try.prog W .any base t v := hval0
  have hW' := hW
  obtain ⟨p, q, hA0, hV, rfl, hfz, hnd⟩ := hW
  have hA : DataW.TrodAll enc Try.prog W 0 (fun _ => true) true Try.f11.params.toList args.toList ds p := hA0
  rw [Try.params11] at hA hval
  obtain ⟨v0, vs0, d0, ds0, p0, q0, hargs, rfl, rfl, h0, r0⟩ := trodAll_cons hA
  obtain ⟨v1, vs1, d1, ds1, p1, q1, rfl, rfl, rfl, h1, r1⟩ := trodAll_cons r0
  obtain ⟨rfl, rfl, rfl⟩ := trodAll_nil r1
  obtain rfl : args = #[v0, v1] := by cases args; simp_all
  obtain ⟨rfl, rfl⟩ := trodVars_none hV
  have k0 := h0
  have lt0 : ∀ x ∈ p0, x.block < W.heap.size := by obtain ⟨m, hm⟩ := k0; exact DataW.trod_lt m _ _ _ hm
  obtain ⟨a0, w0, w0b, w0c⟩ := openGram (hval 0 53 v0 rfl rfl) h0
  obtain ⟨a1, rfl, rfl, rfl, w1⟩ := open_string Try.underlying9 (hval 1 9 v1 rfl rfl) h1
  clear hA0 hval0
  refine (walk_FnExactCountPattern v0 a0 a1 W w0 w0b w0c w1).mono fun e W' ⟨he, bel⟩ => ?_
  subst he
  exact ⟨_, rfl, _, _, _, [], _, [], hW', trodAll_mk1 (shut_bool Try.underlying4 _), (trodAll_cons_mk (Below.trod laidOut (by kernel_rfl) (of_decide_eq_true (by kernel_rfl)) k0 bel lt0) (trodAll_cons_mk (shut_string Try.underlying9 w1) trodAll_mk0)), rfl, bel.frame _, fun h => by cases h⟩
theorem closed1 : joinedFacts Try.pinned.checked.prog 11 Try.f11 Rows.fnExactCountPatternSpec Rows.fnExactCountPatternRow = true := by kernel_rfl
theorem named1 : Try.pinned.checked.prog.funcNamed Rows.fnExactCountPatternRow.func = some 11 := by kernel_rfl
theorem inst1 : Try.f11.isInstance Try.pinned.checked.prog Rows.fnExactCountPatternRow.origin Rows.fnExactCountPatternRow.targs := of_decide_eq_true (by kernel_rfl)
theorem wrap1 : Try.f11.isWrapper Try.pinned.checked.prog Rows.fnExactCountPatternRow.wrapper Rows.fnExactCountPatternRow.mainSum := by
  unfold Func.isWrapper; first | (rw [if_pos (by decide +kernel)]; kernel_rfl) | (rw [if_neg (by decide +kernel)]; exact ⟨rfl, rfl⟩)
theorem over : Rows.fnExactCountPatternRow.holds Try.pinned (OpenSpec.ofChange Rows.fnExactCountPatternSpec) :=
  OpenClaim.holds_of_wide 11 Try.f11 rfl rfl rfl rfl rfl rfl rfl ⟨rfl, rfl, rfl, rfl, rfl⟩ rfl rfl rfl rfl rfl named1 Try.func11 closed1 inst1 wrap1
    (fun os started H enc _ => lifted os started H enc)
theorem proved : Rows.FnExactCountPatternSaid := over
#print axioms proved
end Go.Proofs.Ytefcdkgfabaffaa.fnExactCountPattern

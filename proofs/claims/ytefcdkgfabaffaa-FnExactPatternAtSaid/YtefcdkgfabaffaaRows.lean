/-
  No cell of these rows narrows 'for every input' (looked for: loops, veiled, ifaces, maps, wideKeys, modest, calm, conditions, laid).
  DERIVED. THE GIVEN ROWS OF THIS SEAT. 14 by the template 'for every input the law returns true; each argument reads behind the call as it read before'; 0 by the template 'total and deterministic' (their statements: YtefcdkgfabaffaaTotals.lean).
  GIVEN WITH THE SEED: the statements are not yours to turn. If you find one false, say at which input.
  Laid BY PROGRAM, IN A SANDBOX (cutbox-rows.mjs): the forced cells as the released guide's own fill.sh prints them over the translation caa3e0f356d539a6… (all of the seat's roots in one cut). By AI agents, Wed Nov 11 2026. No macro, syntax, notation, axiom, sorry.
-/
import Derived.Test.YtefcdkgfabaffaaChecked
import GoSem.Claim
import GoSem.ClaimJoined
import GoSem.ClaimMapViews
import Derived.JoinedTies
import Derived.KernelRfl
namespace Go.Proofs.Ytefcdkgfabaffaa
/- THE CELL 'sum', in the pinned program and in every row, IS THE sha256 OF THE DUMP (.gsa) THAT YtefcdkgfabaffaaProg.lean LOADS. Nothing in Lean hashes anything: it is a label: what it is worth is what the hold of that sum in a sandbox is worth. -/
noncomputable def Try.pinned : Pinned := { name := "ytefcdkgfabaffaa", sum := "caa3e0f356d539a6dca4a111acc6f01b41dbaedbbba44560b7ff23e3593b813a", checked := Try.checked }
namespace Rows
def none {H : Type} : Left H := { results := [], args := [] }

/-- 'laws.FnExactSameAuto': WHATEVER THE INPUT: true; the input reads as it did. -/
def fnExactSameAutoSpec : ChangeSpec := { name := "fnExactSameAuto", fn := fun _ => fun
  | [d1, d2] => { results := [.lit (.bool true)], args := [d1, d2] }
  | _ => none }
def fnExactSameAutoRow : OpenClaim := { program := "ytefcdkgfabaffaa", sum := "caa3e0f356d539a6dca4a111acc6f01b41dbaedbbba44560b7ff23e3593b813a", func := "loop.example/g01133/laws.FnExactSameAuto", spec := "fnExactSameAuto", unfollowed := true, recurses := true, apart := false }
def FnExactSameAutoSaid : Prop := fnExactSameAutoRow.holds Try.pinned (OpenSpec.ofChange fnExactSameAutoSpec)

/-- ITS FALSE NEIGHBOUR: 'it returns false'. Refute it at one input. -/
def fnExactSameAutoWrong : ChangeSpec := { name := "fnExactSameAuto", fn := fun _ => fun
  | [d1, d2] => { results := [.lit (.bool false)], args := [d1, d2] }
  | _ => none }
def FnExactSameAutoWrongFalsely : Prop := fnExactSameAutoRow.holds Try.pinned (OpenSpec.ofChange fnExactSameAutoWrong)

/-- 'laws.FnExactValidAuto': WHATEVER THE INPUT: true; the input reads as it did. -/
def fnExactValidAutoSpec : ChangeSpec := { name := "fnExactValidAuto", fn := fun _ => fun
  | [d] => { results := [.lit (.bool true)], args := [d] }
  | _ => none }
def fnExactValidAutoRow : OpenClaim := { program := "ytefcdkgfabaffaa", sum := "caa3e0f356d539a6dca4a111acc6f01b41dbaedbbba44560b7ff23e3593b813a", func := "loop.example/g01133/laws.FnExactValidAuto", spec := "fnExactValidAuto", unfollowed := true, recurses := true, apart := false }
def FnExactValidAutoSaid : Prop := fnExactValidAutoRow.holds Try.pinned (OpenSpec.ofChange fnExactValidAutoSpec)

/-- ITS FALSE NEIGHBOUR: 'it returns false'. Refute it at one input. -/
def fnExactValidAutoWrong : ChangeSpec := { name := "fnExactValidAuto", fn := fun _ => fun
  | [d] => { results := [.lit (.bool false)], args := [d] }
  | _ => none }
def FnExactValidAutoWrongFalsely : Prop := fnExactValidAutoRow.holds Try.pinned (OpenSpec.ofChange fnExactValidAutoWrong)

/-- 'laws.FnExactPatternAuto': WHATEVER THE INPUT: true; the input reads as it did. -/
def fnExactPatternAutoSpec : ChangeSpec := { name := "fnExactPatternAuto", fn := fun _ => fun
  | [d] => { results := [.lit (.bool true)], args := [d] }
  | _ => none }
def fnExactPatternAutoRow : OpenClaim := { program := "ytefcdkgfabaffaa", sum := "caa3e0f356d539a6dca4a111acc6f01b41dbaedbbba44560b7ff23e3593b813a", func := "loop.example/g01133/laws.FnExactPatternAuto", spec := "fnExactPatternAuto", apart := false }
def FnExactPatternAutoSaid : Prop := fnExactPatternAutoRow.holds Try.pinned (OpenSpec.ofChange fnExactPatternAutoSpec)

/-- ITS FALSE NEIGHBOUR: 'it returns false'. Refute it at one input. -/
def fnExactPatternAutoWrong : ChangeSpec := { name := "fnExactPatternAuto", fn := fun _ => fun
  | [d] => { results := [.lit (.bool false)], args := [d] }
  | _ => none }
def FnExactPatternAutoWrongFalsely : Prop := fnExactPatternAutoRow.holds Try.pinned (OpenSpec.ofChange fnExactPatternAutoWrong)

/-- 'laws.FnExactValidCoder': WHATEVER THE INPUT: true; the input reads as it did. -/
def fnExactValidCoderSpec : ChangeSpec := { name := "fnExactValidCoder", fn := fun _ => fun
  | [d] => { results := [.lit (.bool true)], args := [d] }
  | _ => none }
def fnExactValidCoderRow : OpenClaim := { program := "ytefcdkgfabaffaa", sum := "caa3e0f356d539a6dca4a111acc6f01b41dbaedbbba44560b7ff23e3593b813a", func := "loop.example/g01133/laws.FnExactValidCoder", spec := "fnExactValidCoder", unfollowed := true, recurses := true, apart := false }
def FnExactValidCoderSaid : Prop := fnExactValidCoderRow.holds Try.pinned (OpenSpec.ofChange fnExactValidCoderSpec)

/-- ITS FALSE NEIGHBOUR: 'it returns false'. Refute it at one input. -/
def fnExactValidCoderWrong : ChangeSpec := { name := "fnExactValidCoder", fn := fun _ => fun
  | [d] => { results := [.lit (.bool false)], args := [d] }
  | _ => none }
def FnExactValidCoderWrongFalsely : Prop := fnExactValidCoderRow.holds Try.pinned (OpenSpec.ofChange fnExactValidCoderWrong)

/-- 'laws.FnExactBothAuto': WHATEVER THE INPUT: true; the input reads as it did. -/
def fnExactBothAutoSpec : ChangeSpec := { name := "fnExactBothAuto", fn := fun _ => fun
  | [d1, d2] => { results := [.lit (.bool true)], args := [d1, d2] }
  | _ => none }
def fnExactBothAutoRow : OpenClaim := { program := "ytefcdkgfabaffaa", sum := "caa3e0f356d539a6dca4a111acc6f01b41dbaedbbba44560b7ff23e3593b813a", func := "loop.example/g01133/laws.FnExactBothAuto", spec := "fnExactBothAuto", unfollowed := true, recurses := true, apart := false }
def FnExactBothAutoSaid : Prop := fnExactBothAutoRow.holds Try.pinned (OpenSpec.ofChange fnExactBothAutoSpec)

/-- ITS FALSE NEIGHBOUR: 'it returns false'. Refute it at one input. -/
def fnExactBothAutoWrong : ChangeSpec := { name := "fnExactBothAuto", fn := fun _ => fun
  | [d1, d2] => { results := [.lit (.bool false)], args := [d1, d2] }
  | _ => none }
def FnExactBothAutoWrongFalsely : Prop := fnExactBothAutoRow.holds Try.pinned (OpenSpec.ofChange fnExactBothAutoWrong)

/-- 'laws.FnExactNotAuto': WHATEVER THE INPUT: true; the input reads as it did. -/
def fnExactNotAutoSpec : ChangeSpec := { name := "fnExactNotAuto", fn := fun _ => fun
  | [d] => { results := [.lit (.bool true)], args := [d] }
  | _ => none }
def fnExactNotAutoRow : OpenClaim := { program := "ytefcdkgfabaffaa", sum := "caa3e0f356d539a6dca4a111acc6f01b41dbaedbbba44560b7ff23e3593b813a", func := "loop.example/g01133/laws.FnExactNotAuto", spec := "fnExactNotAuto", unfollowed := true, recurses := true, apart := false }
def FnExactNotAutoSaid : Prop := fnExactNotAutoRow.holds Try.pinned (OpenSpec.ofChange fnExactNotAutoSpec)

/-- ITS FALSE NEIGHBOUR: 'it returns false'. Refute it at one input. -/
def fnExactNotAutoWrong : ChangeSpec := { name := "fnExactNotAuto", fn := fun _ => fun
  | [d] => { results := [.lit (.bool false)], args := [d] }
  | _ => none }
def FnExactNotAutoWrongFalsely : Prop := fnExactNotAutoRow.holds Try.pinned (OpenSpec.ofChange fnExactNotAutoWrong)

/-- 'laws.FnExactCodeWord': WHATEVER THE INPUT: true; the input reads as it did. -/
def fnExactCodeWordSpec : ChangeSpec := { name := "fnExactCodeWord", fn := fun _ => fun
  | [d1, d2] => { results := [.lit (.bool true)], args := [d1, d2] }
  | _ => none }
def fnExactCodeWordRow : OpenClaim := { program := "ytefcdkgfabaffaa", sum := "caa3e0f356d539a6dca4a111acc6f01b41dbaedbbba44560b7ff23e3593b813a", func := "loop.example/g01133/laws.FnExactCodeWord", spec := "fnExactCodeWord", inPlace := ["internal/abi.NoEscape"], unfollowed := true, recurses := true, apart := false }
def FnExactCodeWordSaid : Prop := fnExactCodeWordRow.holds Try.pinned (OpenSpec.ofChange fnExactCodeWordSpec)

/-- ITS FALSE NEIGHBOUR: 'it returns false'. Refute it at one input. -/
def fnExactCodeWordWrong : ChangeSpec := { name := "fnExactCodeWord", fn := fun _ => fun
  | [d1, d2] => { results := [.lit (.bool false)], args := [d1, d2] }
  | _ => none }
def FnExactCodeWordWrongFalsely : Prop := fnExactCodeWordRow.holds Try.pinned (OpenSpec.ofChange fnExactCodeWordWrong)

/-- 'laws.FnExactStateMaps': WHATEVER THE INPUT: true; the input reads as it did. -/
def fnExactStateMapsSpec : ChangeSpec := { name := "fnExactStateMaps", fn := fun _ => fun
  | [d1, d2] => { results := [.lit (.bool true)], args := [d1, d2] }
  | _ => none }
def fnExactStateMapsRow : OpenClaim := { program := "ytefcdkgfabaffaa", sum := "caa3e0f356d539a6dca4a111acc6f01b41dbaedbbba44560b7ff23e3593b813a", func := "loop.example/g01133/laws.FnExactStateMaps", spec := "fnExactStateMaps", unfollowed := true, recurses := true, apart := false }
def FnExactStateMapsSaid : Prop := fnExactStateMapsRow.holds Try.pinned (OpenSpec.ofChange fnExactStateMapsSpec)

/-- ITS FALSE NEIGHBOUR: 'it returns false'. Refute it at one input. -/
def fnExactStateMapsWrong : ChangeSpec := { name := "fnExactStateMaps", fn := fun _ => fun
  | [d1, d2] => { results := [.lit (.bool false)], args := [d1, d2] }
  | _ => none }
def FnExactStateMapsWrongFalsely : Prop := fnExactStateMapsRow.holds Try.pinned (OpenSpec.ofChange fnExactStateMapsWrong)

/-- 'laws.FnExactCountPattern': WHATEVER THE INPUT: true; the input reads as it did. -/
def fnExactCountPatternSpec : ChangeSpec := { name := "fnExactCountPattern", fn := fun _ => fun
  | [d1, d2] => { results := [.lit (.bool true)], args := [d1, d2] }
  | _ => none }
def fnExactCountPatternRow : OpenClaim := { program := "ytefcdkgfabaffaa", sum := "caa3e0f356d539a6dca4a111acc6f01b41dbaedbbba44560b7ff23e3593b813a", func := "loop.example/g01133/laws.FnExactCountPattern", spec := "fnExactCountPattern", unfollowed := true, recurses := true, apart := false }
def FnExactCountPatternSaid : Prop := fnExactCountPatternRow.holds Try.pinned (OpenSpec.ofChange fnExactCountPatternSpec)

/-- ITS FALSE NEIGHBOUR: 'it returns false'. Refute it at one input. -/
def fnExactCountPatternWrong : ChangeSpec := { name := "fnExactCountPattern", fn := fun _ => fun
  | [d1, d2] => { results := [.lit (.bool false)], args := [d1, d2] }
  | _ => none }
def FnExactCountPatternWrongFalsely : Prop := fnExactCountPatternRow.holds Try.pinned (OpenSpec.ofChange fnExactCountPatternWrong)

/-- 'laws.FnExactPatternAt': WHATEVER THE INPUT: true; the input reads as it did. -/
def fnExactPatternAtSpec : ChangeSpec := { name := "fnExactPatternAt", fn := fun _ => fun
  | [d1, d2, d3] => { results := [.lit (.bool true)], args := [d1, d2, d3] }
  | _ => none }
def fnExactPatternAtRow : OpenClaim := { program := "ytefcdkgfabaffaa", sum := "caa3e0f356d539a6dca4a111acc6f01b41dbaedbbba44560b7ff23e3593b813a", func := "loop.example/g01133/laws.FnExactPatternAt", spec := "fnExactPatternAt", unfollowed := true, recurses := true, apart := false }
def FnExactPatternAtSaid : Prop := fnExactPatternAtRow.holds Try.pinned (OpenSpec.ofChange fnExactPatternAtSpec)

/-- ITS FALSE NEIGHBOUR: 'it returns false'. Refute it at one input. -/
def fnExactPatternAtWrong : ChangeSpec := { name := "fnExactPatternAt", fn := fun _ => fun
  | [d1, d2, d3] => { results := [.lit (.bool false)], args := [d1, d2, d3] }
  | _ => none }
def FnExactPatternAtWrongFalsely : Prop := fnExactPatternAtRow.holds Try.pinned (OpenSpec.ofChange fnExactPatternAtWrong)

/-- 'laws.FnExactCountAccepted': WHATEVER THE INPUT: true; the input reads as it did. -/
def fnExactCountAcceptedSpec : ChangeSpec := { name := "fnExactCountAccepted", fn := fun _ => fun
  | [d1, d2] => { results := [.lit (.bool true)], args := [d1, d2] }
  | _ => none }
def fnExactCountAcceptedRow : OpenClaim := { program := "ytefcdkgfabaffaa", sum := "caa3e0f356d539a6dca4a111acc6f01b41dbaedbbba44560b7ff23e3593b813a", func := "loop.example/g01133/laws.FnExactCountAccepted", spec := "fnExactCountAccepted", unfollowed := true, recurses := true, apart := false }
def FnExactCountAcceptedSaid : Prop := fnExactCountAcceptedRow.holds Try.pinned (OpenSpec.ofChange fnExactCountAcceptedSpec)

/-- ITS FALSE NEIGHBOUR: 'it returns false'. Refute it at one input. -/
def fnExactCountAcceptedWrong : ChangeSpec := { name := "fnExactCountAccepted", fn := fun _ => fun
  | [d1, d2] => { results := [.lit (.bool false)], args := [d1, d2] }
  | _ => none }
def FnExactCountAcceptedWrongFalsely : Prop := fnExactCountAcceptedRow.holds Try.pinned (OpenSpec.ofChange fnExactCountAcceptedWrong)

/-- 'laws.FnExactFirstVisit': WHATEVER THE INPUT: true; the input reads as it did. -/
def fnExactFirstVisitSpec : ChangeSpec := { name := "fnExactFirstVisit", fn := fun _ => fun
  | [d1, d2, d3] => { results := [.lit (.bool true)], args := [d1, d2, d3] }
  | _ => none }
def fnExactFirstVisitRow : OpenClaim := { program := "ytefcdkgfabaffaa", sum := "caa3e0f356d539a6dca4a111acc6f01b41dbaedbbba44560b7ff23e3593b813a", func := "loop.example/g01133/laws.FnExactFirstVisit", spec := "fnExactFirstVisit", unfollowed := true, recurses := true, apart := false }
def FnExactFirstVisitSaid : Prop := fnExactFirstVisitRow.holds Try.pinned (OpenSpec.ofChange fnExactFirstVisitSpec)

/-- ITS FALSE NEIGHBOUR: 'it returns false'. Refute it at one input. -/
def fnExactFirstVisitWrong : ChangeSpec := { name := "fnExactFirstVisit", fn := fun _ => fun
  | [d1, d2, d3] => { results := [.lit (.bool false)], args := [d1, d2, d3] }
  | _ => none }
def FnExactFirstVisitWrongFalsely : Prop := fnExactFirstVisitRow.holds Try.pinned (OpenSpec.ofChange fnExactFirstVisitWrong)

/-- 'laws.FnExactCodedLength': WHATEVER THE INPUT: true; the input reads as it did. -/
def fnExactCodedLengthSpec : ChangeSpec := { name := "fnExactCodedLength", fn := fun _ => fun
  | [d1, d2] => { results := [.lit (.bool true)], args := [d1, d2] }
  | _ => none }
def fnExactCodedLengthRow : OpenClaim := { program := "ytefcdkgfabaffaa", sum := "caa3e0f356d539a6dca4a111acc6f01b41dbaedbbba44560b7ff23e3593b813a", func := "loop.example/g01133/laws.FnExactCodedLength", spec := "fnExactCodedLength", unfollowed := true, recurses := true, apart := false }
def FnExactCodedLengthSaid : Prop := fnExactCodedLengthRow.holds Try.pinned (OpenSpec.ofChange fnExactCodedLengthSpec)

/-- ITS FALSE NEIGHBOUR: 'it returns false'. Refute it at one input. -/
def fnExactCodedLengthWrong : ChangeSpec := { name := "fnExactCodedLength", fn := fun _ => fun
  | [d1, d2] => { results := [.lit (.bool false)], args := [d1, d2] }
  | _ => none }
def FnExactCodedLengthWrongFalsely : Prop := fnExactCodedLengthRow.holds Try.pinned (OpenSpec.ofChange fnExactCodedLengthWrong)

/-- 'laws.FnExactVisitCounts': WHATEVER THE INPUT: true; the input reads as it did. -/
def fnExactVisitCountsSpec : ChangeSpec := { name := "fnExactVisitCounts", fn := fun _ => fun
  | [d1, d2] => { results := [.lit (.bool true)], args := [d1, d2] }
  | _ => none }
def fnExactVisitCountsRow : OpenClaim := { program := "ytefcdkgfabaffaa", sum := "caa3e0f356d539a6dca4a111acc6f01b41dbaedbbba44560b7ff23e3593b813a", func := "loop.example/g01133/laws.FnExactVisitCounts", spec := "fnExactVisitCounts", unfollowed := true, recurses := true, apart := false }
def FnExactVisitCountsSaid : Prop := fnExactVisitCountsRow.holds Try.pinned (OpenSpec.ofChange fnExactVisitCountsSpec)

/-- ITS FALSE NEIGHBOUR: 'it returns false'. Refute it at one input. -/
def fnExactVisitCountsWrong : ChangeSpec := { name := "fnExactVisitCounts", fn := fun _ => fun
  | [d1, d2] => { results := [.lit (.bool false)], args := [d1, d2] }
  | _ => none }
def FnExactVisitCountsWrongFalsely : Prop := fnExactVisitCountsRow.holds Try.pinned (OpenSpec.ofChange fnExactVisitCountsWrong)

/- THE SECOND FORM. 'bulk': how many values and letters a reading holds, each counted each time it is reached (what is shared counts as often as it is met; a slice's spare places count too). A statement '..UptoSaid' is the law's where the arguments, and the package variables that the reading takes, are together of bulk at most 1048576: NARROWER than '..Said'. Prove '..Said' where nothing that the law and all that it calls make is longer than what came in: it says more and counts as full. Else prove '..UptoSaid'. A law counts once. -/
mutual
def uptoBulk {H : Type} : DataW H → Nat
  | .lit (.string bytes) => bytes.length + 1
  | .lit _ => 1
  | .nil => 1
  | .ptr d => uptoBulk d + 1
  | .slice elems spare => uptoBulkAll elems + uptoBulkAll spare + 1
  | .agg parts => uptoBulkAll parts + 1
  | .iface _ d => uptoBulk d + 1
  | .map entries => uptoBulkEntries entries + 1
  | .held _ => 1
def uptoBulkAll {H : Type} : List (DataW H) → Nat
  | [] => 0
  | d :: r => uptoBulk d + uptoBulkAll r
def uptoBulkEntries {H : Type} : List (Lit × DataW H) → Nat
  | [] => 0
  | x :: r => uptoBulkEntry x + uptoBulkEntries r
def uptoBulkEntry {H : Type} : Lit × DataW H → Nat
  | (.string bytes, d) => bytes.length + uptoBulk d + 1
  | (_, d) => uptoBulk d + 1
 end
def uptoSmall : (H : Type) → List (DataW H) → Bool := fun _ ds => decide (uptoBulkAll ds ≤ 1048576)
def OpenSpec.upto (s : _root_.Go.ChangeSpec) : _root_.Go.OpenSpec := { _root_.Go.OpenSpec.ofChange s with cond := some uptoSmall }

/-- 'laws.FnExactSameAuto', WHERE WHAT IT READS IS OF BULK AT MOST 1048576: true; the input reads as it did. -/
def fnExactSameAutoUptoRow : OpenClaim := { program := "ytefcdkgfabaffaa", sum := "caa3e0f356d539a6dca4a111acc6f01b41dbaedbbba44560b7ff23e3593b813a", func := "loop.example/g01133/laws.FnExactSameAuto", spec := "fnExactSameAuto", unfollowed := true, recurses := true, apart := false, narrowed := true }
def FnExactSameAutoUptoSaid : Prop := fnExactSameAutoUptoRow.holds Try.pinned (OpenSpec.upto fnExactSameAutoSpec)

/-- 'laws.FnExactValidAuto', WHERE WHAT IT READS IS OF BULK AT MOST 1048576: true; the input reads as it did. -/
def fnExactValidAutoUptoRow : OpenClaim := { program := "ytefcdkgfabaffaa", sum := "caa3e0f356d539a6dca4a111acc6f01b41dbaedbbba44560b7ff23e3593b813a", func := "loop.example/g01133/laws.FnExactValidAuto", spec := "fnExactValidAuto", unfollowed := true, recurses := true, apart := false, narrowed := true }
def FnExactValidAutoUptoSaid : Prop := fnExactValidAutoUptoRow.holds Try.pinned (OpenSpec.upto fnExactValidAutoSpec)

/-- 'laws.FnExactPatternAuto', WHERE WHAT IT READS IS OF BULK AT MOST 1048576: true; the input reads as it did. -/
def fnExactPatternAutoUptoRow : OpenClaim := { program := "ytefcdkgfabaffaa", sum := "caa3e0f356d539a6dca4a111acc6f01b41dbaedbbba44560b7ff23e3593b813a", func := "loop.example/g01133/laws.FnExactPatternAuto", spec := "fnExactPatternAuto", apart := false, narrowed := true }
def FnExactPatternAutoUptoSaid : Prop := fnExactPatternAutoUptoRow.holds Try.pinned (OpenSpec.upto fnExactPatternAutoSpec)

/-- 'laws.FnExactValidCoder', WHERE WHAT IT READS IS OF BULK AT MOST 1048576: true; the input reads as it did. -/
def fnExactValidCoderUptoRow : OpenClaim := { program := "ytefcdkgfabaffaa", sum := "caa3e0f356d539a6dca4a111acc6f01b41dbaedbbba44560b7ff23e3593b813a", func := "loop.example/g01133/laws.FnExactValidCoder", spec := "fnExactValidCoder", unfollowed := true, recurses := true, apart := false, narrowed := true }
def FnExactValidCoderUptoSaid : Prop := fnExactValidCoderUptoRow.holds Try.pinned (OpenSpec.upto fnExactValidCoderSpec)

/-- 'laws.FnExactBothAuto', WHERE WHAT IT READS IS OF BULK AT MOST 1048576: true; the input reads as it did. -/
def fnExactBothAutoUptoRow : OpenClaim := { program := "ytefcdkgfabaffaa", sum := "caa3e0f356d539a6dca4a111acc6f01b41dbaedbbba44560b7ff23e3593b813a", func := "loop.example/g01133/laws.FnExactBothAuto", spec := "fnExactBothAuto", unfollowed := true, recurses := true, apart := false, narrowed := true }
def FnExactBothAutoUptoSaid : Prop := fnExactBothAutoUptoRow.holds Try.pinned (OpenSpec.upto fnExactBothAutoSpec)

/-- 'laws.FnExactNotAuto', WHERE WHAT IT READS IS OF BULK AT MOST 1048576: true; the input reads as it did. -/
def fnExactNotAutoUptoRow : OpenClaim := { program := "ytefcdkgfabaffaa", sum := "caa3e0f356d539a6dca4a111acc6f01b41dbaedbbba44560b7ff23e3593b813a", func := "loop.example/g01133/laws.FnExactNotAuto", spec := "fnExactNotAuto", unfollowed := true, recurses := true, apart := false, narrowed := true }
def FnExactNotAutoUptoSaid : Prop := fnExactNotAutoUptoRow.holds Try.pinned (OpenSpec.upto fnExactNotAutoSpec)

/-- 'laws.FnExactCodeWord', WHERE WHAT IT READS IS OF BULK AT MOST 1048576: true; the input reads as it did. -/
def fnExactCodeWordUptoRow : OpenClaim := { program := "ytefcdkgfabaffaa", sum := "caa3e0f356d539a6dca4a111acc6f01b41dbaedbbba44560b7ff23e3593b813a", func := "loop.example/g01133/laws.FnExactCodeWord", spec := "fnExactCodeWord", inPlace := ["internal/abi.NoEscape"], unfollowed := true, recurses := true, apart := false, narrowed := true }
def FnExactCodeWordUptoSaid : Prop := fnExactCodeWordUptoRow.holds Try.pinned (OpenSpec.upto fnExactCodeWordSpec)

/-- 'laws.FnExactStateMaps', WHERE WHAT IT READS IS OF BULK AT MOST 1048576: true; the input reads as it did. -/
def fnExactStateMapsUptoRow : OpenClaim := { program := "ytefcdkgfabaffaa", sum := "caa3e0f356d539a6dca4a111acc6f01b41dbaedbbba44560b7ff23e3593b813a", func := "loop.example/g01133/laws.FnExactStateMaps", spec := "fnExactStateMaps", unfollowed := true, recurses := true, apart := false, narrowed := true }
def FnExactStateMapsUptoSaid : Prop := fnExactStateMapsUptoRow.holds Try.pinned (OpenSpec.upto fnExactStateMapsSpec)

/-- 'laws.FnExactCountPattern', WHERE WHAT IT READS IS OF BULK AT MOST 1048576: true; the input reads as it did. -/
def fnExactCountPatternUptoRow : OpenClaim := { program := "ytefcdkgfabaffaa", sum := "caa3e0f356d539a6dca4a111acc6f01b41dbaedbbba44560b7ff23e3593b813a", func := "loop.example/g01133/laws.FnExactCountPattern", spec := "fnExactCountPattern", unfollowed := true, recurses := true, apart := false, narrowed := true }
def FnExactCountPatternUptoSaid : Prop := fnExactCountPatternUptoRow.holds Try.pinned (OpenSpec.upto fnExactCountPatternSpec)

/-- 'laws.FnExactPatternAt', WHERE WHAT IT READS IS OF BULK AT MOST 1048576: true; the input reads as it did. -/
def fnExactPatternAtUptoRow : OpenClaim := { program := "ytefcdkgfabaffaa", sum := "caa3e0f356d539a6dca4a111acc6f01b41dbaedbbba44560b7ff23e3593b813a", func := "loop.example/g01133/laws.FnExactPatternAt", spec := "fnExactPatternAt", unfollowed := true, recurses := true, apart := false, narrowed := true }
def FnExactPatternAtUptoSaid : Prop := fnExactPatternAtUptoRow.holds Try.pinned (OpenSpec.upto fnExactPatternAtSpec)

/-- 'laws.FnExactCountAccepted', WHERE WHAT IT READS IS OF BULK AT MOST 1048576: true; the input reads as it did. -/
def fnExactCountAcceptedUptoRow : OpenClaim := { program := "ytefcdkgfabaffaa", sum := "caa3e0f356d539a6dca4a111acc6f01b41dbaedbbba44560b7ff23e3593b813a", func := "loop.example/g01133/laws.FnExactCountAccepted", spec := "fnExactCountAccepted", unfollowed := true, recurses := true, apart := false, narrowed := true }
def FnExactCountAcceptedUptoSaid : Prop := fnExactCountAcceptedUptoRow.holds Try.pinned (OpenSpec.upto fnExactCountAcceptedSpec)

/-- 'laws.FnExactFirstVisit', WHERE WHAT IT READS IS OF BULK AT MOST 1048576: true; the input reads as it did. -/
def fnExactFirstVisitUptoRow : OpenClaim := { program := "ytefcdkgfabaffaa", sum := "caa3e0f356d539a6dca4a111acc6f01b41dbaedbbba44560b7ff23e3593b813a", func := "loop.example/g01133/laws.FnExactFirstVisit", spec := "fnExactFirstVisit", unfollowed := true, recurses := true, apart := false, narrowed := true }
def FnExactFirstVisitUptoSaid : Prop := fnExactFirstVisitUptoRow.holds Try.pinned (OpenSpec.upto fnExactFirstVisitSpec)

/-- 'laws.FnExactCodedLength', WHERE WHAT IT READS IS OF BULK AT MOST 1048576: true; the input reads as it did. -/
def fnExactCodedLengthUptoRow : OpenClaim := { program := "ytefcdkgfabaffaa", sum := "caa3e0f356d539a6dca4a111acc6f01b41dbaedbbba44560b7ff23e3593b813a", func := "loop.example/g01133/laws.FnExactCodedLength", spec := "fnExactCodedLength", unfollowed := true, recurses := true, apart := false, narrowed := true }
def FnExactCodedLengthUptoSaid : Prop := fnExactCodedLengthUptoRow.holds Try.pinned (OpenSpec.upto fnExactCodedLengthSpec)

/-- 'laws.FnExactVisitCounts', WHERE WHAT IT READS IS OF BULK AT MOST 1048576: true; the input reads as it did. -/
def fnExactVisitCountsUptoRow : OpenClaim := { program := "ytefcdkgfabaffaa", sum := "caa3e0f356d539a6dca4a111acc6f01b41dbaedbbba44560b7ff23e3593b813a", func := "loop.example/g01133/laws.FnExactVisitCounts", spec := "fnExactVisitCounts", unfollowed := true, recurses := true, apart := false, narrowed := true }
def FnExactVisitCountsUptoSaid : Prop := fnExactVisitCountsUptoRow.holds Try.pinned (OpenSpec.upto fnExactVisitCountsSpec)

end Rows
end Go.Proofs.Ytefcdkgfabaffaa

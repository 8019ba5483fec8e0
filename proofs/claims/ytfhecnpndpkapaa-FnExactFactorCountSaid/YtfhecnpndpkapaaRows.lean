/-
  No cell of these rows narrows 'for every input' (looked for: loops, veiled, ifaces, maps, wideKeys, modest, calm, conditions, laid).
  DERIVED. THE GIVEN ROWS OF THIS SEAT. 12 by the template 'for every input the law returns true; each argument reads behind the call as it read before'; 0 by the template 'total and deterministic' (their statements: YtfhecnpndpkapaaTotals.lean).
  GIVEN WITH THE SEED: the statements are not yours to turn. If you find one false, say at which input.
  Laid BY PROGRAM, IN A SANDBOX (cutbox-rows.mjs): the forced cells as the released guide's own fill.sh prints them over the translation a3d3e9c244a101dd… (all of the seat's roots in one cut). By AI agents, Wed Nov 11 2026. No macro, syntax, notation, axiom, sorry.
-/
import Derived.Test.YtfhecnpndpkapaaChecked
import GoSem.Claim
import GoSem.ClaimJoined
import GoSem.ClaimMapViews
import Derived.JoinedTies
import Derived.KernelRfl
namespace Go.Proofs.Ytfhecnpndpkapaa
/- THE CELL 'sum', in the pinned program and in every row, IS THE sha256 OF THE DUMP (.gsa) THAT YtfhecnpndpkapaaProg.lean LOADS. Nothing in Lean hashes anything: it is a label: what it is worth is what the hold of that sum in a sandbox is worth. -/
noncomputable def Try.pinned : Pinned := { name := "ytfhecnpndpkapaa", sum := "a3d3e9c244a101ddbda794a7207408f30a6bf229e24b7e152f60d2650711b886", checked := Try.checked }
namespace Rows
def none {H : Type} : Left H := { results := [], args := [] }

/-- 'laws.FnExactConstants': WHATEVER THE INPUT: true; the input reads as it did. -/
def fnExactConstantsSpec : ChangeSpec := { name := "fnExactConstants", fn := fun _ => fun
  | [] => { results := [.lit (.bool true)], args := [] }
  | _ => none }
def fnExactConstantsRow : OpenClaim := { program := "ytfhecnpndpkapaa", sum := "a3d3e9c244a101ddbda794a7207408f30a6bf229e24b7e152f60d2650711b886", func := "loop.example/g01133/laws.FnExactConstants", spec := "fnExactConstants", apart := false }
def FnExactConstantsSaid : Prop := fnExactConstantsRow.holds Try.pinned (OpenSpec.ofChange fnExactConstantsSpec)

/-- ITS FALSE NEIGHBOUR: 'it returns false'. Refute it at one input. -/
def fnExactConstantsWrong : ChangeSpec := { name := "fnExactConstants", fn := fun _ => fun
  | [] => { results := [.lit (.bool false)], args := [] }
  | _ => none }
def FnExactConstantsWrongFalsely : Prop := fnExactConstantsRow.holds Try.pinned (OpenSpec.ofChange fnExactConstantsWrong)

/-- 'laws.FnExactCodeName': WHATEVER THE INPUT: true; the input reads as it did. -/
def fnExactCodeNameSpec : ChangeSpec := { name := "fnExactCodeName", fn := fun _ => fun
  | [d] => { results := [.lit (.bool true)], args := [d] }
  | _ => none }
def fnExactCodeNameRow : OpenClaim := { program := "ytfhecnpndpkapaa", sum := "a3d3e9c244a101ddbda794a7207408f30a6bf229e24b7e152f60d2650711b886", func := "loop.example/g01133/laws.FnExactCodeName", spec := "fnExactCodeName", apart := false }
def FnExactCodeNameSaid : Prop := fnExactCodeNameRow.holds Try.pinned (OpenSpec.ofChange fnExactCodeNameSpec)

/-- ITS FALSE NEIGHBOUR: 'it returns false'. Refute it at one input. -/
def fnExactCodeNameWrong : ChangeSpec := { name := "fnExactCodeName", fn := fun _ => fun
  | [d] => { results := [.lit (.bool false)], args := [d] }
  | _ => none }
def FnExactCodeNameWrongFalsely : Prop := fnExactCodeNameRow.holds Try.pinned (OpenSpec.ofChange fnExactCodeNameWrong)

/-- 'laws.FnExactValidWord': WHATEVER THE INPUT: true; the input reads as it did. -/
def fnExactValidWordSpec : ChangeSpec := { name := "fnExactValidWord", fn := fun _ => fun
  | [d] => { results := [.lit (.bool true)], args := [d] }
  | _ => none }
def fnExactValidWordRow : OpenClaim := { program := "ytfhecnpndpkapaa", sum := "a3d3e9c244a101ddbda794a7207408f30a6bf229e24b7e152f60d2650711b886", func := "loop.example/g01133/laws.FnExactValidWord", spec := "fnExactValidWord", apart := false }
def FnExactValidWordSaid : Prop := fnExactValidWordRow.holds Try.pinned (OpenSpec.ofChange fnExactValidWordSpec)

/-- ITS FALSE NEIGHBOUR: 'it returns false'. Refute it at one input. -/
def fnExactValidWordWrong : ChangeSpec := { name := "fnExactValidWord", fn := fun _ => fun
  | [d] => { results := [.lit (.bool false)], args := [d] }
  | _ => none }
def FnExactValidWordWrongFalsely : Prop := fnExactValidWordRow.holds Try.pinned (OpenSpec.ofChange fnExactValidWordWrong)

/-- 'laws.FnExactFibonacciWord': WHATEVER THE INPUT: true; the input reads as it did. -/
def fnExactFibonacciWordSpec : ChangeSpec := { name := "fnExactFibonacciWord", fn := fun _ => fun
  | [d] => { results := [.lit (.bool true)], args := [d] }
  | _ => none }
def fnExactFibonacciWordRow : OpenClaim := { program := "ytfhecnpndpkapaa", sum := "a3d3e9c244a101ddbda794a7207408f30a6bf229e24b7e152f60d2650711b886", func := "loop.example/g01133/laws.FnExactFibonacciWord", spec := "fnExactFibonacciWord", unfollowed := true, recurses := true, apart := false }
def FnExactFibonacciWordSaid : Prop := fnExactFibonacciWordRow.holds Try.pinned (OpenSpec.ofChange fnExactFibonacciWordSpec)

/-- ITS FALSE NEIGHBOUR: 'it returns false'. Refute it at one input. -/
def fnExactFibonacciWordWrong : ChangeSpec := { name := "fnExactFibonacciWord", fn := fun _ => fun
  | [d] => { results := [.lit (.bool false)], args := [d] }
  | _ => none }
def FnExactFibonacciWordWrongFalsely : Prop := fnExactFibonacciWordRow.holds Try.pinned (OpenSpec.ofChange fnExactFibonacciWordWrong)

/-- 'laws.FnExactLeastShift': WHATEVER THE INPUT: true; the input reads as it did. -/
def fnExactLeastShiftSpec : ChangeSpec := { name := "fnExactLeastShift", fn := fun _ => fun
  | [d] => { results := [.lit (.bool true)], args := [d] }
  | _ => none }
def fnExactLeastShiftRow : OpenClaim := { program := "ytfhecnpndpkapaa", sum := "a3d3e9c244a101ddbda794a7207408f30a6bf229e24b7e152f60d2650711b886", func := "loop.example/g01133/laws.FnExactLeastShift", spec := "fnExactLeastShift", apart := false }
def FnExactLeastShiftSaid : Prop := fnExactLeastShiftRow.holds Try.pinned (OpenSpec.ofChange fnExactLeastShiftSpec)

/-- ITS FALSE NEIGHBOUR: 'it returns false'. Refute it at one input. -/
def fnExactLeastShiftWrong : ChangeSpec := { name := "fnExactLeastShift", fn := fun _ => fun
  | [d] => { results := [.lit (.bool false)], args := [d] }
  | _ => none }
def FnExactLeastShiftWrongFalsely : Prop := fnExactLeastShiftRow.holds Try.pinned (OpenSpec.ofChange fnExactLeastShiftWrong)

/-- 'laws.FnExactCommonStart': WHATEVER THE INPUT: true; the input reads as it did. -/
def fnExactCommonStartSpec : ChangeSpec := { name := "fnExactCommonStart", fn := fun _ => fun
  | [d1, d2] => { results := [.lit (.bool true)], args := [d1, d2] }
  | _ => none }
def fnExactCommonStartRow : OpenClaim := { program := "ytfhecnpndpkapaa", sum := "a3d3e9c244a101ddbda794a7207408f30a6bf229e24b7e152f60d2650711b886", func := "loop.example/g01133/laws.FnExactCommonStart", spec := "fnExactCommonStart", apart := false }
def FnExactCommonStartSaid : Prop := fnExactCommonStartRow.holds Try.pinned (OpenSpec.ofChange fnExactCommonStartSpec)

/-- ITS FALSE NEIGHBOUR: 'it returns false'. Refute it at one input. -/
def fnExactCommonStartWrong : ChangeSpec := { name := "fnExactCommonStart", fn := fun _ => fun
  | [d1, d2] => { results := [.lit (.bool false)], args := [d1, d2] }
  | _ => none }
def FnExactCommonStartWrongFalsely : Prop := fnExactCommonStartRow.holds Try.pinned (OpenSpec.ofChange fnExactCommonStartWrong)

/-- 'laws.FnExactIsPalindrome': WHATEVER THE INPUT: true; the input reads as it did. -/
def fnExactIsPalindromeSpec : ChangeSpec := { name := "fnExactIsPalindrome", fn := fun _ => fun
  | [d] => { results := [.lit (.bool true)], args := [d] }
  | _ => none }
def fnExactIsPalindromeRow : OpenClaim := { program := "ytfhecnpndpkapaa", sum := "a3d3e9c244a101ddbda794a7207408f30a6bf229e24b7e152f60d2650711b886", func := "loop.example/g01133/laws.FnExactIsPalindrome", spec := "fnExactIsPalindrome", apart := false }
def FnExactIsPalindromeSaid : Prop := fnExactIsPalindromeRow.holds Try.pinned (OpenSpec.ofChange fnExactIsPalindromeSpec)

/-- ITS FALSE NEIGHBOUR: 'it returns false'. Refute it at one input. -/
def fnExactIsPalindromeWrong : ChangeSpec := { name := "fnExactIsPalindrome", fn := fun _ => fun
  | [d] => { results := [.lit (.bool false)], args := [d] }
  | _ => none }
def FnExactIsPalindromeWrongFalsely : Prop := fnExactIsPalindromeRow.holds Try.pinned (OpenSpec.ofChange fnExactIsPalindromeWrong)

/-- 'laws.FnExactTurnWord': WHATEVER THE INPUT: true; the input reads as it did. -/
def fnExactTurnWordSpec : ChangeSpec := { name := "fnExactTurnWord", fn := fun _ => fun
  | [d] => { results := [.lit (.bool true)], args := [d] }
  | _ => none }
def fnExactTurnWordRow : OpenClaim := { program := "ytfhecnpndpkapaa", sum := "a3d3e9c244a101ddbda794a7207408f30a6bf229e24b7e152f60d2650711b886", func := "loop.example/g01133/laws.FnExactTurnWord", spec := "fnExactTurnWord", apart := false }
def FnExactTurnWordSaid : Prop := fnExactTurnWordRow.holds Try.pinned (OpenSpec.ofChange fnExactTurnWordSpec)

/-- ITS FALSE NEIGHBOUR: 'it returns false'. Refute it at one input. -/
def fnExactTurnWordWrong : ChangeSpec := { name := "fnExactTurnWord", fn := fun _ => fun
  | [d] => { results := [.lit (.bool false)], args := [d] }
  | _ => none }
def FnExactTurnWordWrongFalsely : Prop := fnExactTurnWordRow.holds Try.pinned (OpenSpec.ofChange fnExactTurnWordWrong)

/-- 'laws.FnExactThueWord': WHATEVER THE INPUT: true; the input reads as it did. -/
def fnExactThueWordSpec : ChangeSpec := { name := "fnExactThueWord", fn := fun _ => fun
  | [d] => { results := [.lit (.bool true)], args := [d] }
  | _ => none }
def fnExactThueWordRow : OpenClaim := { program := "ytfhecnpndpkapaa", sum := "a3d3e9c244a101ddbda794a7207408f30a6bf229e24b7e152f60d2650711b886", func := "loop.example/g01133/laws.FnExactThueWord", spec := "fnExactThueWord", unfollowed := true, recurses := true, apart := false }
def FnExactThueWordSaid : Prop := fnExactThueWordRow.holds Try.pinned (OpenSpec.ofChange fnExactThueWordSpec)

/-- ITS FALSE NEIGHBOUR: 'it returns false'. Refute it at one input. -/
def fnExactThueWordWrong : ChangeSpec := { name := "fnExactThueWord", fn := fun _ => fun
  | [d] => { results := [.lit (.bool false)], args := [d] }
  | _ => none }
def FnExactThueWordWrongFalsely : Prop := fnExactThueWordRow.holds Try.pinned (OpenSpec.ofChange fnExactThueWordWrong)

/-- 'laws.FnExactFactorCount': WHATEVER THE INPUT: true; the input reads as it did. -/
def fnExactFactorCountSpec : ChangeSpec := { name := "fnExactFactorCount", fn := fun _ => fun
  | [d1, d2] => { results := [.lit (.bool true)], args := [d1, d2] }
  | _ => none }
def fnExactFactorCountRow : OpenClaim := { program := "ytfhecnpndpkapaa", sum := "a3d3e9c244a101ddbda794a7207408f30a6bf229e24b7e152f60d2650711b886", func := "loop.example/g01133/laws.FnExactFactorCount", spec := "fnExactFactorCount", apart := false }
def FnExactFactorCountSaid : Prop := fnExactFactorCountRow.holds Try.pinned (OpenSpec.ofChange fnExactFactorCountSpec)

/-- ITS FALSE NEIGHBOUR: 'it returns false'. Refute it at one input. -/
def fnExactFactorCountWrong : ChangeSpec := { name := "fnExactFactorCount", fn := fun _ => fun
  | [d1, d2] => { results := [.lit (.bool false)], args := [d1, d2] }
  | _ => none }
def FnExactFactorCountWrongFalsely : Prop := fnExactFactorCountRow.holds Try.pinned (OpenSpec.ofChange fnExactFactorCountWrong)

/-- 'laws.FnExactCompareWords': WHATEVER THE INPUT: true; the input reads as it did. -/
def fnExactCompareWordsSpec : ChangeSpec := { name := "fnExactCompareWords", fn := fun _ => fun
  | [d1, d2] => { results := [.lit (.bool true)], args := [d1, d2] }
  | _ => none }
def fnExactCompareWordsRow : OpenClaim := { program := "ytfhecnpndpkapaa", sum := "a3d3e9c244a101ddbda794a7207408f30a6bf229e24b7e152f60d2650711b886", func := "loop.example/g01133/laws.FnExactCompareWords", spec := "fnExactCompareWords", apart := false }
def FnExactCompareWordsSaid : Prop := fnExactCompareWordsRow.holds Try.pinned (OpenSpec.ofChange fnExactCompareWordsSpec)

/-- ITS FALSE NEIGHBOUR: 'it returns false'. Refute it at one input. -/
def fnExactCompareWordsWrong : ChangeSpec := { name := "fnExactCompareWords", fn := fun _ => fun
  | [d1, d2] => { results := [.lit (.bool false)], args := [d1, d2] }
  | _ => none }
def FnExactCompareWordsWrongFalsely : Prop := fnExactCompareWordsRow.holds Try.pinned (OpenSpec.ofChange fnExactCompareWordsWrong)

/-- 'laws.FnExactBordersOf': WHATEVER THE INPUT: true; the input reads as it did. -/
def fnExactBordersOfSpec : ChangeSpec := { name := "fnExactBordersOf", fn := fun _ => fun
  | [d] => { results := [.lit (.bool true)], args := [d] }
  | _ => none }
def fnExactBordersOfRow : OpenClaim := { program := "ytfhecnpndpkapaa", sum := "a3d3e9c244a101ddbda794a7207408f30a6bf229e24b7e152f60d2650711b886", func := "loop.example/g01133/laws.FnExactBordersOf", spec := "fnExactBordersOf", apart := false }
def FnExactBordersOfSaid : Prop := fnExactBordersOfRow.holds Try.pinned (OpenSpec.ofChange fnExactBordersOfSpec)

/-- ITS FALSE NEIGHBOUR: 'it returns false'. Refute it at one input. -/
def fnExactBordersOfWrong : ChangeSpec := { name := "fnExactBordersOf", fn := fun _ => fun
  | [d] => { results := [.lit (.bool false)], args := [d] }
  | _ => none }
def FnExactBordersOfWrongFalsely : Prop := fnExactBordersOfRow.holds Try.pinned (OpenSpec.ofChange fnExactBordersOfWrong)

/- THE SECOND FORM. 'bulk': how many values and letters a reading holds, each counted each time it is reached (what is shared counts as often as it is met; a slice's spare places count too). A statement '..UptoSaid' is the law's where the arguments, and the package variables that the reading takes, are together of bulk at most 1048576: NARROWER than '..Said'. Prove '..Said' where nothing that the law and all that it calls make is longer than what came in: it says more and counts as full. Else prove '..UptoSaid'. A law counts once. -/
mutual
def uptoBulk {H : Type} : DataW H → Nat
  | .lit (.string bytes) => bytes.length + 1
  | .lit _ => 1
  | .nil => 1
  | .ptr d => uptoBulk d + 1
  | .slice elems spare => uptoBulkAll elems + uptoBulkAll spare + 1
  | .agg parts => uptoBulkAll parts + 1
  | .iface _ d => uptoBulk d + 1
  | .map entries => uptoBulkEntries entries + 1
  | .held _ => 1
def uptoBulkAll {H : Type} : List (DataW H) → Nat
  | [] => 0
  | d :: r => uptoBulk d + uptoBulkAll r
def uptoBulkEntries {H : Type} : List (Lit × DataW H) → Nat
  | [] => 0
  | x :: r => uptoBulkEntry x + uptoBulkEntries r
def uptoBulkEntry {H : Type} : Lit × DataW H → Nat
  | (.string bytes, d) => bytes.length + uptoBulk d + 1
  | (_, d) => uptoBulk d + 1
 end
def uptoSmall : (H : Type) → List (DataW H) → Bool := fun _ ds => decide (uptoBulkAll ds ≤ 1048576)
def OpenSpec.upto (s : _root_.Go.ChangeSpec) : _root_.Go.OpenSpec := { _root_.Go.OpenSpec.ofChange s with cond := some uptoSmall }

/-- 'laws.FnExactConstants', WHERE WHAT IT READS IS OF BULK AT MOST 1048576: true; the input reads as it did. -/
def fnExactConstantsUptoRow : OpenClaim := { program := "ytfhecnpndpkapaa", sum := "a3d3e9c244a101ddbda794a7207408f30a6bf229e24b7e152f60d2650711b886", func := "loop.example/g01133/laws.FnExactConstants", spec := "fnExactConstants", apart := false, narrowed := true }
def FnExactConstantsUptoSaid : Prop := fnExactConstantsUptoRow.holds Try.pinned (OpenSpec.upto fnExactConstantsSpec)

/-- 'laws.FnExactCodeName', WHERE WHAT IT READS IS OF BULK AT MOST 1048576: true; the input reads as it did. -/
def fnExactCodeNameUptoRow : OpenClaim := { program := "ytfhecnpndpkapaa", sum := "a3d3e9c244a101ddbda794a7207408f30a6bf229e24b7e152f60d2650711b886", func := "loop.example/g01133/laws.FnExactCodeName", spec := "fnExactCodeName", apart := false, narrowed := true }
def FnExactCodeNameUptoSaid : Prop := fnExactCodeNameUptoRow.holds Try.pinned (OpenSpec.upto fnExactCodeNameSpec)

/-- 'laws.FnExactValidWord', WHERE WHAT IT READS IS OF BULK AT MOST 1048576: true; the input reads as it did. -/
def fnExactValidWordUptoRow : OpenClaim := { program := "ytfhecnpndpkapaa", sum := "a3d3e9c244a101ddbda794a7207408f30a6bf229e24b7e152f60d2650711b886", func := "loop.example/g01133/laws.FnExactValidWord", spec := "fnExactValidWord", apart := false, narrowed := true }
def FnExactValidWordUptoSaid : Prop := fnExactValidWordUptoRow.holds Try.pinned (OpenSpec.upto fnExactValidWordSpec)

/-- 'laws.FnExactFibonacciWord', WHERE WHAT IT READS IS OF BULK AT MOST 1048576: true; the input reads as it did. -/
def fnExactFibonacciWordUptoRow : OpenClaim := { program := "ytfhecnpndpkapaa", sum := "a3d3e9c244a101ddbda794a7207408f30a6bf229e24b7e152f60d2650711b886", func := "loop.example/g01133/laws.FnExactFibonacciWord", spec := "fnExactFibonacciWord", unfollowed := true, recurses := true, apart := false, narrowed := true }
def FnExactFibonacciWordUptoSaid : Prop := fnExactFibonacciWordUptoRow.holds Try.pinned (OpenSpec.upto fnExactFibonacciWordSpec)

/-- 'laws.FnExactLeastShift', WHERE WHAT IT READS IS OF BULK AT MOST 1048576: true; the input reads as it did. -/
def fnExactLeastShiftUptoRow : OpenClaim := { program := "ytfhecnpndpkapaa", sum := "a3d3e9c244a101ddbda794a7207408f30a6bf229e24b7e152f60d2650711b886", func := "loop.example/g01133/laws.FnExactLeastShift", spec := "fnExactLeastShift", apart := false, narrowed := true }
def FnExactLeastShiftUptoSaid : Prop := fnExactLeastShiftUptoRow.holds Try.pinned (OpenSpec.upto fnExactLeastShiftSpec)

/-- 'laws.FnExactCommonStart', WHERE WHAT IT READS IS OF BULK AT MOST 1048576: true; the input reads as it did. -/
def fnExactCommonStartUptoRow : OpenClaim := { program := "ytfhecnpndpkapaa", sum := "a3d3e9c244a101ddbda794a7207408f30a6bf229e24b7e152f60d2650711b886", func := "loop.example/g01133/laws.FnExactCommonStart", spec := "fnExactCommonStart", apart := false, narrowed := true }
def FnExactCommonStartUptoSaid : Prop := fnExactCommonStartUptoRow.holds Try.pinned (OpenSpec.upto fnExactCommonStartSpec)

/-- 'laws.FnExactIsPalindrome', WHERE WHAT IT READS IS OF BULK AT MOST 1048576: true; the input reads as it did. -/
def fnExactIsPalindromeUptoRow : OpenClaim := { program := "ytfhecnpndpkapaa", sum := "a3d3e9c244a101ddbda794a7207408f30a6bf229e24b7e152f60d2650711b886", func := "loop.example/g01133/laws.FnExactIsPalindrome", spec := "fnExactIsPalindrome", apart := false, narrowed := true }
def FnExactIsPalindromeUptoSaid : Prop := fnExactIsPalindromeUptoRow.holds Try.pinned (OpenSpec.upto fnExactIsPalindromeSpec)

/-- 'laws.FnExactTurnWord', WHERE WHAT IT READS IS OF BULK AT MOST 1048576: true; the input reads as it did. -/
def fnExactTurnWordUptoRow : OpenClaim := { program := "ytfhecnpndpkapaa", sum := "a3d3e9c244a101ddbda794a7207408f30a6bf229e24b7e152f60d2650711b886", func := "loop.example/g01133/laws.FnExactTurnWord", spec := "fnExactTurnWord", apart := false, narrowed := true }
def FnExactTurnWordUptoSaid : Prop := fnExactTurnWordUptoRow.holds Try.pinned (OpenSpec.upto fnExactTurnWordSpec)

/-- 'laws.FnExactThueWord', WHERE WHAT IT READS IS OF BULK AT MOST 1048576: true; the input reads as it did. -/
def fnExactThueWordUptoRow : OpenClaim := { program := "ytfhecnpndpkapaa", sum := "a3d3e9c244a101ddbda794a7207408f30a6bf229e24b7e152f60d2650711b886", func := "loop.example/g01133/laws.FnExactThueWord", spec := "fnExactThueWord", unfollowed := true, recurses := true, apart := false, narrowed := true }
def FnExactThueWordUptoSaid : Prop := fnExactThueWordUptoRow.holds Try.pinned (OpenSpec.upto fnExactThueWordSpec)

/-- 'laws.FnExactFactorCount', WHERE WHAT IT READS IS OF BULK AT MOST 1048576: true; the input reads as it did. -/
def fnExactFactorCountUptoRow : OpenClaim := { program := "ytfhecnpndpkapaa", sum := "a3d3e9c244a101ddbda794a7207408f30a6bf229e24b7e152f60d2650711b886", func := "loop.example/g01133/laws.FnExactFactorCount", spec := "fnExactFactorCount", apart := false, narrowed := true }
def FnExactFactorCountUptoSaid : Prop := fnExactFactorCountUptoRow.holds Try.pinned (OpenSpec.upto fnExactFactorCountSpec)

/-- 'laws.FnExactCompareWords', WHERE WHAT IT READS IS OF BULK AT MOST 1048576: true; the input reads as it did. -/
def fnExactCompareWordsUptoRow : OpenClaim := { program := "ytfhecnpndpkapaa", sum := "a3d3e9c244a101ddbda794a7207408f30a6bf229e24b7e152f60d2650711b886", func := "loop.example/g01133/laws.FnExactCompareWords", spec := "fnExactCompareWords", apart := false, narrowed := true }
def FnExactCompareWordsUptoSaid : Prop := fnExactCompareWordsUptoRow.holds Try.pinned (OpenSpec.upto fnExactCompareWordsSpec)

/-- 'laws.FnExactBordersOf', WHERE WHAT IT READS IS OF BULK AT MOST 1048576: true; the input reads as it did. -/
def fnExactBordersOfUptoRow : OpenClaim := { program := "ytfhecnpndpkapaa", sum := "a3d3e9c244a101ddbda794a7207408f30a6bf229e24b7e152f60d2650711b886", func := "loop.example/g01133/laws.FnExactBordersOf", spec := "fnExactBordersOf", apart := false, narrowed := true }
def FnExactBordersOfUptoSaid : Prop := fnExactBordersOfUptoRow.holds Try.pinned (OpenSpec.upto fnExactBordersOfSpec)

end Rows
end Go.Proofs.Ytfhecnpndpkapaa

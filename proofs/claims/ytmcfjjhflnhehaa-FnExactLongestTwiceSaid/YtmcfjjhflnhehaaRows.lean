/-
  No cell of these rows narrows 'for every input' (looked for: loops, veiled, ifaces, maps, wideKeys, modest, calm, conditions, laid).
  DERIVED. THE GIVEN ROWS OF THIS SEAT. 12 by the template 'for every input the law returns true; each argument reads behind the call as it read before'; 0 by the template 'total and deterministic' (their statements: YtmcfjjhflnhehaaTotals.lean).
  GIVEN WITH THE SEED: the statements are not yours to turn. If you find one false, say at which input.
  Laid BY PROGRAM, IN A SANDBOX (cutbox-rows.mjs): the forced cells as the released guide's own fill.sh prints them over the translation c84cb844e50d800b… (all of the seat's roots in one cut). By AI agents, Wed Nov 11 2026. No macro, syntax, notation, axiom, sorry.
-/
import Derived.Test.YtmcfjjhflnhehaaChecked
import GoSem.Claim
import GoSem.ClaimJoined
import GoSem.ClaimMapViews
import Derived.JoinedTies
import Derived.KernelRfl
namespace Go.Proofs.Ytmcfjjhflnhehaa
/- THE CELL 'sum', in the pinned program and in every row, IS THE sha256 OF THE DUMP (.gsa) THAT YtmcfjjhflnhehaaProg.lean LOADS. Nothing in Lean hashes anything: it is a label: what it is worth is what the hold of that sum in a sandbox is worth. -/
noncomputable def Try.pinned : Pinned := { name := "ytmcfjjhflnhehaa", sum := "c84cb844e50d800baeb1e28664eb059c9434365f203124adf818def919f2a97f", checked := Try.checked }
namespace Rows
def none {H : Type} : Left H := { results := [], args := [] }

/-- 'laws.FnExactSameGrammar': WHATEVER THE INPUT: true; the input reads as it did. -/
def fnExactSameGrammarSpec : ChangeSpec := { name := "fnExactSameGrammar", fn := fun _ => fun
  | [d1, d2] => { results := [.lit (.bool true)], args := [d1, d2] }
  | _ => none }
def fnExactSameGrammarRow : OpenClaim := { program := "ytmcfjjhflnhehaa", sum := "c84cb844e50d800baeb1e28664eb059c9434365f203124adf818def919f2a97f", func := "loop.example/g01133/laws.FnExactSameGrammar", spec := "fnExactSameGrammar", apart := false }
def FnExactSameGrammarSaid : Prop := fnExactSameGrammarRow.holds Try.pinned (OpenSpec.ofChange fnExactSameGrammarSpec)

/-- ITS FALSE NEIGHBOUR: 'it returns false'. Refute it at one input. -/
def fnExactSameGrammarWrong : ChangeSpec := { name := "fnExactSameGrammar", fn := fun _ => fun
  | [d1, d2] => { results := [.lit (.bool false)], args := [d1, d2] }
  | _ => none }
def FnExactSameGrammarWrongFalsely : Prop := fnExactSameGrammarRow.holds Try.pinned (OpenSpec.ofChange fnExactSameGrammarWrong)

/-- 'laws.FnExactValidGrammar': WHATEVER THE INPUT: true; the input reads as it did. -/
def fnExactValidGrammarSpec : ChangeSpec := { name := "fnExactValidGrammar", fn := fun _ => fun
  | [d] => { results := [.lit (.bool true)], args := [d] }
  | _ => none }
def fnExactValidGrammarRow : OpenClaim := { program := "ytmcfjjhflnhehaa", sum := "c84cb844e50d800baeb1e28664eb059c9434365f203124adf818def919f2a97f", func := "loop.example/g01133/laws.FnExactValidGrammar", spec := "fnExactValidGrammar", apart := false }
def FnExactValidGrammarSaid : Prop := fnExactValidGrammarRow.holds Try.pinned (OpenSpec.ofChange fnExactValidGrammarSpec)

/-- ITS FALSE NEIGHBOUR: 'it returns false'. Refute it at one input. -/
def fnExactValidGrammarWrong : ChangeSpec := { name := "fnExactValidGrammar", fn := fun _ => fun
  | [d] => { results := [.lit (.bool false)], args := [d] }
  | _ => none }
def FnExactValidGrammarWrongFalsely : Prop := fnExactValidGrammarRow.holds Try.pinned (OpenSpec.ofChange fnExactValidGrammarWrong)

/-- 'laws.FnExactLengthOf': WHATEVER THE INPUT: true; the input reads as it did. -/
def fnExactLengthOfSpec : ChangeSpec := { name := "fnExactLengthOf", fn := fun _ => fun
  | [d] => { results := [.lit (.bool true)], args := [d] }
  | _ => none }
def fnExactLengthOfRow : OpenClaim := { program := "ytmcfjjhflnhehaa", sum := "c84cb844e50d800baeb1e28664eb059c9434365f203124adf818def919f2a97f", func := "loop.example/g01133/laws.FnExactLengthOf", spec := "fnExactLengthOf", apart := false }
def FnExactLengthOfSaid : Prop := fnExactLengthOfRow.holds Try.pinned (OpenSpec.ofChange fnExactLengthOfSpec)

/-- ITS FALSE NEIGHBOUR: 'it returns false'. Refute it at one input. -/
def fnExactLengthOfWrong : ChangeSpec := { name := "fnExactLengthOf", fn := fun _ => fun
  | [d] => { results := [.lit (.bool false)], args := [d] }
  | _ => none }
def FnExactLengthOfWrongFalsely : Prop := fnExactLengthOfRow.holds Try.pinned (OpenSpec.ofChange fnExactLengthOfWrong)

/-- 'laws.FnExactDepthOf': WHATEVER THE INPUT: true; the input reads as it did. -/
def fnExactDepthOfSpec : ChangeSpec := { name := "fnExactDepthOf", fn := fun _ => fun
  | [d] => { results := [.lit (.bool true)], args := [d] }
  | _ => none }
def fnExactDepthOfRow : OpenClaim := { program := "ytmcfjjhflnhehaa", sum := "c84cb844e50d800baeb1e28664eb059c9434365f203124adf818def919f2a97f", func := "loop.example/g01133/laws.FnExactDepthOf", spec := "fnExactDepthOf", apart := false }
def FnExactDepthOfSaid : Prop := fnExactDepthOfRow.holds Try.pinned (OpenSpec.ofChange fnExactDepthOfSpec)

/-- ITS FALSE NEIGHBOUR: 'it returns false'. Refute it at one input. -/
def fnExactDepthOfWrong : ChangeSpec := { name := "fnExactDepthOf", fn := fun _ => fun
  | [d] => { results := [.lit (.bool false)], args := [d] }
  | _ => none }
def FnExactDepthOfWrongFalsely : Prop := fnExactDepthOfRow.holds Try.pinned (OpenSpec.ofChange fnExactDepthOfWrong)

/-- 'laws.FnExactLengthsOf': WHATEVER THE INPUT: true; the input reads as it did. -/
def fnExactLengthsOfSpec : ChangeSpec := { name := "fnExactLengthsOf", fn := fun _ => fun
  | [d] => { results := [.lit (.bool true)], args := [d] }
  | _ => none }
def fnExactLengthsOfRow : OpenClaim := { program := "ytmcfjjhflnhehaa", sum := "c84cb844e50d800baeb1e28664eb059c9434365f203124adf818def919f2a97f", func := "loop.example/g01133/laws.FnExactLengthsOf", spec := "fnExactLengthsOf", apart := false }
def FnExactLengthsOfSaid : Prop := fnExactLengthsOfRow.holds Try.pinned (OpenSpec.ofChange fnExactLengthsOfSpec)

/-- ITS FALSE NEIGHBOUR: 'it returns false'. Refute it at one input. -/
def fnExactLengthsOfWrong : ChangeSpec := { name := "fnExactLengthsOf", fn := fun _ => fun
  | [d] => { results := [.lit (.bool false)], args := [d] }
  | _ => none }
def FnExactLengthsOfWrongFalsely : Prop := fnExactLengthsOfRow.holds Try.pinned (OpenSpec.ofChange fnExactLengthsOfWrong)

/-- 'laws.FnExactUsesOf': WHATEVER THE INPUT: true; the input reads as it did. -/
def fnExactUsesOfSpec : ChangeSpec := { name := "fnExactUsesOf", fn := fun _ => fun
  | [d] => { results := [.lit (.bool true)], args := [d] }
  | _ => none }
def fnExactUsesOfRow : OpenClaim := { program := "ytmcfjjhflnhehaa", sum := "c84cb844e50d800baeb1e28664eb059c9434365f203124adf818def919f2a97f", func := "loop.example/g01133/laws.FnExactUsesOf", spec := "fnExactUsesOf", apart := false }
def FnExactUsesOfSaid : Prop := fnExactUsesOfRow.holds Try.pinned (OpenSpec.ofChange fnExactUsesOfSpec)

/-- ITS FALSE NEIGHBOUR: 'it returns false'. Refute it at one input. -/
def fnExactUsesOfWrong : ChangeSpec := { name := "fnExactUsesOf", fn := fun _ => fun
  | [d] => { results := [.lit (.bool false)], args := [d] }
  | _ => none }
def FnExactUsesOfWrongFalsely : Prop := fnExactUsesOfRow.holds Try.pinned (OpenSpec.ofChange fnExactUsesOfWrong)

/-- 'laws.FnExactLetterAt': WHATEVER THE INPUT: true; the input reads as it did. -/
def fnExactLetterAtSpec : ChangeSpec := { name := "fnExactLetterAt", fn := fun _ => fun
  | [d1, d2] => { results := [.lit (.bool true)], args := [d1, d2] }
  | _ => none }
def fnExactLetterAtRow : OpenClaim := { program := "ytmcfjjhflnhehaa", sum := "c84cb844e50d800baeb1e28664eb059c9434365f203124adf818def919f2a97f", func := "loop.example/g01133/laws.FnExactLetterAt", spec := "fnExactLetterAt", inPlace := ["internal/abi.NoEscape"], unfollowed := true, recurses := true, apart := false }
def FnExactLetterAtSaid : Prop := fnExactLetterAtRow.holds Try.pinned (OpenSpec.ofChange fnExactLetterAtSpec)

/-- ITS FALSE NEIGHBOUR: 'it returns false'. Refute it at one input. -/
def fnExactLetterAtWrong : ChangeSpec := { name := "fnExactLetterAt", fn := fun _ => fun
  | [d1, d2] => { results := [.lit (.bool false)], args := [d1, d2] }
  | _ => none }
def FnExactLetterAtWrongFalsely : Prop := fnExactLetterAtRow.holds Try.pinned (OpenSpec.ofChange fnExactLetterAtWrong)

/-- 'laws.FnExactLetterCounts': WHATEVER THE INPUT: true; the input reads as it did. -/
def fnExactLetterCountsSpec : ChangeSpec := { name := "fnExactLetterCounts", fn := fun _ => fun
  | [d] => { results := [.lit (.bool true)], args := [d] }
  | _ => none }
def fnExactLetterCountsRow : OpenClaim := { program := "ytmcfjjhflnhehaa", sum := "c84cb844e50d800baeb1e28664eb059c9434365f203124adf818def919f2a97f", func := "loop.example/g01133/laws.FnExactLetterCounts", spec := "fnExactLetterCounts", apart := false }
def FnExactLetterCountsSaid : Prop := fnExactLetterCountsRow.holds Try.pinned (OpenSpec.ofChange fnExactLetterCountsSpec)

/-- ITS FALSE NEIGHBOUR: 'it returns false'. Refute it at one input. -/
def fnExactLetterCountsWrong : ChangeSpec := { name := "fnExactLetterCounts", fn := fun _ => fun
  | [d] => { results := [.lit (.bool false)], args := [d] }
  | _ => none }
def FnExactLetterCountsWrongFalsely : Prop := fnExactLetterCountsRow.holds Try.pinned (OpenSpec.ofChange fnExactLetterCountsWrong)

/-- 'laws.FnExactUnpackPart': WHATEVER THE INPUT: true; the input reads as it did. -/
def fnExactUnpackPartSpec : ChangeSpec := { name := "fnExactUnpackPart", fn := fun _ => fun
  | [d1, d2, d3] => { results := [.lit (.bool true)], args := [d1, d2, d3] }
  | _ => none }
def fnExactUnpackPartRow : OpenClaim := { program := "ytmcfjjhflnhehaa", sum := "c84cb844e50d800baeb1e28664eb059c9434365f203124adf818def919f2a97f", func := "loop.example/g01133/laws.FnExactUnpackPart", spec := "fnExactUnpackPart", inPlace := ["internal/abi.NoEscape"], unfollowed := true, recurses := true, apart := false }
def FnExactUnpackPartSaid : Prop := fnExactUnpackPartRow.holds Try.pinned (OpenSpec.ofChange fnExactUnpackPartSpec)

/-- ITS FALSE NEIGHBOUR: 'it returns false'. Refute it at one input. -/
def fnExactUnpackPartWrong : ChangeSpec := { name := "fnExactUnpackPart", fn := fun _ => fun
  | [d1, d2, d3] => { results := [.lit (.bool false)], args := [d1, d2, d3] }
  | _ => none }
def FnExactUnpackPartWrongFalsely : Prop := fnExactUnpackPartRow.holds Try.pinned (OpenSpec.ofChange fnExactUnpackPartWrong)

/-- 'laws.FnExactUnpackWord': WHATEVER THE INPUT: true; the input reads as it did. -/
def fnExactUnpackWordSpec : ChangeSpec := { name := "fnExactUnpackWord", fn := fun _ => fun
  | [d] => { results := [.lit (.bool true)], args := [d] }
  | _ => none }
def fnExactUnpackWordRow : OpenClaim := { program := "ytmcfjjhflnhehaa", sum := "c84cb844e50d800baeb1e28664eb059c9434365f203124adf818def919f2a97f", func := "loop.example/g01133/laws.FnExactUnpackWord", spec := "fnExactUnpackWord", inPlace := ["internal/abi.NoEscape"], unfollowed := true, recurses := true, apart := false }
def FnExactUnpackWordSaid : Prop := fnExactUnpackWordRow.holds Try.pinned (OpenSpec.ofChange fnExactUnpackWordSpec)

/-- ITS FALSE NEIGHBOUR: 'it returns false'. Refute it at one input. -/
def fnExactUnpackWordWrong : ChangeSpec := { name := "fnExactUnpackWord", fn := fun _ => fun
  | [d] => { results := [.lit (.bool false)], args := [d] }
  | _ => none }
def FnExactUnpackWordWrongFalsely : Prop := fnExactUnpackWordRow.holds Try.pinned (OpenSpec.ofChange fnExactUnpackWordWrong)

/-- 'laws.FnUses': WHATEVER THE INPUT: true; the input reads as it did. -/
def fnUsesSpec : ChangeSpec := { name := "fnUses", fn := fun _ => fun
  | [d1, d2] => { results := [.lit (.bool true)], args := [d1, d2] }
  | _ => none }
def fnUsesRow : OpenClaim := { program := "ytmcfjjhflnhehaa", sum := "c84cb844e50d800baeb1e28664eb059c9434365f203124adf818def919f2a97f", func := "loop.example/g01133/laws.FnUses", spec := "fnUses", apart := false }
def FnUsesSaid : Prop := fnUsesRow.holds Try.pinned (OpenSpec.ofChange fnUsesSpec)

/-- ITS FALSE NEIGHBOUR: 'it returns false'. Refute it at one input. -/
def fnUsesWrong : ChangeSpec := { name := "fnUses", fn := fun _ => fun
  | [d1, d2] => { results := [.lit (.bool false)], args := [d1, d2] }
  | _ => none }
def FnUsesWrongFalsely : Prop := fnUsesRow.holds Try.pinned (OpenSpec.ofChange fnUsesWrong)

/-- 'laws.FnExactLongestTwice': WHATEVER THE INPUT: true; the input reads as it did. -/
def fnExactLongestTwiceSpec : ChangeSpec := { name := "fnExactLongestTwice", fn := fun _ => fun
  | [d1, d2] => { results := [.lit (.bool true)], args := [d1, d2] }
  | _ => none }
def fnExactLongestTwiceRow : OpenClaim := { program := "ytmcfjjhflnhehaa", sum := "c84cb844e50d800baeb1e28664eb059c9434365f203124adf818def919f2a97f", func := "loop.example/g01133/laws.FnExactLongestTwice", spec := "fnExactLongestTwice", inPlace := ["internal/abi.NoEscape"], unfollowed := true, recurses := true, apart := false }
def FnExactLongestTwiceSaid : Prop := fnExactLongestTwiceRow.holds Try.pinned (OpenSpec.ofChange fnExactLongestTwiceSpec)

/-- ITS FALSE NEIGHBOUR: 'it returns false'. Refute it at one input. -/
def fnExactLongestTwiceWrong : ChangeSpec := { name := "fnExactLongestTwice", fn := fun _ => fun
  | [d1, d2] => { results := [.lit (.bool false)], args := [d1, d2] }
  | _ => none }
def FnExactLongestTwiceWrongFalsely : Prop := fnExactLongestTwiceRow.holds Try.pinned (OpenSpec.ofChange fnExactLongestTwiceWrong)

/- THE SECOND FORM. 'bulk': how many values and letters a reading holds, each counted each time it is reached (what is shared counts as often as it is met; a slice's spare places count too). A statement '..UptoSaid' is the law's where the arguments, and the package variables that the reading takes, are together of bulk at most 1048576: NARROWER than '..Said'. Prove '..Said' where nothing that the law and all that it calls make is longer than what came in: it says more and counts as full. Else prove '..UptoSaid'. A law counts once. -/
mutual
def uptoBulk {H : Type} : DataW H → Nat
  | .lit (.string bytes) => bytes.length + 1
  | .lit _ => 1
  | .nil => 1
  | .ptr d => uptoBulk d + 1
  | .slice elems spare => uptoBulkAll elems + uptoBulkAll spare + 1
  | .agg parts => uptoBulkAll parts + 1
  | .iface _ d => uptoBulk d + 1
  | .map entries => uptoBulkEntries entries + 1
  | .held _ => 1
def uptoBulkAll {H : Type} : List (DataW H) → Nat
  | [] => 0
  | d :: r => uptoBulk d + uptoBulkAll r
def uptoBulkEntries {H : Type} : List (Lit × DataW H) → Nat
  | [] => 0
  | x :: r => uptoBulkEntry x + uptoBulkEntries r
def uptoBulkEntry {H : Type} : Lit × DataW H → Nat
  | (.string bytes, d) => bytes.length + uptoBulk d + 1
  | (_, d) => uptoBulk d + 1
 end
def uptoSmall : (H : Type) → List (DataW H) → Bool := fun _ ds => decide (uptoBulkAll ds ≤ 1048576)
def OpenSpec.upto (s : _root_.Go.ChangeSpec) : _root_.Go.OpenSpec := { _root_.Go.OpenSpec.ofChange s with cond := some uptoSmall }

/-- 'laws.FnExactSameGrammar', WHERE WHAT IT READS IS OF BULK AT MOST 1048576: true; the input reads as it did. -/
def fnExactSameGrammarUptoRow : OpenClaim := { program := "ytmcfjjhflnhehaa", sum := "c84cb844e50d800baeb1e28664eb059c9434365f203124adf818def919f2a97f", func := "loop.example/g01133/laws.FnExactSameGrammar", spec := "fnExactSameGrammar", apart := false, narrowed := true }
def FnExactSameGrammarUptoSaid : Prop := fnExactSameGrammarUptoRow.holds Try.pinned (OpenSpec.upto fnExactSameGrammarSpec)

/-- 'laws.FnExactValidGrammar', WHERE WHAT IT READS IS OF BULK AT MOST 1048576: true; the input reads as it did. -/
def fnExactValidGrammarUptoRow : OpenClaim := { program := "ytmcfjjhflnhehaa", sum := "c84cb844e50d800baeb1e28664eb059c9434365f203124adf818def919f2a97f", func := "loop.example/g01133/laws.FnExactValidGrammar", spec := "fnExactValidGrammar", apart := false, narrowed := true }
def FnExactValidGrammarUptoSaid : Prop := fnExactValidGrammarUptoRow.holds Try.pinned (OpenSpec.upto fnExactValidGrammarSpec)

/-- 'laws.FnExactLengthOf', WHERE WHAT IT READS IS OF BULK AT MOST 1048576: true; the input reads as it did. -/
def fnExactLengthOfUptoRow : OpenClaim := { program := "ytmcfjjhflnhehaa", sum := "c84cb844e50d800baeb1e28664eb059c9434365f203124adf818def919f2a97f", func := "loop.example/g01133/laws.FnExactLengthOf", spec := "fnExactLengthOf", apart := false, narrowed := true }
def FnExactLengthOfUptoSaid : Prop := fnExactLengthOfUptoRow.holds Try.pinned (OpenSpec.upto fnExactLengthOfSpec)

/-- 'laws.FnExactDepthOf', WHERE WHAT IT READS IS OF BULK AT MOST 1048576: true; the input reads as it did. -/
def fnExactDepthOfUptoRow : OpenClaim := { program := "ytmcfjjhflnhehaa", sum := "c84cb844e50d800baeb1e28664eb059c9434365f203124adf818def919f2a97f", func := "loop.example/g01133/laws.FnExactDepthOf", spec := "fnExactDepthOf", apart := false, narrowed := true }
def FnExactDepthOfUptoSaid : Prop := fnExactDepthOfUptoRow.holds Try.pinned (OpenSpec.upto fnExactDepthOfSpec)

/-- 'laws.FnExactLengthsOf', WHERE WHAT IT READS IS OF BULK AT MOST 1048576: true; the input reads as it did. -/
def fnExactLengthsOfUptoRow : OpenClaim := { program := "ytmcfjjhflnhehaa", sum := "c84cb844e50d800baeb1e28664eb059c9434365f203124adf818def919f2a97f", func := "loop.example/g01133/laws.FnExactLengthsOf", spec := "fnExactLengthsOf", apart := false, narrowed := true }
def FnExactLengthsOfUptoSaid : Prop := fnExactLengthsOfUptoRow.holds Try.pinned (OpenSpec.upto fnExactLengthsOfSpec)

/-- 'laws.FnExactUsesOf', WHERE WHAT IT READS IS OF BULK AT MOST 1048576: true; the input reads as it did. -/
def fnExactUsesOfUptoRow : OpenClaim := { program := "ytmcfjjhflnhehaa", sum := "c84cb844e50d800baeb1e28664eb059c9434365f203124adf818def919f2a97f", func := "loop.example/g01133/laws.FnExactUsesOf", spec := "fnExactUsesOf", apart := false, narrowed := true }
def FnExactUsesOfUptoSaid : Prop := fnExactUsesOfUptoRow.holds Try.pinned (OpenSpec.upto fnExactUsesOfSpec)

/-- 'laws.FnExactLetterAt', WHERE WHAT IT READS IS OF BULK AT MOST 1048576: true; the input reads as it did. -/
def fnExactLetterAtUptoRow : OpenClaim := { program := "ytmcfjjhflnhehaa", sum := "c84cb844e50d800baeb1e28664eb059c9434365f203124adf818def919f2a97f", func := "loop.example/g01133/laws.FnExactLetterAt", spec := "fnExactLetterAt", inPlace := ["internal/abi.NoEscape"], unfollowed := true, recurses := true, apart := false, narrowed := true }
def FnExactLetterAtUptoSaid : Prop := fnExactLetterAtUptoRow.holds Try.pinned (OpenSpec.upto fnExactLetterAtSpec)

/-- 'laws.FnExactLetterCounts', WHERE WHAT IT READS IS OF BULK AT MOST 1048576: true; the input reads as it did. -/
def fnExactLetterCountsUptoRow : OpenClaim := { program := "ytmcfjjhflnhehaa", sum := "c84cb844e50d800baeb1e28664eb059c9434365f203124adf818def919f2a97f", func := "loop.example/g01133/laws.FnExactLetterCounts", spec := "fnExactLetterCounts", apart := false, narrowed := true }
def FnExactLetterCountsUptoSaid : Prop := fnExactLetterCountsUptoRow.holds Try.pinned (OpenSpec.upto fnExactLetterCountsSpec)

/-- 'laws.FnExactUnpackPart', WHERE WHAT IT READS IS OF BULK AT MOST 1048576: true; the input reads as it did. -/
def fnExactUnpackPartUptoRow : OpenClaim := { program := "ytmcfjjhflnhehaa", sum := "c84cb844e50d800baeb1e28664eb059c9434365f203124adf818def919f2a97f", func := "loop.example/g01133/laws.FnExactUnpackPart", spec := "fnExactUnpackPart", inPlace := ["internal/abi.NoEscape"], unfollowed := true, recurses := true, apart := false, narrowed := true }
def FnExactUnpackPartUptoSaid : Prop := fnExactUnpackPartUptoRow.holds Try.pinned (OpenSpec.upto fnExactUnpackPartSpec)

/-- 'laws.FnExactUnpackWord', WHERE WHAT IT READS IS OF BULK AT MOST 1048576: true; the input reads as it did. -/
def fnExactUnpackWordUptoRow : OpenClaim := { program := "ytmcfjjhflnhehaa", sum := "c84cb844e50d800baeb1e28664eb059c9434365f203124adf818def919f2a97f", func := "loop.example/g01133/laws.FnExactUnpackWord", spec := "fnExactUnpackWord", inPlace := ["internal/abi.NoEscape"], unfollowed := true, recurses := true, apart := false, narrowed := true }
def FnExactUnpackWordUptoSaid : Prop := fnExactUnpackWordUptoRow.holds Try.pinned (OpenSpec.upto fnExactUnpackWordSpec)

/-- 'laws.FnUses', WHERE WHAT IT READS IS OF BULK AT MOST 1048576: true; the input reads as it did. -/
def fnUsesUptoRow : OpenClaim := { program := "ytmcfjjhflnhehaa", sum := "c84cb844e50d800baeb1e28664eb059c9434365f203124adf818def919f2a97f", func := "loop.example/g01133/laws.FnUses", spec := "fnUses", apart := false, narrowed := true }
def FnUsesUptoSaid : Prop := fnUsesUptoRow.holds Try.pinned (OpenSpec.upto fnUsesSpec)

/-- 'laws.FnExactLongestTwice', WHERE WHAT IT READS IS OF BULK AT MOST 1048576: true; the input reads as it did. -/
def fnExactLongestTwiceUptoRow : OpenClaim := { program := "ytmcfjjhflnhehaa", sum := "c84cb844e50d800baeb1e28664eb059c9434365f203124adf818def919f2a97f", func := "loop.example/g01133/laws.FnExactLongestTwice", spec := "fnExactLongestTwice", inPlace := ["internal/abi.NoEscape"], unfollowed := true, recurses := true, apart := false, narrowed := true }
def FnExactLongestTwiceUptoSaid : Prop := fnExactLongestTwiceUptoRow.holds Try.pinned (OpenSpec.upto fnExactLongestTwiceSpec)

end Rows
end Go.Proofs.Ytmcfjjhflnhehaa

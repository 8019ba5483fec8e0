/-
  No cell of these rows narrows 'for every input' (looked for: loops, veiled, ifaces, maps, wideKeys, modest, calm, conditions, laid).
  DERIVED. THE GIVEN ROWS OF THIS SEAT. 15 by the template 'for every input the law returns true; each argument reads behind the call as it read before'; 0 by the template 'total and deterministic' (their statements: YtdighfjoechbkaaTotals.lean).
  GIVEN WITH THE SEED: the statements are not yours to turn. If you find one false, say at which input.
  Laid BY PROGRAM, IN A SANDBOX (cutbox-rows.mjs): the forced cells as the released guide's own fill.sh prints them over the translation ddeedbd6b3ad343e… (all of the seat's roots in one cut). By AI agents, Wed Nov 11 2026. No macro, syntax, notation, axiom, sorry.
-/
import Derived.Test.YtdighfjoechbkaaChecked
import GoSem.Claim
import GoSem.ClaimJoined
import GoSem.ClaimMapViews
import Derived.JoinedTies
import Derived.KernelRfl
namespace Go.Proofs.Ytdighfjoechbkaa
/- THE CELL 'sum', in the pinned program and in every row, IS THE sha256 OF THE DUMP (.gsa) THAT YtdighfjoechbkaaProg.lean LOADS. Nothing in Lean hashes anything: it is a label: what it is worth is what the hold of that sum in a sandbox is worth. -/
noncomputable def Try.pinned : Pinned := { name := "ytdighfjoechbkaa", sum := "ddeedbd6b3ad343e9ac4363a167de27627407b1d16445e5682e4e19137b26b94", checked := Try.checked }
namespace Rows
def none {H : Type} : Left H := { results := [], args := [] }

/-- 'laws.FnExactOccurrencesOf': WHATEVER THE INPUT: true; the input reads as it did. -/
def fnExactOccurrencesOfSpec : ChangeSpec := { name := "fnExactOccurrencesOf", fn := fun _ => fun
  | [d1, d2] => { results := [.lit (.bool true)], args := [d1, d2] }
  | _ => none }
def fnExactOccurrencesOfRow : OpenClaim := { program := "ytdighfjoechbkaa", sum := "ddeedbd6b3ad343e9ac4363a167de27627407b1d16445e5682e4e19137b26b94", func := "loop.example/g01133/laws.FnExactOccurrencesOf", spec := "fnExactOccurrencesOf", apart := false }
def FnExactOccurrencesOfSaid : Prop := fnExactOccurrencesOfRow.holds Try.pinned (OpenSpec.ofChange fnExactOccurrencesOfSpec)

/-- ITS FALSE NEIGHBOUR: 'it returns false'. Refute it at one input. -/
def fnExactOccurrencesOfWrong : ChangeSpec := { name := "fnExactOccurrencesOf", fn := fun _ => fun
  | [d1, d2] => { results := [.lit (.bool false)], args := [d1, d2] }
  | _ => none }
def FnExactOccurrencesOfWrongFalsely : Prop := fnExactOccurrencesOfRow.holds Try.pinned (OpenSpec.ofChange fnExactOccurrencesOfWrong)

/-- 'laws.FnExactRootOf': WHATEVER THE INPUT: true; the input reads as it did. -/
def fnExactRootOfSpec : ChangeSpec := { name := "fnExactRootOf", fn := fun _ => fun
  | [d] => { results := [.lit (.bool true)], args := [d] }
  | _ => none }
def fnExactRootOfRow : OpenClaim := { program := "ytdighfjoechbkaa", sum := "ddeedbd6b3ad343e9ac4363a167de27627407b1d16445e5682e4e19137b26b94", func := "loop.example/g01133/laws.FnExactRootOf", spec := "fnExactRootOf", apart := false }
def FnExactRootOfSaid : Prop := fnExactRootOfRow.holds Try.pinned (OpenSpec.ofChange fnExactRootOfSpec)

/-- ITS FALSE NEIGHBOUR: 'it returns false'. Refute it at one input. -/
def fnExactRootOfWrong : ChangeSpec := { name := "fnExactRootOf", fn := fun _ => fun
  | [d] => { results := [.lit (.bool false)], args := [d] }
  | _ => none }
def FnExactRootOfWrongFalsely : Prop := fnExactRootOfRow.holds Try.pinned (OpenSpec.ofChange fnExactRootOfWrong)

/-- 'laws.FnExactPeriodsOf': WHATEVER THE INPUT: true; the input reads as it did. -/
def fnExactPeriodsOfSpec : ChangeSpec := { name := "fnExactPeriodsOf", fn := fun _ => fun
  | [d] => { results := [.lit (.bool true)], args := [d] }
  | _ => none }
def fnExactPeriodsOfRow : OpenClaim := { program := "ytdighfjoechbkaa", sum := "ddeedbd6b3ad343e9ac4363a167de27627407b1d16445e5682e4e19137b26b94", func := "loop.example/g01133/laws.FnExactPeriodsOf", spec := "fnExactPeriodsOf", apart := false }
def FnExactPeriodsOfSaid : Prop := fnExactPeriodsOfRow.holds Try.pinned (OpenSpec.ofChange fnExactPeriodsOfSpec)

/-- ITS FALSE NEIGHBOUR: 'it returns false'. Refute it at one input. -/
def fnExactPeriodsOfWrong : ChangeSpec := { name := "fnExactPeriodsOf", fn := fun _ => fun
  | [d] => { results := [.lit (.bool false)], args := [d] }
  | _ => none }
def FnExactPeriodsOfWrongFalsely : Prop := fnExactPeriodsOfRow.holds Try.pinned (OpenSpec.ofChange fnExactPeriodsOfWrong)

/-- 'laws.FnExactLyndonFactors': WHATEVER THE INPUT: true; the input reads as it did. -/
def fnExactLyndonFactorsSpec : ChangeSpec := { name := "fnExactLyndonFactors", fn := fun _ => fun
  | [d] => { results := [.lit (.bool true)], args := [d] }
  | _ => none }
def fnExactLyndonFactorsRow : OpenClaim := { program := "ytdighfjoechbkaa", sum := "ddeedbd6b3ad343e9ac4363a167de27627407b1d16445e5682e4e19137b26b94", func := "loop.example/g01133/laws.FnExactLyndonFactors", spec := "fnExactLyndonFactors", apart := false }
def FnExactLyndonFactorsSaid : Prop := fnExactLyndonFactorsRow.holds Try.pinned (OpenSpec.ofChange fnExactLyndonFactorsSpec)

/-- ITS FALSE NEIGHBOUR: 'it returns false'. Refute it at one input. -/
def fnExactLyndonFactorsWrong : ChangeSpec := { name := "fnExactLyndonFactors", fn := fun _ => fun
  | [d] => { results := [.lit (.bool false)], args := [d] }
  | _ => none }
def FnExactLyndonFactorsWrongFalsely : Prop := fnExactLyndonFactorsRow.holds Try.pinned (OpenSpec.ofChange fnExactLyndonFactorsWrong)

/-- 'laws.FnExactRunsOf': WHATEVER THE INPUT: true; the input reads as it did. -/
def fnExactRunsOfSpec : ChangeSpec := { name := "fnExactRunsOf", fn := fun _ => fun
  | [d] => { results := [.lit (.bool true)], args := [d] }
  | _ => none }
def fnExactRunsOfRow : OpenClaim := { program := "ytdighfjoechbkaa", sum := "ddeedbd6b3ad343e9ac4363a167de27627407b1d16445e5682e4e19137b26b94", func := "loop.example/g01133/laws.FnExactRunsOf", spec := "fnExactRunsOf", apart := false }
def FnExactRunsOfSaid : Prop := fnExactRunsOfRow.holds Try.pinned (OpenSpec.ofChange fnExactRunsOfSpec)

/-- ITS FALSE NEIGHBOUR: 'it returns false'. Refute it at one input. -/
def fnExactRunsOfWrong : ChangeSpec := { name := "fnExactRunsOf", fn := fun _ => fun
  | [d] => { results := [.lit (.bool false)], args := [d] }
  | _ => none }
def FnExactRunsOfWrongFalsely : Prop := fnExactRunsOfRow.holds Try.pinned (OpenSpec.ofChange fnExactRunsOfWrong)

/-- 'laws.FnExactShiftTo': WHATEVER THE INPUT: true; the input reads as it did. -/
def fnExactShiftToSpec : ChangeSpec := { name := "fnExactShiftTo", fn := fun _ => fun
  | [d1, d2] => { results := [.lit (.bool true)], args := [d1, d2] }
  | _ => none }
def fnExactShiftToRow : OpenClaim := { program := "ytdighfjoechbkaa", sum := "ddeedbd6b3ad343e9ac4363a167de27627407b1d16445e5682e4e19137b26b94", func := "loop.example/g01133/laws.FnExactShiftTo", spec := "fnExactShiftTo", inPlace := ["internal/bytealg.IndexByteString", "internal/bytealg.IndexString"], named := ["internal/bytealg.MaxLen"], apart := false }
def FnExactShiftToSaid : Prop := fnExactShiftToRow.holds Try.pinned (OpenSpec.ofChange fnExactShiftToSpec)

/-- ITS FALSE NEIGHBOUR: 'it returns false'. Refute it at one input. -/
def fnExactShiftToWrong : ChangeSpec := { name := "fnExactShiftTo", fn := fun _ => fun
  | [d1, d2] => { results := [.lit (.bool false)], args := [d1, d2] }
  | _ => none }
def FnExactShiftToWrongFalsely : Prop := fnExactShiftToRow.holds Try.pinned (OpenSpec.ofChange fnExactShiftToWrong)

/-- 'laws.FnExactPowerWord': WHATEVER THE INPUT: true; the input reads as it did. -/
def fnExactPowerWordSpec : ChangeSpec := { name := "fnExactPowerWord", fn := fun _ => fun
  | [d1, d2] => { results := [.lit (.bool true)], args := [d1, d2] }
  | _ => none }
def fnExactPowerWordRow : OpenClaim := { program := "ytdighfjoechbkaa", sum := "ddeedbd6b3ad343e9ac4363a167de27627407b1d16445e5682e4e19137b26b94", func := "loop.example/g01133/laws.FnExactPowerWord", spec := "fnExactPowerWord", inPlace := ["internal/abi.NoEscape", "internal/bytealg.MakeNoZero"], apart := false }
def FnExactPowerWordSaid : Prop := fnExactPowerWordRow.holds Try.pinned (OpenSpec.ofChange fnExactPowerWordSpec)

/-- ITS FALSE NEIGHBOUR: 'it returns false'. Refute it at one input. -/
def fnExactPowerWordWrong : ChangeSpec := { name := "fnExactPowerWord", fn := fun _ => fun
  | [d1, d2] => { results := [.lit (.bool false)], args := [d1, d2] }
  | _ => none }
def FnExactPowerWordWrongFalsely : Prop := fnExactPowerWordRow.holds Try.pinned (OpenSpec.ofChange fnExactPowerWordWrong)

/-- 'laws.FnExactWordOfRuns': WHATEVER THE INPUT: true; the input reads as it did. -/
def fnExactWordOfRunsSpec : ChangeSpec := { name := "fnExactWordOfRuns", fn := fun _ => fun
  | [d] => { results := [.lit (.bool true)], args := [d] }
  | _ => none }
def fnExactWordOfRunsRow : OpenClaim := { program := "ytdighfjoechbkaa", sum := "ddeedbd6b3ad343e9ac4363a167de27627407b1d16445e5682e4e19137b26b94", func := "loop.example/g01133/laws.FnExactWordOfRuns", spec := "fnExactWordOfRuns", inPlace := ["internal/abi.NoEscape", "internal/bytealg.MakeNoZero"], unfollowed := true, recurses := true, apart := false }
def FnExactWordOfRunsSaid : Prop := fnExactWordOfRunsRow.holds Try.pinned (OpenSpec.ofChange fnExactWordOfRunsSpec)

/-- ITS FALSE NEIGHBOUR: 'it returns false'. Refute it at one input. -/
def fnExactWordOfRunsWrong : ChangeSpec := { name := "fnExactWordOfRuns", fn := fun _ => fun
  | [d] => { results := [.lit (.bool false)], args := [d] }
  | _ => none }
def FnExactWordOfRunsWrongFalsely : Prop := fnExactWordOfRunsRow.holds Try.pinned (OpenSpec.ofChange fnExactWordOfRunsWrong)

/-- 'laws.FnPlaces': WHATEVER THE INPUT: true; the input reads as it did. -/
def fnPlacesSpec : ChangeSpec := { name := "fnPlaces", fn := fun _ => fun
  | [d1, d2] => { results := [.lit (.bool true)], args := [d1, d2] }
  | _ => none }
def fnPlacesRow : OpenClaim := { program := "ytdighfjoechbkaa", sum := "ddeedbd6b3ad343e9ac4363a167de27627407b1d16445e5682e4e19137b26b94", func := "loop.example/g01133/laws.FnPlaces", spec := "fnPlaces", apart := false }
def FnPlacesSaid : Prop := fnPlacesRow.holds Try.pinned (OpenSpec.ofChange fnPlacesSpec)

/-- ITS FALSE NEIGHBOUR: 'it returns false'. Refute it at one input. -/
def fnPlacesWrong : ChangeSpec := { name := "fnPlaces", fn := fun _ => fun
  | [d1, d2] => { results := [.lit (.bool false)], args := [d1, d2] }
  | _ => none }
def FnPlacesWrongFalsely : Prop := fnPlacesRow.holds Try.pinned (OpenSpec.ofChange fnPlacesWrong)

/-- 'laws.FnBorders': WHATEVER THE INPUT: true; the input reads as it did. -/
def fnBordersSpec : ChangeSpec := { name := "fnBorders", fn := fun _ => fun
  | [d1, d2] => { results := [.lit (.bool true)], args := [d1, d2] }
  | _ => none }
def fnBordersRow : OpenClaim := { program := "ytdighfjoechbkaa", sum := "ddeedbd6b3ad343e9ac4363a167de27627407b1d16445e5682e4e19137b26b94", func := "loop.example/g01133/laws.FnBorders", spec := "fnBorders", apart := false }
def FnBordersSaid : Prop := fnBordersRow.holds Try.pinned (OpenSpec.ofChange fnBordersSpec)

/-- ITS FALSE NEIGHBOUR: 'it returns false'. Refute it at one input. -/
def fnBordersWrong : ChangeSpec := { name := "fnBorders", fn := fun _ => fun
  | [d1, d2] => { results := [.lit (.bool false)], args := [d1, d2] }
  | _ => none }
def FnBordersWrongFalsely : Prop := fnBordersRow.holds Try.pinned (OpenSpec.ofChange fnBordersWrong)

/-- 'laws.FnRoots': WHATEVER THE INPUT: true; the input reads as it did. -/
def fnRootsSpec : ChangeSpec := { name := "fnRoots", fn := fun _ => fun
  | [d1, d2] => { results := [.lit (.bool true)], args := [d1, d2] }
  | _ => none }
def fnRootsRow : OpenClaim := { program := "ytdighfjoechbkaa", sum := "ddeedbd6b3ad343e9ac4363a167de27627407b1d16445e5682e4e19137b26b94", func := "loop.example/g01133/laws.FnRoots", spec := "fnRoots", inPlace := ["internal/abi.NoEscape", "internal/bytealg.MakeNoZero"], apart := false }
def FnRootsSaid : Prop := fnRootsRow.holds Try.pinned (OpenSpec.ofChange fnRootsSpec)

/-- ITS FALSE NEIGHBOUR: 'it returns false'. Refute it at one input. -/
def fnRootsWrong : ChangeSpec := { name := "fnRoots", fn := fun _ => fun
  | [d1, d2] => { results := [.lit (.bool false)], args := [d1, d2] }
  | _ => none }
def FnRootsWrongFalsely : Prop := fnRootsRow.holds Try.pinned (OpenSpec.ofChange fnRootsWrong)

/-- 'laws.FnFamous': WHATEVER THE INPUT: true; the input reads as it did. -/
def fnFamousSpec : ChangeSpec := { name := "fnFamous", fn := fun _ => fun
  | [d1, d2] => { results := [.lit (.bool true)], args := [d1, d2] }
  | _ => none }
def fnFamousRow : OpenClaim := { program := "ytdighfjoechbkaa", sum := "ddeedbd6b3ad343e9ac4363a167de27627407b1d16445e5682e4e19137b26b94", func := "loop.example/g01133/laws.FnFamous", spec := "fnFamous", unfollowed := true, recurses := true, apart := false }
def FnFamousSaid : Prop := fnFamousRow.holds Try.pinned (OpenSpec.ofChange fnFamousSpec)

/-- ITS FALSE NEIGHBOUR: 'it returns false'. Refute it at one input. -/
def fnFamousWrong : ChangeSpec := { name := "fnFamous", fn := fun _ => fun
  | [d1, d2] => { results := [.lit (.bool false)], args := [d1, d2] }
  | _ => none }
def FnFamousWrongFalsely : Prop := fnFamousRow.holds Try.pinned (OpenSpec.ofChange fnFamousWrong)

/-- 'laws.FnTurns': WHATEVER THE INPUT: true; the input reads as it did. -/
def fnTurnsSpec : ChangeSpec := { name := "fnTurns", fn := fun _ => fun
  | [d1, d2] => { results := [.lit (.bool true)], args := [d1, d2] }
  | _ => none }
def fnTurnsRow : OpenClaim := { program := "ytdighfjoechbkaa", sum := "ddeedbd6b3ad343e9ac4363a167de27627407b1d16445e5682e4e19137b26b94", func := "loop.example/g01133/laws.FnTurns", spec := "fnTurns", inPlace := ["internal/abi.NoEscape", "internal/bytealg.MakeNoZero"], apart := false }
def FnTurnsSaid : Prop := fnTurnsRow.holds Try.pinned (OpenSpec.ofChange fnTurnsSpec)

/-- ITS FALSE NEIGHBOUR: 'it returns false'. Refute it at one input. -/
def fnTurnsWrong : ChangeSpec := { name := "fnTurns", fn := fun _ => fun
  | [d1, d2] => { results := [.lit (.bool false)], args := [d1, d2] }
  | _ => none }
def FnTurnsWrongFalsely : Prop := fnTurnsRow.holds Try.pinned (OpenSpec.ofChange fnTurnsWrong)

/-- 'laws.FnRuns': WHATEVER THE INPUT: true; the input reads as it did. -/
def fnRunsSpec : ChangeSpec := { name := "fnRuns", fn := fun _ => fun
  | [d1, d2] => { results := [.lit (.bool true)], args := [d1, d2] }
  | _ => none }
def fnRunsRow : OpenClaim := { program := "ytdighfjoechbkaa", sum := "ddeedbd6b3ad343e9ac4363a167de27627407b1d16445e5682e4e19137b26b94", func := "loop.example/g01133/laws.FnRuns", spec := "fnRuns", inPlace := ["internal/abi.NoEscape", "internal/bytealg.MakeNoZero"], unfollowed := true, recurses := true, apart := false }
def FnRunsSaid : Prop := fnRunsRow.holds Try.pinned (OpenSpec.ofChange fnRunsSpec)

/-- ITS FALSE NEIGHBOUR: 'it returns false'. Refute it at one input. -/
def fnRunsWrong : ChangeSpec := { name := "fnRuns", fn := fun _ => fun
  | [d1, d2] => { results := [.lit (.bool false)], args := [d1, d2] }
  | _ => none }
def FnRunsWrongFalsely : Prop := fnRunsRow.holds Try.pinned (OpenSpec.ofChange fnRunsWrong)

/-- 'laws.FnLyndon': WHATEVER THE INPUT: true; the input reads as it did. -/
def fnLyndonSpec : ChangeSpec := { name := "fnLyndon", fn := fun _ => fun
  | [d1, d2] => { results := [.lit (.bool true)], args := [d1, d2] }
  | _ => none }
def fnLyndonRow : OpenClaim := { program := "ytdighfjoechbkaa", sum := "ddeedbd6b3ad343e9ac4363a167de27627407b1d16445e5682e4e19137b26b94", func := "loop.example/g01133/laws.FnLyndon", spec := "fnLyndon", inPlace := ["internal/bytealg.IndexByteString", "internal/bytealg.IndexString"], named := ["internal/bytealg.MaxLen"], apart := false }
def FnLyndonSaid : Prop := fnLyndonRow.holds Try.pinned (OpenSpec.ofChange fnLyndonSpec)

/-- ITS FALSE NEIGHBOUR: 'it returns false'. Refute it at one input. -/
def fnLyndonWrong : ChangeSpec := { name := "fnLyndon", fn := fun _ => fun
  | [d1, d2] => { results := [.lit (.bool false)], args := [d1, d2] }
  | _ => none }
def FnLyndonWrongFalsely : Prop := fnLyndonRow.holds Try.pinned (OpenSpec.ofChange fnLyndonWrong)

/- THE SECOND FORM. 'bulk': how many values and letters a reading holds, each counted each time it is reached (what is shared counts as often as it is met; a slice's spare places count too). A statement '..UptoSaid' is the law's where the arguments, and the package variables that the reading takes, are together of bulk at most 1048576: NARROWER than '..Said'. Prove '..Said' where nothing that the law and all that it calls make is longer than what came in: it says more and counts as full. Else prove '..UptoSaid'. A law counts once. -/
mutual
def uptoBulk {H : Type} : DataW H → Nat
  | .lit (.string bytes) => bytes.length + 1
  | .lit _ => 1
  | .nil => 1
  | .ptr d => uptoBulk d + 1
  | .slice elems spare => uptoBulkAll elems + uptoBulkAll spare + 1
  | .agg parts => uptoBulkAll parts + 1
  | .iface _ d => uptoBulk d + 1
  | .map entries => uptoBulkEntries entries + 1
  | .held _ => 1
def uptoBulkAll {H : Type} : List (DataW H) → Nat
  | [] => 0
  | d :: r => uptoBulk d + uptoBulkAll r
def uptoBulkEntries {H : Type} : List (Lit × DataW H) → Nat
  | [] => 0
  | x :: r => uptoBulkEntry x + uptoBulkEntries r
def uptoBulkEntry {H : Type} : Lit × DataW H → Nat
  | (.string bytes, d) => bytes.length + uptoBulk d + 1
  | (_, d) => uptoBulk d + 1
 end
def uptoSmall : (H : Type) → List (DataW H) → Bool := fun _ ds => decide (uptoBulkAll ds ≤ 1048576)
def OpenSpec.upto (s : _root_.Go.ChangeSpec) : _root_.Go.OpenSpec := { _root_.Go.OpenSpec.ofChange s with cond := some uptoSmall }

/-- 'laws.FnExactOccurrencesOf', WHERE WHAT IT READS IS OF BULK AT MOST 1048576: true; the input reads as it did. -/
def fnExactOccurrencesOfUptoRow : OpenClaim := { program := "ytdighfjoechbkaa", sum := "ddeedbd6b3ad343e9ac4363a167de27627407b1d16445e5682e4e19137b26b94", func := "loop.example/g01133/laws.FnExactOccurrencesOf", spec := "fnExactOccurrencesOf", apart := false, narrowed := true }
def FnExactOccurrencesOfUptoSaid : Prop := fnExactOccurrencesOfUptoRow.holds Try.pinned (OpenSpec.upto fnExactOccurrencesOfSpec)

/-- 'laws.FnExactRootOf', WHERE WHAT IT READS IS OF BULK AT MOST 1048576: true; the input reads as it did. -/
def fnExactRootOfUptoRow : OpenClaim := { program := "ytdighfjoechbkaa", sum := "ddeedbd6b3ad343e9ac4363a167de27627407b1d16445e5682e4e19137b26b94", func := "loop.example/g01133/laws.FnExactRootOf", spec := "fnExactRootOf", apart := false, narrowed := true }
def FnExactRootOfUptoSaid : Prop := fnExactRootOfUptoRow.holds Try.pinned (OpenSpec.upto fnExactRootOfSpec)

/-- 'laws.FnExactPeriodsOf', WHERE WHAT IT READS IS OF BULK AT MOST 1048576: true; the input reads as it did. -/
def fnExactPeriodsOfUptoRow : OpenClaim := { program := "ytdighfjoechbkaa", sum := "ddeedbd6b3ad343e9ac4363a167de27627407b1d16445e5682e4e19137b26b94", func := "loop.example/g01133/laws.FnExactPeriodsOf", spec := "fnExactPeriodsOf", apart := false, narrowed := true }
def FnExactPeriodsOfUptoSaid : Prop := fnExactPeriodsOfUptoRow.holds Try.pinned (OpenSpec.upto fnExactPeriodsOfSpec)

/-- 'laws.FnExactLyndonFactors', WHERE WHAT IT READS IS OF BULK AT MOST 1048576: true; the input reads as it did. -/
def fnExactLyndonFactorsUptoRow : OpenClaim := { program := "ytdighfjoechbkaa", sum := "ddeedbd6b3ad343e9ac4363a167de27627407b1d16445e5682e4e19137b26b94", func := "loop.example/g01133/laws.FnExactLyndonFactors", spec := "fnExactLyndonFactors", apart := false, narrowed := true }
def FnExactLyndonFactorsUptoSaid : Prop := fnExactLyndonFactorsUptoRow.holds Try.pinned (OpenSpec.upto fnExactLyndonFactorsSpec)

/-- 'laws.FnExactRunsOf', WHERE WHAT IT READS IS OF BULK AT MOST 1048576: true; the input reads as it did. -/
def fnExactRunsOfUptoRow : OpenClaim := { program := "ytdighfjoechbkaa", sum := "ddeedbd6b3ad343e9ac4363a167de27627407b1d16445e5682e4e19137b26b94", func := "loop.example/g01133/laws.FnExactRunsOf", spec := "fnExactRunsOf", apart := false, narrowed := true }
def FnExactRunsOfUptoSaid : Prop := fnExactRunsOfUptoRow.holds Try.pinned (OpenSpec.upto fnExactRunsOfSpec)

/-- 'laws.FnExactShiftTo', WHERE WHAT IT READS IS OF BULK AT MOST 1048576: true; the input reads as it did. -/
def fnExactShiftToUptoRow : OpenClaim := { program := "ytdighfjoechbkaa", sum := "ddeedbd6b3ad343e9ac4363a167de27627407b1d16445e5682e4e19137b26b94", func := "loop.example/g01133/laws.FnExactShiftTo", spec := "fnExactShiftTo", inPlace := ["internal/bytealg.IndexByteString", "internal/bytealg.IndexString"], named := ["internal/bytealg.MaxLen"], apart := false, narrowed := true }
def FnExactShiftToUptoSaid : Prop := fnExactShiftToUptoRow.holds Try.pinned (OpenSpec.upto fnExactShiftToSpec)

/-- 'laws.FnExactPowerWord', WHERE WHAT IT READS IS OF BULK AT MOST 1048576: true; the input reads as it did. -/
def fnExactPowerWordUptoRow : OpenClaim := { program := "ytdighfjoechbkaa", sum := "ddeedbd6b3ad343e9ac4363a167de27627407b1d16445e5682e4e19137b26b94", func := "loop.example/g01133/laws.FnExactPowerWord", spec := "fnExactPowerWord", inPlace := ["internal/abi.NoEscape", "internal/bytealg.MakeNoZero"], apart := false, narrowed := true }
def FnExactPowerWordUptoSaid : Prop := fnExactPowerWordUptoRow.holds Try.pinned (OpenSpec.upto fnExactPowerWordSpec)

/-- 'laws.FnExactWordOfRuns', WHERE WHAT IT READS IS OF BULK AT MOST 1048576: true; the input reads as it did. -/
def fnExactWordOfRunsUptoRow : OpenClaim := { program := "ytdighfjoechbkaa", sum := "ddeedbd6b3ad343e9ac4363a167de27627407b1d16445e5682e4e19137b26b94", func := "loop.example/g01133/laws.FnExactWordOfRuns", spec := "fnExactWordOfRuns", inPlace := ["internal/abi.NoEscape", "internal/bytealg.MakeNoZero"], unfollowed := true, recurses := true, apart := false, narrowed := true }
def FnExactWordOfRunsUptoSaid : Prop := fnExactWordOfRunsUptoRow.holds Try.pinned (OpenSpec.upto fnExactWordOfRunsSpec)

/-- 'laws.FnPlaces', WHERE WHAT IT READS IS OF BULK AT MOST 1048576: true; the input reads as it did. -/
def fnPlacesUptoRow : OpenClaim := { program := "ytdighfjoechbkaa", sum := "ddeedbd6b3ad343e9ac4363a167de27627407b1d16445e5682e4e19137b26b94", func := "loop.example/g01133/laws.FnPlaces", spec := "fnPlaces", apart := false, narrowed := true }
def FnPlacesUptoSaid : Prop := fnPlacesUptoRow.holds Try.pinned (OpenSpec.upto fnPlacesSpec)

/-- 'laws.FnBorders', WHERE WHAT IT READS IS OF BULK AT MOST 1048576: true; the input reads as it did. -/
def fnBordersUptoRow : OpenClaim := { program := "ytdighfjoechbkaa", sum := "ddeedbd6b3ad343e9ac4363a167de27627407b1d16445e5682e4e19137b26b94", func := "loop.example/g01133/laws.FnBorders", spec := "fnBorders", apart := false, narrowed := true }
def FnBordersUptoSaid : Prop := fnBordersUptoRow.holds Try.pinned (OpenSpec.upto fnBordersSpec)

/-- 'laws.FnRoots', WHERE WHAT IT READS IS OF BULK AT MOST 1048576: true; the input reads as it did. -/
def fnRootsUptoRow : OpenClaim := { program := "ytdighfjoechbkaa", sum := "ddeedbd6b3ad343e9ac4363a167de27627407b1d16445e5682e4e19137b26b94", func := "loop.example/g01133/laws.FnRoots", spec := "fnRoots", inPlace := ["internal/abi.NoEscape", "internal/bytealg.MakeNoZero"], apart := false, narrowed := true }
def FnRootsUptoSaid : Prop := fnRootsUptoRow.holds Try.pinned (OpenSpec.upto fnRootsSpec)

/-- 'laws.FnFamous', WHERE WHAT IT READS IS OF BULK AT MOST 1048576: true; the input reads as it did. -/
def fnFamousUptoRow : OpenClaim := { program := "ytdighfjoechbkaa", sum := "ddeedbd6b3ad343e9ac4363a167de27627407b1d16445e5682e4e19137b26b94", func := "loop.example/g01133/laws.FnFamous", spec := "fnFamous", unfollowed := true, recurses := true, apart := false, narrowed := true }
def FnFamousUptoSaid : Prop := fnFamousUptoRow.holds Try.pinned (OpenSpec.upto fnFamousSpec)

/-- 'laws.FnTurns', WHERE WHAT IT READS IS OF BULK AT MOST 1048576: true; the input reads as it did. -/
def fnTurnsUptoRow : OpenClaim := { program := "ytdighfjoechbkaa", sum := "ddeedbd6b3ad343e9ac4363a167de27627407b1d16445e5682e4e19137b26b94", func := "loop.example/g01133/laws.FnTurns", spec := "fnTurns", inPlace := ["internal/abi.NoEscape", "internal/bytealg.MakeNoZero"], apart := false, narrowed := true }
def FnTurnsUptoSaid : Prop := fnTurnsUptoRow.holds Try.pinned (OpenSpec.upto fnTurnsSpec)

/-- 'laws.FnRuns', WHERE WHAT IT READS IS OF BULK AT MOST 1048576: true; the input reads as it did. -/
def fnRunsUptoRow : OpenClaim := { program := "ytdighfjoechbkaa", sum := "ddeedbd6b3ad343e9ac4363a167de27627407b1d16445e5682e4e19137b26b94", func := "loop.example/g01133/laws.FnRuns", spec := "fnRuns", inPlace := ["internal/abi.NoEscape", "internal/bytealg.MakeNoZero"], unfollowed := true, recurses := true, apart := false, narrowed := true }
def FnRunsUptoSaid : Prop := fnRunsUptoRow.holds Try.pinned (OpenSpec.upto fnRunsSpec)

/-- 'laws.FnLyndon', WHERE WHAT IT READS IS OF BULK AT MOST 1048576: true; the input reads as it did. -/
def fnLyndonUptoRow : OpenClaim := { program := "ytdighfjoechbkaa", sum := "ddeedbd6b3ad343e9ac4363a167de27627407b1d16445e5682e4e19137b26b94", func := "loop.example/g01133/laws.FnLyndon", spec := "fnLyndon", inPlace := ["internal/bytealg.IndexByteString", "internal/bytealg.IndexString"], named := ["internal/bytealg.MaxLen"], apart := false, narrowed := true }
def FnLyndonUptoSaid : Prop := fnLyndonUptoRow.holds Try.pinned (OpenSpec.upto fnLyndonSpec)

end Rows
end Go.Proofs.Ytdighfjoechbkaa

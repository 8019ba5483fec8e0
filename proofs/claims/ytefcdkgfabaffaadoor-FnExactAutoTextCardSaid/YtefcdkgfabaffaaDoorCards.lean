/-
  DERIVED. GIVEN WITH THE SEED: THE CARDS: each row of YtefcdkgfabaffaaDoorRows.lean that lists a variable, with what it lists TIED to the program's text (the seventh form; the later family's looks); each row that meets fmt, with fmt's text TOLD by the authors' own Lean function (tested against real Go, not proved from fmt's source: count such statements apart). THE CARD IS WHAT COUNTS. Prove the row's statement (the work); the ties are given (YtefcdkgfabaffaaDoorTie.lean); close each card by the builder's one call (the guide's Derived/Test/ToyasCard.lean, 'card_holds'). Laid BY PROGRAM, IN A SANDBOX (cutbox-door.mjs). By AI agents, Wed Nov 11 2026. No macro, syntax, notation, axiom, sorry.
-/
import Derived.Test.YtefcdkgfabaffaaDoorRows
import GoSem.ClaimSeven
namespace Go.Proofs.YtefcdkgfabaffaaDoor
namespace Rows

/-- THE TIED CARD OF 'laws.FnExactAutoText'. -/
def fnExactAutoTextCard : Claim7 := { stood := { row := fnExactAutoTextRow, standIns := [], harness := (true, "21195b57b7209d5f257b4ab9bb60ce300f470c3d57e32ad66f06867cf7eb2a17"), looks := false }, kinds := [], alts := [], laidByText := true, laidKinds := [.data, .data, .data], laidTests := true, laidLooks := .later }
def FnExactAutoTextCardSaid : Prop := Claim7.holds Tryd.pinned (.plain (OpenSpec.ofChange fnExactAutoTextSpec)) fnExactAutoTextCard

/-- THE SECOND FORM's CARD OF 'laws.FnExactAutoText'. -/
def fnExactAutoTextUptoCard : Claim7 := { stood := { row := fnExactAutoTextUptoRow, standIns := [], harness := (true, "21195b57b7209d5f257b4ab9bb60ce300f470c3d57e32ad66f06867cf7eb2a17"), looks := false }, kinds := [], alts := [], laidByText := true, laidKinds := [.data, .data, .data], laidTests := true, laidLooks := .later }
def FnExactAutoTextUptoCardSaid : Prop := Claim7.holds Tryd.pinned (.plain (OpenSpec.upto fnExactAutoTextSpec)) fnExactAutoTextUptoCard
end Rows
end Go.Proofs.YtefcdkgfabaffaaDoor

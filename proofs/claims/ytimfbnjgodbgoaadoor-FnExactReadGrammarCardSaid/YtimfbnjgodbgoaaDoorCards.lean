/-
  DERIVED. GIVEN WITH THE SEED: THE CARDS: each row of YtimfbnjgodbgoaaDoorRows.lean that lists a variable, with what it lists TIED to the program's text (the seventh form; the later family's looks); each row that meets fmt, with fmt's text TOLD by the authors' own Lean function (tested against real Go, not proved from fmt's source: count such statements apart). THE CARD IS WHAT COUNTS. Prove the row's statement (the work); the ties are given (YtimfbnjgodbgoaaDoorTie.lean); close each card by the builder's one call (the guide's Derived/Test/ToyasCard.lean, 'card_holds'). Laid BY PROGRAM, IN A SANDBOX (cutbox-door.mjs). By AI agents, Wed Nov 11 2026. No macro, syntax, notation, axiom, sorry.
-/
import Derived.Test.YtimfbnjgodbgoaaDoorRows
import GoSem.ClaimSeven
namespace Go.Proofs.YtimfbnjgodbgoaaDoor
namespace Rows

/-- THE TIED CARD OF 'laws.FnExactGrammarText'. -/
def fnExactGrammarTextCard : Claim7 := { stood := { row := fnExactGrammarTextRow, standIns := [], harness := (true, "726536deb4368b247bc0fe593a2291d5ef0ba39f5f58ac63869e7b89eb638eaf"), looks := true }, kinds := [], alts := [], laidByText := true, laidKinds := [.data, .data, .data], laidTests := true, laidLooks := .later }
def FnExactGrammarTextCardSaid : Prop := Claim7.holds Tryd.pinned (.plain (OpenSpec.ofChange fnExactGrammarTextSpec)) fnExactGrammarTextCard

/-- THE TIED CARD OF 'laws.FnExactReadGrammar'. -/
def fnExactReadGrammarCard : Claim7 := { stood := { row := fnExactReadGrammarRow, standIns := [], harness := (true, "726536deb4368b247bc0fe593a2291d5ef0ba39f5f58ac63869e7b89eb638eaf"), looks := true }, kinds := [], alts := [], laidByText := true, laidKinds := [.data, .data, .data, .data, .sentinel, .sentinel, .pinned], laidTests := true, laidLooks := .later }
def FnExactReadGrammarCardSaid : Prop := Claim7.holds Tryd.pinned (.plain (OpenSpec.ofChange fnExactReadGrammarSpec)) fnExactReadGrammarCard

/-- THE SECOND FORM's CARD OF 'laws.FnExactGrammarText'. -/
def fnExactGrammarTextUptoCard : Claim7 := { stood := { row := fnExactGrammarTextUptoRow, standIns := [], harness := (true, "726536deb4368b247bc0fe593a2291d5ef0ba39f5f58ac63869e7b89eb638eaf"), looks := true }, kinds := [], alts := [], laidByText := true, laidKinds := [.data, .data, .data], laidTests := true, laidLooks := .later }
def FnExactGrammarTextUptoCardSaid : Prop := Claim7.holds Tryd.pinned (.plain (OpenSpec.upto fnExactGrammarTextSpec)) fnExactGrammarTextUptoCard

/-- THE SECOND FORM's CARD OF 'laws.FnExactReadGrammar'. -/
def fnExactReadGrammarUptoCard : Claim7 := { stood := { row := fnExactReadGrammarUptoRow, standIns := [], harness := (true, "726536deb4368b247bc0fe593a2291d5ef0ba39f5f58ac63869e7b89eb638eaf"), looks := true }, kinds := [], alts := [], laidByText := true, laidKinds := [.data, .data, .data, .data, .sentinel, .sentinel, .pinned], laidTests := true, laidLooks := .later }
def FnExactReadGrammarUptoCardSaid : Prop := Claim7.holds Tryd.pinned (.plain (OpenSpec.upto fnExactReadGrammarSpec)) fnExactReadGrammarUptoCard
end Rows
end Go.Proofs.YtimfbnjgodbgoaaDoor

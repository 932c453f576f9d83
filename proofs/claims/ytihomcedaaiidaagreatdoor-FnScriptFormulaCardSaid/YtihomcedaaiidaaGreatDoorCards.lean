/-
  DERIVED. GIVEN WITH THE SEED: THE CARDS: each row of YtihomcedaaiidaaGreatDoorRows.lean that lists a variable, with what it lists TIED to the program's text (the seventh form; the later family's looks); each row that meets fmt, with fmt's text TOLD by the authors' own Lean function (tested against real Go, not proved from fmt's source: count such statements apart). THE CARD IS WHAT COUNTS. Prove the row's statement (the work); the ties are given (YtihomcedaaiidaaGreatDoorTie.lean); close each card by the builder's one call (the guide's Derived/Test/ToyasCard.lean, 'card_holds'). Laid BY PROGRAM, IN A SANDBOX (cutbox-door.mjs). By AI agents, Wed Nov 11 2026. No macro, syntax, notation, axiom, sorry.
-/
import Derived.Test.YtihomcedaaiidaaGreatDoorRows
import GoSem.ClaimSeven
namespace Go.Proofs.YtihomcedaaiidaaGreatDoor
namespace Rows

/-- THE TIED CARD OF 'laws.FnScriptFormula'. -/
def fnScriptFormulaCard : Claim7 := { stood := { row := fnScriptFormulaRow, standIns := [], harness := (true, "7ae0fd063f8665d80e393bd3b6c4873f0c71155a011e51043cebc6b5137cb6be"), looks := true }, kinds := [], alts := [], laidByText := true, laidKinds := [.data, .data, .data, .data, .sentinel, .sentinel, .listed, .data, .pinned], laidTests := true, laidLooks := .later }
def FnScriptFormulaCardSaid : Prop := Claim7.holds Tryz.pinned (.plain (OpenSpec.ofChange fnScriptFormulaSpec)) fnScriptFormulaCard

/-- THE SECOND FORM's CARD OF 'laws.FnScriptFormula'. -/
def fnScriptFormulaUptoCard : Claim7 := { stood := { row := fnScriptFormulaUptoRow, standIns := [], harness := (true, "7ae0fd063f8665d80e393bd3b6c4873f0c71155a011e51043cebc6b5137cb6be"), looks := true }, kinds := [], alts := [], laidByText := true, laidKinds := [.data, .data, .data, .data, .sentinel, .sentinel, .listed, .data, .pinned], laidTests := true, laidLooks := .later }
def FnScriptFormulaUptoCardSaid : Prop := Claim7.holds Tryz.pinned (.plain (OpenSpec.upto fnScriptFormulaSpec)) fnScriptFormulaUptoCard
end Rows
end Go.Proofs.YtihomcedaaiidaaGreatDoor

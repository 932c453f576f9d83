/-
  DERIVED. GIVEN WITH THE SEED: THE CARDS: each row of YtdcnpjekmnlgjaaGreatDoorRows.lean that lists a variable, with what it lists TIED to the program's text (the seventh form; the later family's looks); each row that meets fmt, with fmt's text TOLD by the authors' own Lean function (tested against real Go, not proved from fmt's source: count such statements apart). THE CARD IS WHAT COUNTS. Prove the row's statement (the work); the ties are given (YtdcnpjekmnlgjaaGreatDoorTie.lean); close each card by the builder's one call (the guide's Derived/Test/ToyasCard.lean, 'card_holds'). Laid BY PROGRAM, IN A SANDBOX (cutbox-door.mjs). By AI agents, Wed Nov 11 2026. No macro, syntax, notation, axiom, sorry.
-/
import Derived.Test.YtdcnpjekmnlgjaaGreatDoorRows
import GoSem.ClaimSeven
namespace Go.Proofs.YtdcnpjekmnlgjaaGreatDoor
namespace Rows

/-- THE TIED CARD OF 'laws.FnScriptView'. -/
def fnScriptViewCard : Claim7 := { stood := { row := fnScriptViewRow, standIns := [], harness := (true, "7ce2e8d24539948438c84fe9f236251d02d7c500f1b7a7d3b4b7cd5e3435da9d"), looks := true }, kinds := [], alts := [], laidByText := true, laidKinds := [.data, .data, .data, .data, .sentinel, .sentinel, .listed, .data, .pinned], laidTests := true, laidLooks := .later }
def FnScriptViewCardSaid : Prop := Claim7.holds Tryz.pinned (.plain (OpenSpec.ofChange fnScriptViewSpec)) fnScriptViewCard

/-- THE SECOND FORM's CARD OF 'laws.FnScriptView'. -/
def fnScriptViewUptoCard : Claim7 := { stood := { row := fnScriptViewUptoRow, standIns := [], harness := (true, "7ce2e8d24539948438c84fe9f236251d02d7c500f1b7a7d3b4b7cd5e3435da9d"), looks := true }, kinds := [], alts := [], laidByText := true, laidKinds := [.data, .data, .data, .data, .sentinel, .sentinel, .listed, .data, .pinned], laidTests := true, laidLooks := .later }
def FnScriptViewUptoCardSaid : Prop := Claim7.holds Tryz.pinned (.plain (OpenSpec.upto fnScriptViewSpec)) fnScriptViewUptoCard
end Rows
end Go.Proofs.YtdcnpjekmnlgjaaGreatDoor

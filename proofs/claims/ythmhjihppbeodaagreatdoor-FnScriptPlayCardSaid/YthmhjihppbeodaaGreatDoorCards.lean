/-
  DERIVED. GIVEN WITH THE SEED: THE CARDS: each row of YthmhjihppbeodaaGreatDoorRows.lean that lists a variable, with what it lists TIED to the program's text (the seventh form; the later family's looks); each row that meets fmt, with fmt's text TOLD by the authors' own Lean function (tested against real Go, not proved from fmt's source: count such statements apart). THE CARD IS WHAT COUNTS. Prove the row's statement (the work); the ties are given (YthmhjihppbeodaaGreatDoorTie.lean); close each card by the builder's one call (the guide's Derived/Test/ToyasCard.lean, 'card_holds'). Laid BY PROGRAM, IN A SANDBOX (cutbox-door.mjs). By AI agents, Wed Nov 11 2026. No macro, syntax, notation, axiom, sorry.
-/
import Derived.Test.YthmhjihppbeodaaGreatDoorRows
import GoSem.ClaimSeven
namespace Go.Proofs.YthmhjihppbeodaaGreatDoor
namespace Rows

/-- THE TIED CARD OF 'laws.FnScriptPlay'. -/
def fnScriptPlayCard : Claim7 := { stood := { row := fnScriptPlayRow, standIns := [], harness := (true, "0fae261d622575da9de2f72155360ff4c19d342de23c625690cf61710929f8fd"), looks := true }, kinds := [], alts := [], laidByText := true, laidKinds := [.data, .data, .data, .data, .sentinel, .sentinel, .listed, .data, .pinned], laidTests := true, laidLooks := .later }
def FnScriptPlayCardSaid : Prop := Claim7.holds Tryz.pinned (.plain (OpenSpec.ofChange fnScriptPlaySpec)) fnScriptPlayCard

/-- THE SECOND FORM's CARD OF 'laws.FnScriptPlay'. -/
def fnScriptPlayUptoCard : Claim7 := { stood := { row := fnScriptPlayUptoRow, standIns := [], harness := (true, "0fae261d622575da9de2f72155360ff4c19d342de23c625690cf61710929f8fd"), looks := true }, kinds := [], alts := [], laidByText := true, laidKinds := [.data, .data, .data, .data, .sentinel, .sentinel, .listed, .data, .pinned], laidTests := true, laidLooks := .later }
def FnScriptPlayUptoCardSaid : Prop := Claim7.holds Tryz.pinned (.plain (OpenSpec.upto fnScriptPlaySpec)) fnScriptPlayUptoCard
end Rows
end Go.Proofs.YthmhjihppbeodaaGreatDoor

/-
  DERIVED. GIVEN WITH THE SEED: THE CARDS: each row of YtofmagiahmmmgaaGreatDoorRows.lean that lists a variable, with what it lists TIED to the program's text (the seventh form; the later family's looks); each row that meets fmt, with fmt's text TOLD by the authors' own Lean function (tested against real Go, not proved from fmt's source: count such statements apart). THE CARD IS WHAT COUNTS. Prove the row's statement (the work); the ties are given (YtofmagiahmmmgaaGreatDoorTie.lean); close each card by the builder's one call (the guide's Derived/Test/ToyasCard.lean, 'card_holds'). Laid BY PROGRAM, IN A SANDBOX (cutbox-door.mjs). By AI agents, Wed Nov 11 2026. No macro, syntax, notation, axiom, sorry.
-/
import Derived.Test.YtofmagiahmmmgaaGreatDoorRows
import GoSem.ClaimSeven
namespace Go.Proofs.YtofmagiahmmmgaaGreatDoor
namespace Rows

/-- THE TIED CARD OF 'laws.FnScriptGames'. -/
def fnScriptGamesCard : Claim7 := { stood := { row := fnScriptGamesRow, standIns := [], harness := (true, "8425f45cdb3536ca4ca4a6b6b971e81b46adcd85c03271fb98766305d9efa9fc"), looks := true }, kinds := [], alts := [], laidByText := true, laidKinds := [.data, .data, .data, .data, .sentinel, .sentinel, .listed, .data, .pinned], laidTests := true, laidLooks := .later }
def FnScriptGamesCardSaid : Prop := Claim7.holds Tryz.pinned (.plain (OpenSpec.ofChange fnScriptGamesSpec)) fnScriptGamesCard

/-- THE SECOND FORM's CARD OF 'laws.FnScriptGames'. -/
def fnScriptGamesUptoCard : Claim7 := { stood := { row := fnScriptGamesUptoRow, standIns := [], harness := (true, "8425f45cdb3536ca4ca4a6b6b971e81b46adcd85c03271fb98766305d9efa9fc"), looks := true }, kinds := [], alts := [], laidByText := true, laidKinds := [.data, .data, .data, .data, .sentinel, .sentinel, .listed, .data, .pinned], laidTests := true, laidLooks := .later }
def FnScriptGamesUptoCardSaid : Prop := Claim7.holds Tryz.pinned (.plain (OpenSpec.upto fnScriptGamesSpec)) fnScriptGamesUptoCard
end Rows
end Go.Proofs.YtofmagiahmmmgaaGreatDoor

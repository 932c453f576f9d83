/-
  DERIVED. GIVEN WITH THE SEED: THE CARDS: each row of YtdonjgjkhndfcaaGreatDoorRows.lean that lists a variable, with what it lists TIED to the program's text (the seventh form; the later family's looks); each row that meets fmt, with fmt's text TOLD by the authors' own Lean function (tested against real Go, not proved from fmt's source: count such statements apart). THE CARD IS WHAT COUNTS. Prove the row's statement (the work); the ties are given (YtdonjgjkhndfcaaGreatDoorTie.lean); close each card by the builder's one call (the guide's Derived/Test/ToyasCard.lean, 'card_holds'). Laid BY PROGRAM, IN A SANDBOX (cutbox-door.mjs). By AI agents, Wed Nov 11 2026. No macro, syntax, notation, axiom, sorry.
-/
import Derived.Test.YtdonjgjkhndfcaaGreatDoorRows
import GoSem.ClaimSeven
namespace Go.Proofs.YtdonjgjkhndfcaaGreatDoor
namespace Rows

/-- THE TIED CARD OF 'laws.FnScriptSums'. -/
def fnScriptSumsCard : Claim7 := { stood := { row := fnScriptSumsRow, standIns := [], harness := (true, "717f8c33ef3896623527e4a3c3eb6b808a16547cc6c2dd22c2d3137c7cb9d23c"), looks := true }, kinds := [], alts := [], laidByText := true, laidKinds := [.data, .data, .data, .data, .sentinel, .sentinel, .listed, .data, .pinned], laidTests := true, laidLooks := .later }
def FnScriptSumsCardSaid : Prop := Claim7.holds Tryz.pinned (.plain (OpenSpec.ofChange fnScriptSumsSpec)) fnScriptSumsCard

/-- THE SECOND FORM's CARD OF 'laws.FnScriptSums'. -/
def fnScriptSumsUptoCard : Claim7 := { stood := { row := fnScriptSumsUptoRow, standIns := [], harness := (true, "717f8c33ef3896623527e4a3c3eb6b808a16547cc6c2dd22c2d3137c7cb9d23c"), looks := true }, kinds := [], alts := [], laidByText := true, laidKinds := [.data, .data, .data, .data, .sentinel, .sentinel, .listed, .data, .pinned], laidTests := true, laidLooks := .later }
def FnScriptSumsUptoCardSaid : Prop := Claim7.holds Tryz.pinned (.plain (OpenSpec.upto fnScriptSumsSpec)) fnScriptSumsUptoCard
end Rows
end Go.Proofs.YtdonjgjkhndfcaaGreatDoor

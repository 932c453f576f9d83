/-
  DERIVED. GIVEN WITH THE SEED: THE CARDS: each row of YtfhogenjpepfnaaGreatDoorRows.lean that lists a variable, with what it lists TIED to the program's text (the seventh form; the later family's looks); each row that meets fmt, with fmt's text TOLD by the authors' own Lean function (tested against real Go, not proved from fmt's source: count such statements apart). THE CARD IS WHAT COUNTS. Prove the row's statement (the work); the ties are given (YtfhogenjpepfnaaGreatDoorTie.lean); close each card by the builder's one call (the guide's Derived/Test/ToyasCard.lean, 'card_holds'). Laid BY PROGRAM, IN A SANDBOX (cutbox-door.mjs). By AI agents, Wed Nov 11 2026. No macro, syntax, notation, axiom, sorry.
-/
import Derived.Test.YtfhogenjpepfnaaGreatDoorRows
import GoSem.ClaimSeven
namespace Go.Proofs.YtfhogenjpepfnaaGreatDoor
namespace Rows

/-- THE TIED CARD OF 'laws.FnCircles'. -/
def fnCirclesCard : Claim7 := { stood := { row := fnCirclesRow, standIns := [], harness := (true, "807131e3fe894f57aa8c51bcf82e25ef417f4f12ed693d5ef6e61a21fce91e2d"), looks := false }, kinds := [], alts := [], laidByText := true, laidKinds := [.data, .pinned], laidTests := true, laidLooks := .later }
def FnCirclesCardSaid : Prop := Claim7.holds Tryz.pinned (.plain (OpenSpec.ofChange fnCirclesSpec)) fnCirclesCard

/-- THE SECOND FORM's CARD OF 'laws.FnCircles'. -/
def fnCirclesUptoCard : Claim7 := { stood := { row := fnCirclesUptoRow, standIns := [], harness := (true, "807131e3fe894f57aa8c51bcf82e25ef417f4f12ed693d5ef6e61a21fce91e2d"), looks := false }, kinds := [], alts := [], laidByText := true, laidKinds := [.data, .pinned], laidTests := true, laidLooks := .later }
def FnCirclesUptoCardSaid : Prop := Claim7.holds Tryz.pinned (.plain (OpenSpec.upto fnCirclesSpec)) fnCirclesUptoCard
end Rows
end Go.Proofs.YtfhogenjpepfnaaGreatDoor

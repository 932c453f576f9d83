/-
  DERIVED. GIVEN WITH THE SEED: THE CARDS: each row of YtnhlhjehocngcaaGreatDoorRows.lean that lists a variable, with what it lists TIED to the program's text (the seventh form; the later family's looks); each row that meets fmt, with fmt's text TOLD by the authors' own Lean function (tested against real Go, not proved from fmt's source: count such statements apart). THE CARD IS WHAT COUNTS. Prove the row's statement (the work); the ties are given (YtnhlhjehocngcaaGreatDoorTie.lean); close each card by the builder's one call (the guide's Derived/Test/ToyasCard.lean, 'card_holds'). Laid BY PROGRAM, IN A SANDBOX (cutbox-door.mjs). By AI agents, Wed Nov 11 2026. No macro, syntax, notation, axiom, sorry.
-/
import Derived.Test.YtnhlhjehocngcaaGreatDoorRows
import GoSem.ClaimSeven
namespace Go.Proofs.YtnhlhjehocngcaaGreatDoor
namespace Rows

/-- THE TIED CARD OF 'laws.FnPebbleFormula'. -/
def fnPebbleFormulaCard : Claim7 := { stood := { row := fnPebbleFormulaRow, standIns := [], harness := (true, "c3da5c9b6f033a2e555ef872215679d309fda3e13d06f6de81f3ffdbd0ae64a2"), looks := false }, kinds := [], alts := [], laidByText := true, laidKinds := [.data, .pinned], laidTests := true, laidLooks := .later }
def FnPebbleFormulaCardSaid : Prop := Claim7.holds Tryz.pinned (.plain (OpenSpec.ofChange fnPebbleFormulaSpec)) fnPebbleFormulaCard

/-- THE TIED CARD OF 'laws.FnCircles'. -/
def fnCirclesCard : Claim7 := { stood := { row := fnCirclesRow, standIns := [], harness := (true, "c3da5c9b6f033a2e555ef872215679d309fda3e13d06f6de81f3ffdbd0ae64a2"), looks := false }, kinds := [], alts := [], laidByText := true, laidKinds := [.data, .pinned], laidTests := true, laidLooks := .later }
def FnCirclesCardSaid : Prop := Claim7.holds Tryz.pinned (.plain (OpenSpec.ofChange fnCirclesSpec)) fnCirclesCard

/-- THE SECOND FORM's CARD OF 'laws.FnPebbleFormula'. -/
def fnPebbleFormulaUptoCard : Claim7 := { stood := { row := fnPebbleFormulaUptoRow, standIns := [], harness := (true, "c3da5c9b6f033a2e555ef872215679d309fda3e13d06f6de81f3ffdbd0ae64a2"), looks := false }, kinds := [], alts := [], laidByText := true, laidKinds := [.data, .pinned], laidTests := true, laidLooks := .later }
def FnPebbleFormulaUptoCardSaid : Prop := Claim7.holds Tryz.pinned (.plain (OpenSpec.upto fnPebbleFormulaSpec)) fnPebbleFormulaUptoCard

/-- THE SECOND FORM's CARD OF 'laws.FnCircles'. -/
def fnCirclesUptoCard : Claim7 := { stood := { row := fnCirclesUptoRow, standIns := [], harness := (true, "c3da5c9b6f033a2e555ef872215679d309fda3e13d06f6de81f3ffdbd0ae64a2"), looks := false }, kinds := [], alts := [], laidByText := true, laidKinds := [.data, .pinned], laidTests := true, laidLooks := .later }
def FnCirclesUptoCardSaid : Prop := Claim7.holds Tryz.pinned (.plain (OpenSpec.upto fnCirclesSpec)) fnCirclesUptoCard
end Rows
end Go.Proofs.YtnhlhjehocngcaaGreatDoor

/-
  DERIVED. GIVEN WITH THE SEED: THE CARDS: each row of YtnhlhjehocngcaaDoorRows.lean that lists a variable, with what it lists TIED to the program's text (the seventh form; the later family's looks); each row that meets fmt, with fmt's text TOLD by the authors' own Lean function (tested against real Go, not proved from fmt's source: count such statements apart). THE CARD IS WHAT COUNTS. Prove the row's statement (the work); the ties are given (YtnhlhjehocngcaaDoorTie.lean); close each card by the builder's one call (the guide's Derived/Test/ToyasCard.lean, 'card_holds'). Laid BY PROGRAM, IN A SANDBOX (cutbox-door.mjs). By AI agents, Wed Nov 11 2026. No macro, syntax, notation, axiom, sorry.
-/
import Derived.Test.YtnhlhjehocngcaaDoorRows
import GoSem.ClaimSeven
namespace Go.Proofs.YtnhlhjehocngcaaDoor
namespace Rows

/-- THE TIED CARD OF 'laws.FnCircleOf'. -/
def fnCircleOfCard : Claim7 := { stood := { row := fnCircleOfRow, standIns := [], harness := (true, "9d613e525f986f105557f4849e5997f65fcb0bc20530fbaa0fc1e0fd016cc14e"), looks := false }, kinds := [], alts := [], laidByText := true, laidKinds := [.data, .pinned], laidTests := true, laidLooks := .later }
def FnCircleOfCardSaid : Prop := Claim7.holds Tryd.pinned (.plain (OpenSpec.ofChange fnCircleOfSpec)) fnCircleOfCard

/-- THE TIED CARD OF 'laws.FnExactPebbleFormula'. -/
def fnExactPebbleFormulaCard : Claim7 := { stood := { row := fnExactPebbleFormulaRow, standIns := [], harness := (true, "9d613e525f986f105557f4849e5997f65fcb0bc20530fbaa0fc1e0fd016cc14e"), looks := false }, kinds := [], alts := [], laidByText := true, laidKinds := [.data, .pinned], laidTests := true, laidLooks := .later }
def FnExactPebbleFormulaCardSaid : Prop := Claim7.holds Tryd.pinned (.plain (OpenSpec.ofChange fnExactPebbleFormulaSpec)) fnExactPebbleFormulaCard

/-- THE SECOND FORM's CARD OF 'laws.FnCircleOf'. -/
def fnCircleOfUptoCard : Claim7 := { stood := { row := fnCircleOfUptoRow, standIns := [], harness := (true, "9d613e525f986f105557f4849e5997f65fcb0bc20530fbaa0fc1e0fd016cc14e"), looks := false }, kinds := [], alts := [], laidByText := true, laidKinds := [.data, .pinned], laidTests := true, laidLooks := .later }
def FnCircleOfUptoCardSaid : Prop := Claim7.holds Tryd.pinned (.plain (OpenSpec.upto fnCircleOfSpec)) fnCircleOfUptoCard

/-- THE SECOND FORM's CARD OF 'laws.FnExactPebbleFormula'. -/
def fnExactPebbleFormulaUptoCard : Claim7 := { stood := { row := fnExactPebbleFormulaUptoRow, standIns := [], harness := (true, "9d613e525f986f105557f4849e5997f65fcb0bc20530fbaa0fc1e0fd016cc14e"), looks := false }, kinds := [], alts := [], laidByText := true, laidKinds := [.data, .pinned], laidTests := true, laidLooks := .later }
def FnExactPebbleFormulaUptoCardSaid : Prop := Claim7.holds Tryd.pinned (.plain (OpenSpec.upto fnExactPebbleFormulaSpec)) fnExactPebbleFormulaUptoCard
end Rows
end Go.Proofs.YtnhlhjehocngcaaDoor

/-
  DERIVED. GIVEN WITH THE SEED: THE CARDS: each row of YtjepegkbbbebkaaDoorRows.lean that lists a variable, with what it lists TIED to the program's text (the seventh form; the later family's looks); each row that meets fmt, with fmt's text TOLD by the authors' own Lean function (tested against real Go, not proved from fmt's source: count such statements apart). THE CARD IS WHAT COUNTS. Prove the row's statement (the work); the ties are given (YtjepegkbbbebkaaDoorTie.lean); close each card by the builder's one call (the guide's Derived/Test/ToyasCard.lean, 'card_holds'). Laid BY PROGRAM, IN A SANDBOX (cutbox-door.mjs). By AI agents, Wed Nov 11 2026. No macro, syntax, notation, axiom, sorry.
-/
import Derived.Test.YtjepegkbbbebkaaDoorRows
import GoSem.ClaimSeven
namespace Go.Proofs.YtjepegkbbbebkaaDoor
namespace Rows

/-- THE TIED CARD OF 'laws.FnWordOf'. -/
def fnWordOfCard : Claim7 := { stood := { row := fnWordOfRow, standIns := [], harness := (true, "1303f585724b2c601edef4b4ddb6ebfc386657129655bb9a519aaba166b573d8"), looks := false }, kinds := [], alts := [], laidByText := true, laidKinds := [.data, .pinned], laidTests := true, laidLooks := .later }
def FnWordOfCardSaid : Prop := Claim7.holds Tryd.pinned (.plain (OpenSpec.ofChange fnWordOfSpec)) fnWordOfCard

/-- THE TIED CARD OF 'laws.FnRelativize'. -/
def fnRelativizeCard : Claim7 := { stood := { row := fnRelativizeRow, standIns := [], harness := (true, "1303f585724b2c601edef4b4ddb6ebfc386657129655bb9a519aaba166b573d8"), looks := false }, kinds := [], alts := [], laidByText := true, laidKinds := [.data, .pinned], laidTests := true, laidLooks := .later }
def FnRelativizeCardSaid : Prop := Claim7.holds Tryd.pinned (.plain (OpenSpec.ofChange fnRelativizeSpec)) fnRelativizeCard

/-- THE TIED CARD OF 'laws.FnCircleOf'. -/
def fnCircleOfCard : Claim7 := { stood := { row := fnCircleOfRow, standIns := [], harness := (true, "1303f585724b2c601edef4b4ddb6ebfc386657129655bb9a519aaba166b573d8"), looks := false }, kinds := [], alts := [], laidByText := true, laidKinds := [.data, .pinned], laidTests := true, laidLooks := .later }
def FnCircleOfCardSaid : Prop := Claim7.holds Tryd.pinned (.plain (OpenSpec.ofChange fnCircleOfSpec)) fnCircleOfCard

/-- THE TIED CARD OF 'laws.FnExactPebbleFormula'. -/
def fnExactPebbleFormulaCard : Claim7 := { stood := { row := fnExactPebbleFormulaRow, standIns := [], harness := (true, "1303f585724b2c601edef4b4ddb6ebfc386657129655bb9a519aaba166b573d8"), looks := false }, kinds := [], alts := [], laidByText := true, laidKinds := [.data, .pinned], laidTests := true, laidLooks := .later }
def FnExactPebbleFormulaCardSaid : Prop := Claim7.holds Tryd.pinned (.plain (OpenSpec.ofChange fnExactPebbleFormulaSpec)) fnExactPebbleFormulaCard

/-- THE SECOND FORM's CARD OF 'laws.FnWordOf'. -/
def fnWordOfUptoCard : Claim7 := { stood := { row := fnWordOfUptoRow, standIns := [], harness := (true, "1303f585724b2c601edef4b4ddb6ebfc386657129655bb9a519aaba166b573d8"), looks := false }, kinds := [], alts := [], laidByText := true, laidKinds := [.data, .pinned], laidTests := true, laidLooks := .later }
def FnWordOfUptoCardSaid : Prop := Claim7.holds Tryd.pinned (.plain (OpenSpec.upto fnWordOfSpec)) fnWordOfUptoCard

/-- THE SECOND FORM's CARD OF 'laws.FnRelativize'. -/
def fnRelativizeUptoCard : Claim7 := { stood := { row := fnRelativizeUptoRow, standIns := [], harness := (true, "1303f585724b2c601edef4b4ddb6ebfc386657129655bb9a519aaba166b573d8"), looks := false }, kinds := [], alts := [], laidByText := true, laidKinds := [.data, .pinned], laidTests := true, laidLooks := .later }
def FnRelativizeUptoCardSaid : Prop := Claim7.holds Tryd.pinned (.plain (OpenSpec.upto fnRelativizeSpec)) fnRelativizeUptoCard

/-- THE SECOND FORM's CARD OF 'laws.FnCircleOf'. -/
def fnCircleOfUptoCard : Claim7 := { stood := { row := fnCircleOfUptoRow, standIns := [], harness := (true, "1303f585724b2c601edef4b4ddb6ebfc386657129655bb9a519aaba166b573d8"), looks := false }, kinds := [], alts := [], laidByText := true, laidKinds := [.data, .pinned], laidTests := true, laidLooks := .later }
def FnCircleOfUptoCardSaid : Prop := Claim7.holds Tryd.pinned (.plain (OpenSpec.upto fnCircleOfSpec)) fnCircleOfUptoCard

/-- THE SECOND FORM's CARD OF 'laws.FnExactPebbleFormula'. -/
def fnExactPebbleFormulaUptoCard : Claim7 := { stood := { row := fnExactPebbleFormulaUptoRow, standIns := [], harness := (true, "1303f585724b2c601edef4b4ddb6ebfc386657129655bb9a519aaba166b573d8"), looks := false }, kinds := [], alts := [], laidByText := true, laidKinds := [.data, .pinned], laidTests := true, laidLooks := .later }
def FnExactPebbleFormulaUptoCardSaid : Prop := Claim7.holds Tryd.pinned (.plain (OpenSpec.upto fnExactPebbleFormulaSpec)) fnExactPebbleFormulaUptoCard
end Rows
end Go.Proofs.YtjepegkbbbebkaaDoor

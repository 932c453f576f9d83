/-
  DERIVED. GIVEN WITH THE SEED: THE CARDS: each row of YtmabpmkkleelaaaDoorRows.lean that lists a variable, with what it lists TIED to the program's text (the seventh form; the later family's looks); each row that meets fmt, with fmt's text TOLD by the authors' own Lean function (tested against real Go, not proved from fmt's source: count such statements apart). THE CARD IS WHAT COUNTS. Prove the row's statement (the work); the ties are given (YtmabpmkkleelaaaDoorTie.lean); close each card by the builder's one call (the guide's Derived/Test/ToyasCard.lean, 'card_holds'). Laid BY PROGRAM, IN A SANDBOX (cutbox-door.mjs). By AI agents, Wed Nov 11 2026. No macro, syntax, notation, axiom, sorry.
-/
import Derived.Test.YtmabpmkkleelaaaDoorRows
import GoSem.ClaimSeven
namespace Go.Proofs.YtmabpmkkleelaaaDoor
namespace Rows

/-- THE TIED CARD OF 'laws.FnPullBack'. -/
def fnPullBackCard : Claim7 := { stood := { row := fnPullBackRow, standIns := [], harness := (true, "39a8d1931b5df37ec81e0c121472349e7a529c85a4ef88de8bfe582d59a899d8"), looks := false }, kinds := [], alts := [], laidByText := true, laidKinds := [.data, .pinned], laidTests := true, laidLooks := .later }
def FnPullBackCardSaid : Prop := Claim7.holds Tryd.pinned (.plain (OpenSpec.ofChange fnPullBackSpec)) fnPullBackCard

/-- THE TIED CARD OF 'laws.FnPartWhere'. -/
def fnPartWhereCard : Claim7 := { stood := { row := fnPartWhereRow, standIns := [], harness := (true, "39a8d1931b5df37ec81e0c121472349e7a529c85a4ef88de8bfe582d59a899d8"), looks := false }, kinds := [], alts := [], laidByText := true, laidKinds := [.data, .pinned], laidTests := true, laidLooks := .later }
def FnPartWhereCardSaid : Prop := Claim7.holds Tryd.pinned (.plain (OpenSpec.ofChange fnPartWhereSpec)) fnPartWhereCard

/-- THE TIED CARD OF 'laws.FnOrderGames'. -/
def fnOrderGamesCard : Claim7 := { stood := { row := fnOrderGamesRow, standIns := [], harness := (true, "39a8d1931b5df37ec81e0c121472349e7a529c85a4ef88de8bfe582d59a899d8"), looks := false }, kinds := [], alts := [], laidByText := true, laidKinds := [.data, .pinned], laidTests := true, laidLooks := .later }
def FnOrderGamesCardSaid : Prop := Claim7.holds Tryd.pinned (.plain (OpenSpec.ofChange fnOrderGamesSpec)) fnOrderGamesCard

/-- THE TIED CARD OF 'laws.FnFormatNumbers'. -/
def fnFormatNumbersCard : Claim7 := { stood := { row := fnFormatNumbersRow, standIns := [], harness := (true, "39a8d1931b5df37ec81e0c121472349e7a529c85a4ef88de8bfe582d59a899d8"), looks := false }, kinds := [], alts := [], laidByText := true, laidKinds := [.data, .data, .data], laidTests := true, laidLooks := .later }
def FnFormatNumbersCardSaid : Prop := Claim7.holds Tryd.pinned (.plain (OpenSpec.ofChange fnFormatNumbersSpec)) fnFormatNumbersCard

/-- THE TIED CARD OF 'laws.FnPutVars'. -/
def fnPutVarsCard : Claim7 := { stood := { row := fnPutVarsRow, standIns := [], harness := (true, "39a8d1931b5df37ec81e0c121472349e7a529c85a4ef88de8bfe582d59a899d8"), looks := false }, kinds := [], alts := [], laidByText := true, laidKinds := [.data, .pinned], laidTests := true, laidLooks := .later }
def FnPutVarsCardSaid : Prop := Claim7.holds Tryd.pinned (.plain (OpenSpec.ofChange fnPutVarsSpec)) fnPutVarsCard

/-- THE TIED CARD OF 'laws.FnExactWordOf'. -/
def fnExactWordOfCard : Claim7 := { stood := { row := fnExactWordOfRow, standIns := [], harness := (true, "39a8d1931b5df37ec81e0c121472349e7a529c85a4ef88de8bfe582d59a899d8"), looks := false }, kinds := [], alts := [], laidByText := true, laidKinds := [.data, .pinned], laidTests := true, laidLooks := .later }
def FnExactWordOfCardSaid : Prop := Claim7.holds Tryd.pinned (.plain (OpenSpec.ofChange fnExactWordOfSpec)) fnExactWordOfCard

/-- THE TIED CARD OF 'laws.FnWordStructure'. -/
def fnWordStructureCard : Claim7 := { stood := { row := fnWordStructureRow, standIns := [], harness := (true, "39a8d1931b5df37ec81e0c121472349e7a529c85a4ef88de8bfe582d59a899d8"), looks := false }, kinds := [], alts := [], laidByText := true, laidKinds := [.data, .pinned], laidTests := true, laidLooks := .later }
def FnWordStructureCardSaid : Prop := Claim7.holds Tryd.pinned (.plain (OpenSpec.ofChange fnWordStructureSpec)) fnWordStructureCard

/-- THE TIED CARD OF 'laws.FnInterpret'. -/
def fnInterpretCard : Claim7 := { stood := { row := fnInterpretRow, standIns := [], harness := (true, "39a8d1931b5df37ec81e0c121472349e7a529c85a4ef88de8bfe582d59a899d8"), looks := false }, kinds := [], alts := [], laidByText := true, laidKinds := [.data, .pinned], laidTests := true, laidLooks := .later }
def FnInterpretCardSaid : Prop := Claim7.holds Tryd.pinned (.plain (OpenSpec.ofChange fnInterpretSpec)) fnInterpretCard

/-- THE TIED CARD OF 'laws.FnRelativize'. -/
def fnRelativizeCard : Claim7 := { stood := { row := fnRelativizeRow, standIns := [], harness := (true, "39a8d1931b5df37ec81e0c121472349e7a529c85a4ef88de8bfe582d59a899d8"), looks := false }, kinds := [], alts := [], laidByText := true, laidKinds := [.data, .pinned], laidTests := true, laidLooks := .later }
def FnRelativizeCardSaid : Prop := Claim7.holds Tryd.pinned (.plain (OpenSpec.ofChange fnRelativizeSpec)) fnRelativizeCard

/-- THE TIED CARD OF 'laws.FnComposeViews'. -/
def fnComposeViewsCard : Claim7 := { stood := { row := fnComposeViewsRow, standIns := [], harness := (true, "39a8d1931b5df37ec81e0c121472349e7a529c85a4ef88de8bfe582d59a899d8"), looks := false }, kinds := [], alts := [], laidByText := true, laidKinds := [.data, .pinned], laidTests := true, laidLooks := .later }
def FnComposeViewsCardSaid : Prop := Claim7.holds Tryd.pinned (.plain (OpenSpec.ofChange fnComposeViewsSpec)) fnComposeViewsCard

/-- THE TIED CARD OF 'laws.FnWordOf'. -/
def fnWordOfCard : Claim7 := { stood := { row := fnWordOfRow, standIns := [], harness := (true, "39a8d1931b5df37ec81e0c121472349e7a529c85a4ef88de8bfe582d59a899d8"), looks := false }, kinds := [], alts := [], laidByText := true, laidKinds := [.data, .pinned], laidTests := true, laidLooks := .later }
def FnWordOfCardSaid : Prop := Claim7.holds Tryd.pinned (.plain (OpenSpec.ofChange fnWordOfSpec)) fnWordOfCard

/-- THE SECOND FORM's CARD OF 'laws.FnPullBack'. -/
def fnPullBackUptoCard : Claim7 := { stood := { row := fnPullBackUptoRow, standIns := [], harness := (true, "39a8d1931b5df37ec81e0c121472349e7a529c85a4ef88de8bfe582d59a899d8"), looks := false }, kinds := [], alts := [], laidByText := true, laidKinds := [.data, .pinned], laidTests := true, laidLooks := .later }
def FnPullBackUptoCardSaid : Prop := Claim7.holds Tryd.pinned (.plain (OpenSpec.upto fnPullBackSpec)) fnPullBackUptoCard

/-- THE SECOND FORM's CARD OF 'laws.FnPartWhere'. -/
def fnPartWhereUptoCard : Claim7 := { stood := { row := fnPartWhereUptoRow, standIns := [], harness := (true, "39a8d1931b5df37ec81e0c121472349e7a529c85a4ef88de8bfe582d59a899d8"), looks := false }, kinds := [], alts := [], laidByText := true, laidKinds := [.data, .pinned], laidTests := true, laidLooks := .later }
def FnPartWhereUptoCardSaid : Prop := Claim7.holds Tryd.pinned (.plain (OpenSpec.upto fnPartWhereSpec)) fnPartWhereUptoCard

/-- THE SECOND FORM's CARD OF 'laws.FnOrderGames'. -/
def fnOrderGamesUptoCard : Claim7 := { stood := { row := fnOrderGamesUptoRow, standIns := [], harness := (true, "39a8d1931b5df37ec81e0c121472349e7a529c85a4ef88de8bfe582d59a899d8"), looks := false }, kinds := [], alts := [], laidByText := true, laidKinds := [.data, .pinned], laidTests := true, laidLooks := .later }
def FnOrderGamesUptoCardSaid : Prop := Claim7.holds Tryd.pinned (.plain (OpenSpec.upto fnOrderGamesSpec)) fnOrderGamesUptoCard

/-- THE SECOND FORM's CARD OF 'laws.FnFormatNumbers'. -/
def fnFormatNumbersUptoCard : Claim7 := { stood := { row := fnFormatNumbersUptoRow, standIns := [], harness := (true, "39a8d1931b5df37ec81e0c121472349e7a529c85a4ef88de8bfe582d59a899d8"), looks := false }, kinds := [], alts := [], laidByText := true, laidKinds := [.data, .data, .data], laidTests := true, laidLooks := .later }
def FnFormatNumbersUptoCardSaid : Prop := Claim7.holds Tryd.pinned (.plain (OpenSpec.upto fnFormatNumbersSpec)) fnFormatNumbersUptoCard

/-- THE SECOND FORM's CARD OF 'laws.FnPutVars'. -/
def fnPutVarsUptoCard : Claim7 := { stood := { row := fnPutVarsUptoRow, standIns := [], harness := (true, "39a8d1931b5df37ec81e0c121472349e7a529c85a4ef88de8bfe582d59a899d8"), looks := false }, kinds := [], alts := [], laidByText := true, laidKinds := [.data, .pinned], laidTests := true, laidLooks := .later }
def FnPutVarsUptoCardSaid : Prop := Claim7.holds Tryd.pinned (.plain (OpenSpec.upto fnPutVarsSpec)) fnPutVarsUptoCard

/-- THE SECOND FORM's CARD OF 'laws.FnExactWordOf'. -/
def fnExactWordOfUptoCard : Claim7 := { stood := { row := fnExactWordOfUptoRow, standIns := [], harness := (true, "39a8d1931b5df37ec81e0c121472349e7a529c85a4ef88de8bfe582d59a899d8"), looks := false }, kinds := [], alts := [], laidByText := true, laidKinds := [.data, .pinned], laidTests := true, laidLooks := .later }
def FnExactWordOfUptoCardSaid : Prop := Claim7.holds Tryd.pinned (.plain (OpenSpec.upto fnExactWordOfSpec)) fnExactWordOfUptoCard

/-- THE SECOND FORM's CARD OF 'laws.FnWordStructure'. -/
def fnWordStructureUptoCard : Claim7 := { stood := { row := fnWordStructureUptoRow, standIns := [], harness := (true, "39a8d1931b5df37ec81e0c121472349e7a529c85a4ef88de8bfe582d59a899d8"), looks := false }, kinds := [], alts := [], laidByText := true, laidKinds := [.data, .pinned], laidTests := true, laidLooks := .later }
def FnWordStructureUptoCardSaid : Prop := Claim7.holds Tryd.pinned (.plain (OpenSpec.upto fnWordStructureSpec)) fnWordStructureUptoCard

/-- THE SECOND FORM's CARD OF 'laws.FnInterpret'. -/
def fnInterpretUptoCard : Claim7 := { stood := { row := fnInterpretUptoRow, standIns := [], harness := (true, "39a8d1931b5df37ec81e0c121472349e7a529c85a4ef88de8bfe582d59a899d8"), looks := false }, kinds := [], alts := [], laidByText := true, laidKinds := [.data, .pinned], laidTests := true, laidLooks := .later }
def FnInterpretUptoCardSaid : Prop := Claim7.holds Tryd.pinned (.plain (OpenSpec.upto fnInterpretSpec)) fnInterpretUptoCard

/-- THE SECOND FORM's CARD OF 'laws.FnRelativize'. -/
def fnRelativizeUptoCard : Claim7 := { stood := { row := fnRelativizeUptoRow, standIns := [], harness := (true, "39a8d1931b5df37ec81e0c121472349e7a529c85a4ef88de8bfe582d59a899d8"), looks := false }, kinds := [], alts := [], laidByText := true, laidKinds := [.data, .pinned], laidTests := true, laidLooks := .later }
def FnRelativizeUptoCardSaid : Prop := Claim7.holds Tryd.pinned (.plain (OpenSpec.upto fnRelativizeSpec)) fnRelativizeUptoCard

/-- THE SECOND FORM's CARD OF 'laws.FnComposeViews'. -/
def fnComposeViewsUptoCard : Claim7 := { stood := { row := fnComposeViewsUptoRow, standIns := [], harness := (true, "39a8d1931b5df37ec81e0c121472349e7a529c85a4ef88de8bfe582d59a899d8"), looks := false }, kinds := [], alts := [], laidByText := true, laidKinds := [.data, .pinned], laidTests := true, laidLooks := .later }
def FnComposeViewsUptoCardSaid : Prop := Claim7.holds Tryd.pinned (.plain (OpenSpec.upto fnComposeViewsSpec)) fnComposeViewsUptoCard

/-- THE SECOND FORM's CARD OF 'laws.FnWordOf'. -/
def fnWordOfUptoCard : Claim7 := { stood := { row := fnWordOfUptoRow, standIns := [], harness := (true, "39a8d1931b5df37ec81e0c121472349e7a529c85a4ef88de8bfe582d59a899d8"), looks := false }, kinds := [], alts := [], laidByText := true, laidKinds := [.data, .pinned], laidTests := true, laidLooks := .later }
def FnWordOfUptoCardSaid : Prop := Claim7.holds Tryd.pinned (.plain (OpenSpec.upto fnWordOfSpec)) fnWordOfUptoCard
end Rows
end Go.Proofs.YtmabpmkkleelaaaDoor

/-
  DERIVED. GIVEN WITH THE SEED: THE CARDS: each row of YtagnikcnakdehaaDoorRows.lean that lists a variable, with what it lists TIED to the program's text (the seventh form; the later family's looks); each row that meets fmt, with fmt's text TOLD by the authors' own Lean function (tested against real Go, not proved from fmt's source: count such statements apart). THE CARD IS WHAT COUNTS. Prove the row's statement (the work); the ties are given (YtagnikcnakdehaaDoorTie.lean); close each card by the builder's one call (the guide's Derived/Test/ToyasCard.lean, 'card_holds'). Laid BY PROGRAM, IN A SANDBOX (cutbox-door.mjs). By AI agents, Wed Nov 11 2026. No macro, syntax, notation, axiom, sorry.
-/
import Derived.Test.YtagnikcnakdehaaDoorRows
import GoSem.ClaimSeven
namespace Go.Proofs.YtagnikcnakdehaaDoor
namespace Rows

/-- THE TIED CARD OF 'laws.FnExactClassOfWord'. -/
def fnExactClassOfWordCard : Claim7 := { stood := { row := fnExactClassOfWordRow, standIns := [], harness := (true, "365d1d00283f439058443a42570fa1de1062e0a32af63d889c4cad29205af609"), looks := false }, kinds := [], alts := [], laidByText := true, laidKinds := [.data, .pinned], laidTests := true, laidLooks := .later }
def FnExactClassOfWordCardSaid : Prop := Claim7.holds Tryd.pinned (.plain (OpenSpec.ofChange fnExactClassOfWordSpec)) fnExactClassOfWordCard

/-- THE TIED CARD OF 'laws.FnPowers'. -/
def fnPowersCard : Claim7 := { stood := { row := fnPowersRow, standIns := [], harness := (true, "365d1d00283f439058443a42570fa1de1062e0a32af63d889c4cad29205af609"), looks := false }, kinds := [], alts := [], laidByText := true, laidKinds := [.data, .pinned], laidTests := true, laidLooks := .later }
def FnPowersCardSaid : Prop := Claim7.holds Tryd.pinned (.plain (OpenSpec.ofChange fnPowersSpec)) fnPowersCard

/-- THE TIED CARD OF 'laws.FnWordClasses'. -/
def fnWordClassesCard : Claim7 := { stood := { row := fnWordClassesRow, standIns := [], harness := (true, "365d1d00283f439058443a42570fa1de1062e0a32af63d889c4cad29205af609"), looks := false }, kinds := [], alts := [], laidByText := true, laidKinds := [.data, .pinned], laidTests := true, laidLooks := .later }
def FnWordClassesCardSaid : Prop := Claim7.holds Tryd.pinned (.plain (OpenSpec.ofChange fnWordClassesSpec)) fnWordClassesCard

/-- THE TIED CARD OF 'laws.FnClassOfWord'. -/
def fnClassOfWordCard : Claim7 := { stood := { row := fnClassOfWordRow, standIns := [], harness := (true, "365d1d00283f439058443a42570fa1de1062e0a32af63d889c4cad29205af609"), looks := false }, kinds := [], alts := [], laidByText := true, laidKinds := [.data, .pinned], laidTests := true, laidLooks := .later }
def FnClassOfWordCardSaid : Prop := Claim7.holds Tryd.pinned (.plain (OpenSpec.ofChange fnClassOfWordSpec)) fnClassOfWordCard

/-- THE TIED CARD OF 'laws.FnConcatenation'. -/
def fnConcatenationCard : Claim7 := { stood := { row := fnConcatenationRow, standIns := [], harness := (true, "365d1d00283f439058443a42570fa1de1062e0a32af63d889c4cad29205af609"), looks := false }, kinds := [], alts := [], laidByText := true, laidKinds := [.data, .pinned], laidTests := true, laidLooks := .later }
def FnConcatenationCardSaid : Prop := Claim7.holds Tryd.pinned (.plain (OpenSpec.ofChange fnConcatenationSpec)) fnConcatenationCard

/-- THE TIED CARD OF 'laws.FnOrderReply'. -/
def fnOrderReplyCard : Claim7 := { stood := { row := fnOrderReplyRow, standIns := [], harness := (true, "365d1d00283f439058443a42570fa1de1062e0a32af63d889c4cad29205af609"), looks := false }, kinds := [], alts := [], laidByText := true, laidKinds := [.data, .pinned], laidTests := true, laidLooks := .later }
def FnOrderReplyCardSaid : Prop := Claim7.holds Tryd.pinned (.plain (OpenSpec.ofChange fnOrderReplySpec)) fnOrderReplyCard

/-- THE TIED CARD OF 'laws.FnOrderGames'. -/
def fnOrderGamesCard : Claim7 := { stood := { row := fnOrderGamesRow, standIns := [], harness := (true, "365d1d00283f439058443a42570fa1de1062e0a32af63d889c4cad29205af609"), looks := false }, kinds := [], alts := [], laidByText := true, laidKinds := [.data, .pinned], laidTests := true, laidLooks := .later }
def FnOrderGamesCardSaid : Prop := Claim7.holds Tryd.pinned (.plain (OpenSpec.ofChange fnOrderGamesSpec)) fnOrderGamesCard

/-- THE TIED CARD OF 'laws.FnWordOf'. -/
def fnWordOfCard : Claim7 := { stood := { row := fnWordOfRow, standIns := [], harness := (true, "365d1d00283f439058443a42570fa1de1062e0a32af63d889c4cad29205af609"), looks := false }, kinds := [], alts := [], laidByText := true, laidKinds := [.data, .pinned], laidTests := true, laidLooks := .later }
def FnWordOfCardSaid : Prop := Claim7.holds Tryd.pinned (.plain (OpenSpec.ofChange fnWordOfSpec)) fnWordOfCard

/-- THE TIED CARD OF 'laws.FnCircleOf'. -/
def fnCircleOfCard : Claim7 := { stood := { row := fnCircleOfRow, standIns := [], harness := (true, "365d1d00283f439058443a42570fa1de1062e0a32af63d889c4cad29205af609"), looks := false }, kinds := [], alts := [], laidByText := true, laidKinds := [.data, .pinned], laidTests := true, laidLooks := .later }
def FnCircleOfCardSaid : Prop := Claim7.holds Tryd.pinned (.plain (OpenSpec.ofChange fnCircleOfSpec)) fnCircleOfCard

/-- THE TIED CARD OF 'laws.FnExactInterpret'. -/
def fnExactInterpretCard : Claim7 := { stood := { row := fnExactInterpretRow, standIns := [], harness := (true, "365d1d00283f439058443a42570fa1de1062e0a32af63d889c4cad29205af609"), looks := false }, kinds := [], alts := [], laidByText := true, laidKinds := [.data, .pinned], laidTests := true, laidLooks := .later }
def FnExactInterpretCardSaid : Prop := Claim7.holds Tryd.pinned (.plain (OpenSpec.ofChange fnExactInterpretSpec)) fnExactInterpretCard

/-- THE TIED CARD OF 'laws.FnExactAcceptsWord'. -/
def fnExactAcceptsWordCard : Claim7 := { stood := { row := fnExactAcceptsWordRow, standIns := [], harness := (true, "365d1d00283f439058443a42570fa1de1062e0a32af63d889c4cad29205af609"), looks := false }, kinds := [], alts := [], laidByText := true, laidKinds := [.data, .pinned], laidTests := true, laidLooks := .later }
def FnExactAcceptsWordCardSaid : Prop := Claim7.holds Tryd.pinned (.plain (OpenSpec.ofChange fnExactAcceptsWordSpec)) fnExactAcceptsWordCard

/-- THE TIED CARD OF 'laws.FnExactPartWhere'. -/
def fnExactPartWhereCard : Claim7 := { stood := { row := fnExactPartWhereRow, standIns := [], harness := (true, "365d1d00283f439058443a42570fa1de1062e0a32af63d889c4cad29205af609"), looks := false }, kinds := [], alts := [], laidByText := true, laidKinds := [.data, .pinned], laidTests := true, laidLooks := .later }
def FnExactPartWhereCardSaid : Prop := Claim7.holds Tryd.pinned (.plain (OpenSpec.ofChange fnExactPartWhereSpec)) fnExactPartWhereCard

/-- THE SECOND FORM's CARD OF 'laws.FnExactClassOfWord'. -/
def fnExactClassOfWordUptoCard : Claim7 := { stood := { row := fnExactClassOfWordUptoRow, standIns := [], harness := (true, "365d1d00283f439058443a42570fa1de1062e0a32af63d889c4cad29205af609"), looks := false }, kinds := [], alts := [], laidByText := true, laidKinds := [.data, .pinned], laidTests := true, laidLooks := .later }
def FnExactClassOfWordUptoCardSaid : Prop := Claim7.holds Tryd.pinned (.plain (OpenSpec.upto fnExactClassOfWordSpec)) fnExactClassOfWordUptoCard

/-- THE SECOND FORM's CARD OF 'laws.FnPowers'. -/
def fnPowersUptoCard : Claim7 := { stood := { row := fnPowersUptoRow, standIns := [], harness := (true, "365d1d00283f439058443a42570fa1de1062e0a32af63d889c4cad29205af609"), looks := false }, kinds := [], alts := [], laidByText := true, laidKinds := [.data, .pinned], laidTests := true, laidLooks := .later }
def FnPowersUptoCardSaid : Prop := Claim7.holds Tryd.pinned (.plain (OpenSpec.upto fnPowersSpec)) fnPowersUptoCard

/-- THE SECOND FORM's CARD OF 'laws.FnWordClasses'. -/
def fnWordClassesUptoCard : Claim7 := { stood := { row := fnWordClassesUptoRow, standIns := [], harness := (true, "365d1d00283f439058443a42570fa1de1062e0a32af63d889c4cad29205af609"), looks := false }, kinds := [], alts := [], laidByText := true, laidKinds := [.data, .pinned], laidTests := true, laidLooks := .later }
def FnWordClassesUptoCardSaid : Prop := Claim7.holds Tryd.pinned (.plain (OpenSpec.upto fnWordClassesSpec)) fnWordClassesUptoCard

/-- THE SECOND FORM's CARD OF 'laws.FnClassOfWord'. -/
def fnClassOfWordUptoCard : Claim7 := { stood := { row := fnClassOfWordUptoRow, standIns := [], harness := (true, "365d1d00283f439058443a42570fa1de1062e0a32af63d889c4cad29205af609"), looks := false }, kinds := [], alts := [], laidByText := true, laidKinds := [.data, .pinned], laidTests := true, laidLooks := .later }
def FnClassOfWordUptoCardSaid : Prop := Claim7.holds Tryd.pinned (.plain (OpenSpec.upto fnClassOfWordSpec)) fnClassOfWordUptoCard

/-- THE SECOND FORM's CARD OF 'laws.FnConcatenation'. -/
def fnConcatenationUptoCard : Claim7 := { stood := { row := fnConcatenationUptoRow, standIns := [], harness := (true, "365d1d00283f439058443a42570fa1de1062e0a32af63d889c4cad29205af609"), looks := false }, kinds := [], alts := [], laidByText := true, laidKinds := [.data, .pinned], laidTests := true, laidLooks := .later }
def FnConcatenationUptoCardSaid : Prop := Claim7.holds Tryd.pinned (.plain (OpenSpec.upto fnConcatenationSpec)) fnConcatenationUptoCard

/-- THE SECOND FORM's CARD OF 'laws.FnOrderReply'. -/
def fnOrderReplyUptoCard : Claim7 := { stood := { row := fnOrderReplyUptoRow, standIns := [], harness := (true, "365d1d00283f439058443a42570fa1de1062e0a32af63d889c4cad29205af609"), looks := false }, kinds := [], alts := [], laidByText := true, laidKinds := [.data, .pinned], laidTests := true, laidLooks := .later }
def FnOrderReplyUptoCardSaid : Prop := Claim7.holds Tryd.pinned (.plain (OpenSpec.upto fnOrderReplySpec)) fnOrderReplyUptoCard

/-- THE SECOND FORM's CARD OF 'laws.FnOrderGames'. -/
def fnOrderGamesUptoCard : Claim7 := { stood := { row := fnOrderGamesUptoRow, standIns := [], harness := (true, "365d1d00283f439058443a42570fa1de1062e0a32af63d889c4cad29205af609"), looks := false }, kinds := [], alts := [], laidByText := true, laidKinds := [.data, .pinned], laidTests := true, laidLooks := .later }
def FnOrderGamesUptoCardSaid : Prop := Claim7.holds Tryd.pinned (.plain (OpenSpec.upto fnOrderGamesSpec)) fnOrderGamesUptoCard

/-- THE SECOND FORM's CARD OF 'laws.FnWordOf'. -/
def fnWordOfUptoCard : Claim7 := { stood := { row := fnWordOfUptoRow, standIns := [], harness := (true, "365d1d00283f439058443a42570fa1de1062e0a32af63d889c4cad29205af609"), looks := false }, kinds := [], alts := [], laidByText := true, laidKinds := [.data, .pinned], laidTests := true, laidLooks := .later }
def FnWordOfUptoCardSaid : Prop := Claim7.holds Tryd.pinned (.plain (OpenSpec.upto fnWordOfSpec)) fnWordOfUptoCard

/-- THE SECOND FORM's CARD OF 'laws.FnCircleOf'. -/
def fnCircleOfUptoCard : Claim7 := { stood := { row := fnCircleOfUptoRow, standIns := [], harness := (true, "365d1d00283f439058443a42570fa1de1062e0a32af63d889c4cad29205af609"), looks := false }, kinds := [], alts := [], laidByText := true, laidKinds := [.data, .pinned], laidTests := true, laidLooks := .later }
def FnCircleOfUptoCardSaid : Prop := Claim7.holds Tryd.pinned (.plain (OpenSpec.upto fnCircleOfSpec)) fnCircleOfUptoCard

/-- THE SECOND FORM's CARD OF 'laws.FnExactInterpret'. -/
def fnExactInterpretUptoCard : Claim7 := { stood := { row := fnExactInterpretUptoRow, standIns := [], harness := (true, "365d1d00283f439058443a42570fa1de1062e0a32af63d889c4cad29205af609"), looks := false }, kinds := [], alts := [], laidByText := true, laidKinds := [.data, .pinned], laidTests := true, laidLooks := .later }
def FnExactInterpretUptoCardSaid : Prop := Claim7.holds Tryd.pinned (.plain (OpenSpec.upto fnExactInterpretSpec)) fnExactInterpretUptoCard

/-- THE SECOND FORM's CARD OF 'laws.FnExactAcceptsWord'. -/
def fnExactAcceptsWordUptoCard : Claim7 := { stood := { row := fnExactAcceptsWordUptoRow, standIns := [], harness := (true, "365d1d00283f439058443a42570fa1de1062e0a32af63d889c4cad29205af609"), looks := false }, kinds := [], alts := [], laidByText := true, laidKinds := [.data, .pinned], laidTests := true, laidLooks := .later }
def FnExactAcceptsWordUptoCardSaid : Prop := Claim7.holds Tryd.pinned (.plain (OpenSpec.upto fnExactAcceptsWordSpec)) fnExactAcceptsWordUptoCard

/-- THE SECOND FORM's CARD OF 'laws.FnExactPartWhere'. -/
def fnExactPartWhereUptoCard : Claim7 := { stood := { row := fnExactPartWhereUptoRow, standIns := [], harness := (true, "365d1d00283f439058443a42570fa1de1062e0a32af63d889c4cad29205af609"), looks := false }, kinds := [], alts := [], laidByText := true, laidKinds := [.data, .pinned], laidTests := true, laidLooks := .later }
def FnExactPartWhereUptoCardSaid : Prop := Claim7.holds Tryd.pinned (.plain (OpenSpec.upto fnExactPartWhereSpec)) fnExactPartWhereUptoCard
end Rows
end Go.Proofs.YtagnikcnakdehaaDoor

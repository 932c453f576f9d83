/-
  DERIVED. GIVEN WITH THE SEED: THE CARDS: each row of YtijdieacjplojaaDoorRows.lean that lists a variable, with what it lists TIED to the program's text (the seventh form; the later family's looks); each row that meets fmt, with fmt's text TOLD by the authors' own Lean function (tested against real Go, not proved from fmt's source: count such statements apart). THE CARD IS WHAT COUNTS. Prove the row's statement (the work); the ties are given (YtijdieacjplojaaDoorTie.lean); close each card by the builder's one call (the guide's Derived/Test/ToyasCard.lean, 'card_holds'). Laid BY PROGRAM, IN A SANDBOX (cutbox-door.mjs). By AI agents, Wed Nov 11 2026. No macro, syntax, notation, axiom, sorry.
-/
import Derived.Test.YtijdieacjplojaaDoorRows
import GoSem.ClaimSeven
namespace Go.Proofs.YtijdieacjplojaaDoor
namespace Rows

/-- THE TIED CARD OF 'laws.FnExactClassOfWord'. -/
def fnExactClassOfWordCard : Claim7 := { stood := { row := fnExactClassOfWordRow, standIns := [], harness := (true, "f454718ae295e883bbcca110e9a6dc0940af836249eefa23c7d9a532aeb27ae0"), looks := false }, kinds := [], alts := [], laidByText := true, laidKinds := [.data, .pinned], laidTests := true, laidLooks := .later }
def FnExactClassOfWordCardSaid : Prop := Claim7.holds Tryd.pinned (.plain (OpenSpec.ofChange fnExactClassOfWordSpec)) fnExactClassOfWordCard

/-- THE TIED CARD OF 'laws.FnPowers'. -/
def fnPowersCard : Claim7 := { stood := { row := fnPowersRow, standIns := [], harness := (true, "f454718ae295e883bbcca110e9a6dc0940af836249eefa23c7d9a532aeb27ae0"), looks := false }, kinds := [], alts := [], laidByText := true, laidKinds := [.data, .pinned], laidTests := true, laidLooks := .later }
def FnPowersCardSaid : Prop := Claim7.holds Tryd.pinned (.plain (OpenSpec.ofChange fnPowersSpec)) fnPowersCard

/-- THE TIED CARD OF 'laws.FnWordClasses'. -/
def fnWordClassesCard : Claim7 := { stood := { row := fnWordClassesRow, standIns := [], harness := (true, "f454718ae295e883bbcca110e9a6dc0940af836249eefa23c7d9a532aeb27ae0"), looks := false }, kinds := [], alts := [], laidByText := true, laidKinds := [.data, .pinned], laidTests := true, laidLooks := .later }
def FnWordClassesCardSaid : Prop := Claim7.holds Tryd.pinned (.plain (OpenSpec.ofChange fnWordClassesSpec)) fnWordClassesCard

/-- THE TIED CARD OF 'laws.FnClassOfWord'. -/
def fnClassOfWordCard : Claim7 := { stood := { row := fnClassOfWordRow, standIns := [], harness := (true, "f454718ae295e883bbcca110e9a6dc0940af836249eefa23c7d9a532aeb27ae0"), looks := false }, kinds := [], alts := [], laidByText := true, laidKinds := [.data, .pinned], laidTests := true, laidLooks := .later }
def FnClassOfWordCardSaid : Prop := Claim7.holds Tryd.pinned (.plain (OpenSpec.ofChange fnClassOfWordSpec)) fnClassOfWordCard

/-- THE TIED CARD OF 'laws.FnFormatNumbers'. -/
def fnFormatNumbersCard : Claim7 := { stood := { row := fnFormatNumbersRow, standIns := [], harness := (true, "f454718ae295e883bbcca110e9a6dc0940af836249eefa23c7d9a532aeb27ae0"), looks := false }, kinds := [], alts := [], laidByText := true, laidKinds := [.data, .data, .data], laidTests := true, laidLooks := .later }
def FnFormatNumbersCardSaid : Prop := Claim7.holds Tryd.pinned (.plain (OpenSpec.ofChange fnFormatNumbersSpec)) fnFormatNumbersCard

/-- THE TIED CARD OF 'laws.FnConcatenation'. -/
def fnConcatenationCard : Claim7 := { stood := { row := fnConcatenationRow, standIns := [], harness := (true, "f454718ae295e883bbcca110e9a6dc0940af836249eefa23c7d9a532aeb27ae0"), looks := false }, kinds := [], alts := [], laidByText := true, laidKinds := [.data, .pinned], laidTests := true, laidLooks := .later }
def FnConcatenationCardSaid : Prop := Claim7.holds Tryd.pinned (.plain (OpenSpec.ofChange fnConcatenationSpec)) fnConcatenationCard

/-- THE TIED CARD OF 'laws.FnOrderReply'. -/
def fnOrderReplyCard : Claim7 := { stood := { row := fnOrderReplyRow, standIns := [], harness := (true, "f454718ae295e883bbcca110e9a6dc0940af836249eefa23c7d9a532aeb27ae0"), looks := false }, kinds := [], alts := [], laidByText := true, laidKinds := [.data, .pinned], laidTests := true, laidLooks := .later }
def FnOrderReplyCardSaid : Prop := Claim7.holds Tryd.pinned (.plain (OpenSpec.ofChange fnOrderReplySpec)) fnOrderReplyCard

/-- THE TIED CARD OF 'laws.FnOrderGames'. -/
def fnOrderGamesCard : Claim7 := { stood := { row := fnOrderGamesRow, standIns := [], harness := (true, "f454718ae295e883bbcca110e9a6dc0940af836249eefa23c7d9a532aeb27ae0"), looks := false }, kinds := [], alts := [], laidByText := true, laidKinds := [.data, .pinned], laidTests := true, laidLooks := .later }
def FnOrderGamesCardSaid : Prop := Claim7.holds Tryd.pinned (.plain (OpenSpec.ofChange fnOrderGamesSpec)) fnOrderGamesCard

/-- THE TIED CARD OF 'laws.FnExactWordOf'. -/
def fnExactWordOfCard : Claim7 := { stood := { row := fnExactWordOfRow, standIns := [], harness := (true, "f454718ae295e883bbcca110e9a6dc0940af836249eefa23c7d9a532aeb27ae0"), looks := false }, kinds := [], alts := [], laidByText := true, laidKinds := [.data, .pinned], laidTests := true, laidLooks := .later }
def FnExactWordOfCardSaid : Prop := Claim7.holds Tryd.pinned (.plain (OpenSpec.ofChange fnExactWordOfSpec)) fnExactWordOfCard

/-- THE TIED CARD OF 'laws.FnWordStructure'. -/
def fnWordStructureCard : Claim7 := { stood := { row := fnWordStructureRow, standIns := [], harness := (true, "f454718ae295e883bbcca110e9a6dc0940af836249eefa23c7d9a532aeb27ae0"), looks := false }, kinds := [], alts := [], laidByText := true, laidKinds := [.data, .pinned], laidTests := true, laidLooks := .later }
def FnWordStructureCardSaid : Prop := Claim7.holds Tryd.pinned (.plain (OpenSpec.ofChange fnWordStructureSpec)) fnWordStructureCard

/-- THE SECOND FORM's CARD OF 'laws.FnExactClassOfWord'. -/
def fnExactClassOfWordUptoCard : Claim7 := { stood := { row := fnExactClassOfWordUptoRow, standIns := [], harness := (true, "f454718ae295e883bbcca110e9a6dc0940af836249eefa23c7d9a532aeb27ae0"), looks := false }, kinds := [], alts := [], laidByText := true, laidKinds := [.data, .pinned], laidTests := true, laidLooks := .later }
def FnExactClassOfWordUptoCardSaid : Prop := Claim7.holds Tryd.pinned (.plain (OpenSpec.upto fnExactClassOfWordSpec)) fnExactClassOfWordUptoCard

/-- THE SECOND FORM's CARD OF 'laws.FnPowers'. -/
def fnPowersUptoCard : Claim7 := { stood := { row := fnPowersUptoRow, standIns := [], harness := (true, "f454718ae295e883bbcca110e9a6dc0940af836249eefa23c7d9a532aeb27ae0"), looks := false }, kinds := [], alts := [], laidByText := true, laidKinds := [.data, .pinned], laidTests := true, laidLooks := .later }
def FnPowersUptoCardSaid : Prop := Claim7.holds Tryd.pinned (.plain (OpenSpec.upto fnPowersSpec)) fnPowersUptoCard

/-- THE SECOND FORM's CARD OF 'laws.FnWordClasses'. -/
def fnWordClassesUptoCard : Claim7 := { stood := { row := fnWordClassesUptoRow, standIns := [], harness := (true, "f454718ae295e883bbcca110e9a6dc0940af836249eefa23c7d9a532aeb27ae0"), looks := false }, kinds := [], alts := [], laidByText := true, laidKinds := [.data, .pinned], laidTests := true, laidLooks := .later }
def FnWordClassesUptoCardSaid : Prop := Claim7.holds Tryd.pinned (.plain (OpenSpec.upto fnWordClassesSpec)) fnWordClassesUptoCard

/-- THE SECOND FORM's CARD OF 'laws.FnClassOfWord'. -/
def fnClassOfWordUptoCard : Claim7 := { stood := { row := fnClassOfWordUptoRow, standIns := [], harness := (true, "f454718ae295e883bbcca110e9a6dc0940af836249eefa23c7d9a532aeb27ae0"), looks := false }, kinds := [], alts := [], laidByText := true, laidKinds := [.data, .pinned], laidTests := true, laidLooks := .later }
def FnClassOfWordUptoCardSaid : Prop := Claim7.holds Tryd.pinned (.plain (OpenSpec.upto fnClassOfWordSpec)) fnClassOfWordUptoCard

/-- THE SECOND FORM's CARD OF 'laws.FnFormatNumbers'. -/
def fnFormatNumbersUptoCard : Claim7 := { stood := { row := fnFormatNumbersUptoRow, standIns := [], harness := (true, "f454718ae295e883bbcca110e9a6dc0940af836249eefa23c7d9a532aeb27ae0"), looks := false }, kinds := [], alts := [], laidByText := true, laidKinds := [.data, .data, .data], laidTests := true, laidLooks := .later }
def FnFormatNumbersUptoCardSaid : Prop := Claim7.holds Tryd.pinned (.plain (OpenSpec.upto fnFormatNumbersSpec)) fnFormatNumbersUptoCard

/-- THE SECOND FORM's CARD OF 'laws.FnConcatenation'. -/
def fnConcatenationUptoCard : Claim7 := { stood := { row := fnConcatenationUptoRow, standIns := [], harness := (true, "f454718ae295e883bbcca110e9a6dc0940af836249eefa23c7d9a532aeb27ae0"), looks := false }, kinds := [], alts := [], laidByText := true, laidKinds := [.data, .pinned], laidTests := true, laidLooks := .later }
def FnConcatenationUptoCardSaid : Prop := Claim7.holds Tryd.pinned (.plain (OpenSpec.upto fnConcatenationSpec)) fnConcatenationUptoCard

/-- THE SECOND FORM's CARD OF 'laws.FnOrderReply'. -/
def fnOrderReplyUptoCard : Claim7 := { stood := { row := fnOrderReplyUptoRow, standIns := [], harness := (true, "f454718ae295e883bbcca110e9a6dc0940af836249eefa23c7d9a532aeb27ae0"), looks := false }, kinds := [], alts := [], laidByText := true, laidKinds := [.data, .pinned], laidTests := true, laidLooks := .later }
def FnOrderReplyUptoCardSaid : Prop := Claim7.holds Tryd.pinned (.plain (OpenSpec.upto fnOrderReplySpec)) fnOrderReplyUptoCard

/-- THE SECOND FORM's CARD OF 'laws.FnOrderGames'. -/
def fnOrderGamesUptoCard : Claim7 := { stood := { row := fnOrderGamesUptoRow, standIns := [], harness := (true, "f454718ae295e883bbcca110e9a6dc0940af836249eefa23c7d9a532aeb27ae0"), looks := false }, kinds := [], alts := [], laidByText := true, laidKinds := [.data, .pinned], laidTests := true, laidLooks := .later }
def FnOrderGamesUptoCardSaid : Prop := Claim7.holds Tryd.pinned (.plain (OpenSpec.upto fnOrderGamesSpec)) fnOrderGamesUptoCard

/-- THE SECOND FORM's CARD OF 'laws.FnExactWordOf'. -/
def fnExactWordOfUptoCard : Claim7 := { stood := { row := fnExactWordOfUptoRow, standIns := [], harness := (true, "f454718ae295e883bbcca110e9a6dc0940af836249eefa23c7d9a532aeb27ae0"), looks := false }, kinds := [], alts := [], laidByText := true, laidKinds := [.data, .pinned], laidTests := true, laidLooks := .later }
def FnExactWordOfUptoCardSaid : Prop := Claim7.holds Tryd.pinned (.plain (OpenSpec.upto fnExactWordOfSpec)) fnExactWordOfUptoCard

/-- THE SECOND FORM's CARD OF 'laws.FnWordStructure'. -/
def fnWordStructureUptoCard : Claim7 := { stood := { row := fnWordStructureUptoRow, standIns := [], harness := (true, "f454718ae295e883bbcca110e9a6dc0940af836249eefa23c7d9a532aeb27ae0"), looks := false }, kinds := [], alts := [], laidByText := true, laidKinds := [.data, .pinned], laidTests := true, laidLooks := .later }
def FnWordStructureUptoCardSaid : Prop := Claim7.holds Tryd.pinned (.plain (OpenSpec.upto fnWordStructureSpec)) fnWordStructureUptoCard
end Rows
end Go.Proofs.YtijdieacjplojaaDoor

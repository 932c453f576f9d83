/-
  DERIVED. GIVEN WITH THE SEED: THE CARDS: each row of YtenjojakjdaamaaDoorRows.lean that lists a variable, with what it lists TIED to the program's text (the seventh form; the later family's looks); each row that meets fmt, with fmt's text TOLD by the authors' own Lean function (tested against real Go, not proved from fmt's source: count such statements apart). THE CARD IS WHAT COUNTS. Prove the row's statement (the work); the ties are given (YtenjojakjdaamaaDoorTie.lean); close each card by the builder's one call (the guide's Derived/Test/ToyasCard.lean, 'card_holds'). Laid BY PROGRAM, IN A SANDBOX (cutbox-door.mjs). By AI agents, Wed Nov 11 2026. No macro, syntax, notation, axiom, sorry.
-/
import Derived.Test.YtenjojakjdaamaaDoorRows
import GoSem.ClaimSeven
namespace Go.Proofs.YtenjojakjdaamaaDoor
namespace Rows

/-- THE TIED CARD OF 'laws.FnAcceptsWord'. -/
def fnAcceptsWordCard : Claim7 := { stood := { row := fnAcceptsWordRow, standIns := [], harness := (true, "6f3631b8465d82acbf45a59697f93a7a0289f1ddab4b15f617acd657ba227127"), looks := false }, kinds := [], alts := [], laidByText := true, laidKinds := [.data, .pinned], laidTests := true, laidLooks := .later }
def FnAcceptsWordCardSaid : Prop := Claim7.holds Tryd.pinned (.plain (OpenSpec.ofChange fnAcceptsWordSpec)) fnAcceptsWordCard

/-- THE TIED CARD OF 'laws.FnReverse'. -/
def fnReverseCard : Claim7 := { stood := { row := fnReverseRow, standIns := [], harness := (true, "6f3631b8465d82acbf45a59697f93a7a0289f1ddab4b15f617acd657ba227127"), looks := false }, kinds := [], alts := [], laidByText := true, laidKinds := [.data, .pinned], laidTests := true, laidLooks := .later }
def FnReverseCardSaid : Prop := Claim7.holds Tryd.pinned (.plain (OpenSpec.ofChange fnReverseSpec)) fnReverseCard

/-- THE TIED CARD OF 'laws.FnPullBack'. -/
def fnPullBackCard : Claim7 := { stood := { row := fnPullBackRow, standIns := [], harness := (true, "6f3631b8465d82acbf45a59697f93a7a0289f1ddab4b15f617acd657ba227127"), looks := false }, kinds := [], alts := [], laidByText := true, laidKinds := [.data, .pinned], laidTests := true, laidLooks := .later }
def FnPullBackCardSaid : Prop := Claim7.holds Tryd.pinned (.plain (OpenSpec.ofChange fnPullBackSpec)) fnPullBackCard

/-- THE TIED CARD OF 'laws.FnPartWhere'. -/
def fnPartWhereCard : Claim7 := { stood := { row := fnPartWhereRow, standIns := [], harness := (true, "6f3631b8465d82acbf45a59697f93a7a0289f1ddab4b15f617acd657ba227127"), looks := false }, kinds := [], alts := [], laidByText := true, laidKinds := [.data, .pinned], laidTests := true, laidLooks := .later }
def FnPartWhereCardSaid : Prop := Claim7.holds Tryd.pinned (.plain (OpenSpec.ofChange fnPartWhereSpec)) fnPartWhereCard

/-- THE TIED CARD OF 'laws.FnOrderGames'. -/
def fnOrderGamesCard : Claim7 := { stood := { row := fnOrderGamesRow, standIns := [], harness := (true, "6f3631b8465d82acbf45a59697f93a7a0289f1ddab4b15f617acd657ba227127"), looks := false }, kinds := [], alts := [], laidByText := true, laidKinds := [.data, .pinned], laidTests := true, laidLooks := .later }
def FnOrderGamesCardSaid : Prop := Claim7.holds Tryd.pinned (.plain (OpenSpec.ofChange fnOrderGamesSpec)) fnOrderGamesCard

/-- THE TIED CARD OF 'laws.FnLengthSentence'. -/
def fnLengthSentenceCard : Claim7 := { stood := { row := fnLengthSentenceRow, standIns := [], harness := (true, "6f3631b8465d82acbf45a59697f93a7a0289f1ddab4b15f617acd657ba227127"), looks := false }, kinds := [], alts := [], laidByText := true, laidKinds := [.data, .pinned], laidTests := true, laidLooks := .later }
def FnLengthSentenceCardSaid : Prop := Claim7.holds Tryd.pinned (.plain (OpenSpec.ofChange fnLengthSentenceSpec)) fnLengthSentenceCard

/-- THE TIED CARD OF 'laws.FnFormatNumbers'. -/
def fnFormatNumbersCard : Claim7 := { stood := { row := fnFormatNumbersRow, standIns := [], harness := (true, "6f3631b8465d82acbf45a59697f93a7a0289f1ddab4b15f617acd657ba227127"), looks := false }, kinds := [], alts := [], laidByText := true, laidKinds := [.data, .data, .data], laidTests := true, laidLooks := .later }
def FnFormatNumbersCardSaid : Prop := Claim7.holds Tryd.pinned (.plain (OpenSpec.ofChange fnFormatNumbersSpec)) fnFormatNumbersCard

/-- THE TIED CARD OF 'laws.FnPutVars'. -/
def fnPutVarsCard : Claim7 := { stood := { row := fnPutVarsRow, standIns := [], harness := (true, "6f3631b8465d82acbf45a59697f93a7a0289f1ddab4b15f617acd657ba227127"), looks := false }, kinds := [], alts := [], laidByText := true, laidKinds := [.data, .pinned], laidTests := true, laidLooks := .later }
def FnPutVarsCardSaid : Prop := Claim7.holds Tryd.pinned (.plain (OpenSpec.ofChange fnPutVarsSpec)) fnPutVarsCard

/-- THE TIED CARD OF 'laws.FnExactWordOf'. -/
def fnExactWordOfCard : Claim7 := { stood := { row := fnExactWordOfRow, standIns := [], harness := (true, "6f3631b8465d82acbf45a59697f93a7a0289f1ddab4b15f617acd657ba227127"), looks := false }, kinds := [], alts := [], laidByText := true, laidKinds := [.data, .pinned], laidTests := true, laidLooks := .later }
def FnExactWordOfCardSaid : Prop := Claim7.holds Tryd.pinned (.plain (OpenSpec.ofChange fnExactWordOfSpec)) fnExactWordOfCard

/-- THE TIED CARD OF 'laws.FnWordStructure'. -/
def fnWordStructureCard : Claim7 := { stood := { row := fnWordStructureRow, standIns := [], harness := (true, "6f3631b8465d82acbf45a59697f93a7a0289f1ddab4b15f617acd657ba227127"), looks := false }, kinds := [], alts := [], laidByText := true, laidKinds := [.data, .pinned], laidTests := true, laidLooks := .later }
def FnWordStructureCardSaid : Prop := Claim7.holds Tryd.pinned (.plain (OpenSpec.ofChange fnWordStructureSpec)) fnWordStructureCard

/-- THE SECOND FORM's CARD OF 'laws.FnAcceptsWord'. -/
def fnAcceptsWordUptoCard : Claim7 := { stood := { row := fnAcceptsWordUptoRow, standIns := [], harness := (true, "6f3631b8465d82acbf45a59697f93a7a0289f1ddab4b15f617acd657ba227127"), looks := false }, kinds := [], alts := [], laidByText := true, laidKinds := [.data, .pinned], laidTests := true, laidLooks := .later }
def FnAcceptsWordUptoCardSaid : Prop := Claim7.holds Tryd.pinned (.plain (OpenSpec.upto fnAcceptsWordSpec)) fnAcceptsWordUptoCard

/-- THE SECOND FORM's CARD OF 'laws.FnReverse'. -/
def fnReverseUptoCard : Claim7 := { stood := { row := fnReverseUptoRow, standIns := [], harness := (true, "6f3631b8465d82acbf45a59697f93a7a0289f1ddab4b15f617acd657ba227127"), looks := false }, kinds := [], alts := [], laidByText := true, laidKinds := [.data, .pinned], laidTests := true, laidLooks := .later }
def FnReverseUptoCardSaid : Prop := Claim7.holds Tryd.pinned (.plain (OpenSpec.upto fnReverseSpec)) fnReverseUptoCard

/-- THE SECOND FORM's CARD OF 'laws.FnPullBack'. -/
def fnPullBackUptoCard : Claim7 := { stood := { row := fnPullBackUptoRow, standIns := [], harness := (true, "6f3631b8465d82acbf45a59697f93a7a0289f1ddab4b15f617acd657ba227127"), looks := false }, kinds := [], alts := [], laidByText := true, laidKinds := [.data, .pinned], laidTests := true, laidLooks := .later }
def FnPullBackUptoCardSaid : Prop := Claim7.holds Tryd.pinned (.plain (OpenSpec.upto fnPullBackSpec)) fnPullBackUptoCard

/-- THE SECOND FORM's CARD OF 'laws.FnPartWhere'. -/
def fnPartWhereUptoCard : Claim7 := { stood := { row := fnPartWhereUptoRow, standIns := [], harness := (true, "6f3631b8465d82acbf45a59697f93a7a0289f1ddab4b15f617acd657ba227127"), looks := false }, kinds := [], alts := [], laidByText := true, laidKinds := [.data, .pinned], laidTests := true, laidLooks := .later }
def FnPartWhereUptoCardSaid : Prop := Claim7.holds Tryd.pinned (.plain (OpenSpec.upto fnPartWhereSpec)) fnPartWhereUptoCard

/-- THE SECOND FORM's CARD OF 'laws.FnOrderGames'. -/
def fnOrderGamesUptoCard : Claim7 := { stood := { row := fnOrderGamesUptoRow, standIns := [], harness := (true, "6f3631b8465d82acbf45a59697f93a7a0289f1ddab4b15f617acd657ba227127"), looks := false }, kinds := [], alts := [], laidByText := true, laidKinds := [.data, .pinned], laidTests := true, laidLooks := .later }
def FnOrderGamesUptoCardSaid : Prop := Claim7.holds Tryd.pinned (.plain (OpenSpec.upto fnOrderGamesSpec)) fnOrderGamesUptoCard

/-- THE SECOND FORM's CARD OF 'laws.FnLengthSentence'. -/
def fnLengthSentenceUptoCard : Claim7 := { stood := { row := fnLengthSentenceUptoRow, standIns := [], harness := (true, "6f3631b8465d82acbf45a59697f93a7a0289f1ddab4b15f617acd657ba227127"), looks := false }, kinds := [], alts := [], laidByText := true, laidKinds := [.data, .pinned], laidTests := true, laidLooks := .later }
def FnLengthSentenceUptoCardSaid : Prop := Claim7.holds Tryd.pinned (.plain (OpenSpec.upto fnLengthSentenceSpec)) fnLengthSentenceUptoCard

/-- THE SECOND FORM's CARD OF 'laws.FnFormatNumbers'. -/
def fnFormatNumbersUptoCard : Claim7 := { stood := { row := fnFormatNumbersUptoRow, standIns := [], harness := (true, "6f3631b8465d82acbf45a59697f93a7a0289f1ddab4b15f617acd657ba227127"), looks := false }, kinds := [], alts := [], laidByText := true, laidKinds := [.data, .data, .data], laidTests := true, laidLooks := .later }
def FnFormatNumbersUptoCardSaid : Prop := Claim7.holds Tryd.pinned (.plain (OpenSpec.upto fnFormatNumbersSpec)) fnFormatNumbersUptoCard

/-- THE SECOND FORM's CARD OF 'laws.FnPutVars'. -/
def fnPutVarsUptoCard : Claim7 := { stood := { row := fnPutVarsUptoRow, standIns := [], harness := (true, "6f3631b8465d82acbf45a59697f93a7a0289f1ddab4b15f617acd657ba227127"), looks := false }, kinds := [], alts := [], laidByText := true, laidKinds := [.data, .pinned], laidTests := true, laidLooks := .later }
def FnPutVarsUptoCardSaid : Prop := Claim7.holds Tryd.pinned (.plain (OpenSpec.upto fnPutVarsSpec)) fnPutVarsUptoCard

/-- THE SECOND FORM's CARD OF 'laws.FnExactWordOf'. -/
def fnExactWordOfUptoCard : Claim7 := { stood := { row := fnExactWordOfUptoRow, standIns := [], harness := (true, "6f3631b8465d82acbf45a59697f93a7a0289f1ddab4b15f617acd657ba227127"), looks := false }, kinds := [], alts := [], laidByText := true, laidKinds := [.data, .pinned], laidTests := true, laidLooks := .later }
def FnExactWordOfUptoCardSaid : Prop := Claim7.holds Tryd.pinned (.plain (OpenSpec.upto fnExactWordOfSpec)) fnExactWordOfUptoCard

/-- THE SECOND FORM's CARD OF 'laws.FnWordStructure'. -/
def fnWordStructureUptoCard : Claim7 := { stood := { row := fnWordStructureUptoRow, standIns := [], harness := (true, "6f3631b8465d82acbf45a59697f93a7a0289f1ddab4b15f617acd657ba227127"), looks := false }, kinds := [], alts := [], laidByText := true, laidKinds := [.data, .pinned], laidTests := true, laidLooks := .later }
def FnWordStructureUptoCardSaid : Prop := Claim7.holds Tryd.pinned (.plain (OpenSpec.upto fnWordStructureSpec)) fnWordStructureUptoCard
end Rows
end Go.Proofs.YtenjojakjdaamaaDoor

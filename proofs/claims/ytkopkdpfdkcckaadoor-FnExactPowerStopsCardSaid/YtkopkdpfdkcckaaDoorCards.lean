/-
  DERIVED. GIVEN WITH THE SEED: THE CARDS: each row of YtkopkdpfdkcckaaDoorRows.lean that lists a variable, with what it lists TIED to the program's text (the seventh form; the later family's looks); each row that meets fmt, with fmt's text TOLD by the authors' own Lean function (tested against real Go, not proved from fmt's source: count such statements apart). THE CARD IS WHAT COUNTS. Prove the row's statement (the work); the ties are given (YtkopkdpfdkcckaaDoorTie.lean); close each card by the builder's one call (the guide's Derived/Test/ToyasCard.lean, 'card_holds'). Laid BY PROGRAM, IN A SANDBOX (cutbox-door.mjs). By AI agents, Wed Nov 11 2026. No macro, syntax, notation, axiom, sorry.
-/
import Derived.Test.YtkopkdpfdkcckaaDoorRows
import GoSem.ClaimSeven
namespace Go.Proofs.YtkopkdpfdkcckaaDoor
namespace Rows

/-- THE TIED CARD OF 'laws.FnExactWordValid'. -/
def fnExactWordValidCard : Claim7 := { stood := { row := fnExactWordValidRow, standIns := [], harness := (true, "fa1fa6008c09f32d04c728fa7e9c82f0c430045fd3b98980c7b1216e6ed3876c"), looks := false }, kinds := [], alts := [], laidByText := true, laidKinds := [.data, .pinned], laidTests := true, laidLooks := .later }
def FnExactWordValidCardSaid : Prop := Claim7.holds Tryd.pinned (.plain (OpenSpec.ofChange fnExactWordValidSpec)) fnExactWordValidCard

/-- THE TIED CARD OF 'laws.FnExactFormatNumbers'. -/
def fnExactFormatNumbersCard : Claim7 := { stood := { row := fnExactFormatNumbersRow, standIns := [], harness := (true, "fa1fa6008c09f32d04c728fa7e9c82f0c430045fd3b98980c7b1216e6ed3876c"), looks := false }, kinds := [], alts := [], laidByText := true, laidKinds := [.data, .data, .data], laidTests := true, laidLooks := .later }
def FnExactFormatNumbersCardSaid : Prop := Claim7.holds Tryd.pinned (.plain (OpenSpec.ofChange fnExactFormatNumbersSpec)) fnExactFormatNumbersCard

/-- THE TIED CARD OF 'laws.FnExactWordStructure'. -/
def fnExactWordStructureCard : Claim7 := { stood := { row := fnExactWordStructureRow, standIns := [], harness := (true, "fa1fa6008c09f32d04c728fa7e9c82f0c430045fd3b98980c7b1216e6ed3876c"), looks := false }, kinds := [], alts := [], laidByText := true, laidKinds := [.data, .pinned], laidTests := true, laidLooks := .later }
def FnExactWordStructureCardSaid : Prop := Claim7.holds Tryd.pinned (.plain (OpenSpec.ofChange fnExactWordStructureSpec)) fnExactWordStructureCard

/-- THE TIED CARD OF 'laws.FnFormatNumbers'. -/
def fnFormatNumbersCard : Claim7 := { stood := { row := fnFormatNumbersRow, standIns := [], harness := (true, "fa1fa6008c09f32d04c728fa7e9c82f0c430045fd3b98980c7b1216e6ed3876c"), looks := false }, kinds := [], alts := [], laidByText := true, laidKinds := [.data, .data, .data], laidTests := true, laidLooks := .later }
def FnFormatNumbersCardSaid : Prop := Claim7.holds Tryd.pinned (.plain (OpenSpec.ofChange fnFormatNumbersSpec)) fnFormatNumbersCard

/-- THE TIED CARD OF 'laws.FnExactCirclesOf'. -/
def fnExactCirclesOfCard : Claim7 := { stood := { row := fnExactCirclesOfRow, standIns := [], harness := (true, "fa1fa6008c09f32d04c728fa7e9c82f0c430045fd3b98980c7b1216e6ed3876c"), looks := false }, kinds := [], alts := [], laidByText := true, laidKinds := [.data, .pinned], laidTests := true, laidLooks := .later }
def FnExactCirclesOfCardSaid : Prop := Claim7.holds Tryd.pinned (.plain (OpenSpec.ofChange fnExactCirclesOfSpec)) fnExactCirclesOfCard

/-- THE TIED CARD OF 'laws.FnExactPowerStops'. -/
def fnExactPowerStopsCard : Claim7 := { stood := { row := fnExactPowerStopsRow, standIns := [], harness := (true, "fa1fa6008c09f32d04c728fa7e9c82f0c430045fd3b98980c7b1216e6ed3876c"), looks := false }, kinds := [], alts := [], laidByText := true, laidKinds := [.data, .pinned], laidTests := true, laidLooks := .later }
def FnExactPowerStopsCardSaid : Prop := Claim7.holds Tryd.pinned (.plain (OpenSpec.ofChange fnExactPowerStopsSpec)) fnExactPowerStopsCard

/-- THE TIED CARD OF 'laws.FnWordStructure'. -/
def fnWordStructureCard : Claim7 := { stood := { row := fnWordStructureRow, standIns := [], harness := (true, "fa1fa6008c09f32d04c728fa7e9c82f0c430045fd3b98980c7b1216e6ed3876c"), looks := false }, kinds := [], alts := [], laidByText := true, laidKinds := [.data, .pinned], laidTests := true, laidLooks := .later }
def FnWordStructureCardSaid : Prop := Claim7.holds Tryd.pinned (.plain (OpenSpec.ofChange fnWordStructureSpec)) fnWordStructureCard

/-- THE TIED CARD OF 'laws.FnExactSameWords'. -/
def fnExactSameWordsCard : Claim7 := { stood := { row := fnExactSameWordsRow, standIns := [], harness := (true, "fa1fa6008c09f32d04c728fa7e9c82f0c430045fd3b98980c7b1216e6ed3876c"), looks := false }, kinds := [], alts := [], laidByText := true, laidKinds := [.data, .pinned], laidTests := true, laidLooks := .later }
def FnExactSameWordsCardSaid : Prop := Claim7.holds Tryd.pinned (.plain (OpenSpec.ofChange fnExactSameWordsSpec)) fnExactSameWordsCard

/-- THE TIED CARD OF 'laws.FnExactWordOf'. -/
def fnExactWordOfCard : Claim7 := { stood := { row := fnExactWordOfRow, standIns := [], harness := (true, "fa1fa6008c09f32d04c728fa7e9c82f0c430045fd3b98980c7b1216e6ed3876c"), looks := false }, kinds := [], alts := [], laidByText := true, laidKinds := [.data, .pinned], laidTests := true, laidLooks := .later }
def FnExactWordOfCardSaid : Prop := Claim7.holds Tryd.pinned (.plain (OpenSpec.ofChange fnExactWordOfSpec)) fnExactWordOfCard

/-- THE SECOND FORM's CARD OF 'laws.FnExactWordValid'. -/
def fnExactWordValidUptoCard : Claim7 := { stood := { row := fnExactWordValidUptoRow, standIns := [], harness := (true, "fa1fa6008c09f32d04c728fa7e9c82f0c430045fd3b98980c7b1216e6ed3876c"), looks := false }, kinds := [], alts := [], laidByText := true, laidKinds := [.data, .pinned], laidTests := true, laidLooks := .later }
def FnExactWordValidUptoCardSaid : Prop := Claim7.holds Tryd.pinned (.plain (OpenSpec.upto fnExactWordValidSpec)) fnExactWordValidUptoCard

/-- THE SECOND FORM's CARD OF 'laws.FnExactFormatNumbers'. -/
def fnExactFormatNumbersUptoCard : Claim7 := { stood := { row := fnExactFormatNumbersUptoRow, standIns := [], harness := (true, "fa1fa6008c09f32d04c728fa7e9c82f0c430045fd3b98980c7b1216e6ed3876c"), looks := false }, kinds := [], alts := [], laidByText := true, laidKinds := [.data, .data, .data], laidTests := true, laidLooks := .later }
def FnExactFormatNumbersUptoCardSaid : Prop := Claim7.holds Tryd.pinned (.plain (OpenSpec.upto fnExactFormatNumbersSpec)) fnExactFormatNumbersUptoCard

/-- THE SECOND FORM's CARD OF 'laws.FnExactWordStructure'. -/
def fnExactWordStructureUptoCard : Claim7 := { stood := { row := fnExactWordStructureUptoRow, standIns := [], harness := (true, "fa1fa6008c09f32d04c728fa7e9c82f0c430045fd3b98980c7b1216e6ed3876c"), looks := false }, kinds := [], alts := [], laidByText := true, laidKinds := [.data, .pinned], laidTests := true, laidLooks := .later }
def FnExactWordStructureUptoCardSaid : Prop := Claim7.holds Tryd.pinned (.plain (OpenSpec.upto fnExactWordStructureSpec)) fnExactWordStructureUptoCard

/-- THE SECOND FORM's CARD OF 'laws.FnFormatNumbers'. -/
def fnFormatNumbersUptoCard : Claim7 := { stood := { row := fnFormatNumbersUptoRow, standIns := [], harness := (true, "fa1fa6008c09f32d04c728fa7e9c82f0c430045fd3b98980c7b1216e6ed3876c"), looks := false }, kinds := [], alts := [], laidByText := true, laidKinds := [.data, .data, .data], laidTests := true, laidLooks := .later }
def FnFormatNumbersUptoCardSaid : Prop := Claim7.holds Tryd.pinned (.plain (OpenSpec.upto fnFormatNumbersSpec)) fnFormatNumbersUptoCard

/-- THE SECOND FORM's CARD OF 'laws.FnExactCirclesOf'. -/
def fnExactCirclesOfUptoCard : Claim7 := { stood := { row := fnExactCirclesOfUptoRow, standIns := [], harness := (true, "fa1fa6008c09f32d04c728fa7e9c82f0c430045fd3b98980c7b1216e6ed3876c"), looks := false }, kinds := [], alts := [], laidByText := true, laidKinds := [.data, .pinned], laidTests := true, laidLooks := .later }
def FnExactCirclesOfUptoCardSaid : Prop := Claim7.holds Tryd.pinned (.plain (OpenSpec.upto fnExactCirclesOfSpec)) fnExactCirclesOfUptoCard

/-- THE SECOND FORM's CARD OF 'laws.FnExactPowerStops'. -/
def fnExactPowerStopsUptoCard : Claim7 := { stood := { row := fnExactPowerStopsUptoRow, standIns := [], harness := (true, "fa1fa6008c09f32d04c728fa7e9c82f0c430045fd3b98980c7b1216e6ed3876c"), looks := false }, kinds := [], alts := [], laidByText := true, laidKinds := [.data, .pinned], laidTests := true, laidLooks := .later }
def FnExactPowerStopsUptoCardSaid : Prop := Claim7.holds Tryd.pinned (.plain (OpenSpec.upto fnExactPowerStopsSpec)) fnExactPowerStopsUptoCard

/-- THE SECOND FORM's CARD OF 'laws.FnWordStructure'. -/
def fnWordStructureUptoCard : Claim7 := { stood := { row := fnWordStructureUptoRow, standIns := [], harness := (true, "fa1fa6008c09f32d04c728fa7e9c82f0c430045fd3b98980c7b1216e6ed3876c"), looks := false }, kinds := [], alts := [], laidByText := true, laidKinds := [.data, .pinned], laidTests := true, laidLooks := .later }
def FnWordStructureUptoCardSaid : Prop := Claim7.holds Tryd.pinned (.plain (OpenSpec.upto fnWordStructureSpec)) fnWordStructureUptoCard

/-- THE SECOND FORM's CARD OF 'laws.FnExactSameWords'. -/
def fnExactSameWordsUptoCard : Claim7 := { stood := { row := fnExactSameWordsUptoRow, standIns := [], harness := (true, "fa1fa6008c09f32d04c728fa7e9c82f0c430045fd3b98980c7b1216e6ed3876c"), looks := false }, kinds := [], alts := [], laidByText := true, laidKinds := [.data, .pinned], laidTests := true, laidLooks := .later }
def FnExactSameWordsUptoCardSaid : Prop := Claim7.holds Tryd.pinned (.plain (OpenSpec.upto fnExactSameWordsSpec)) fnExactSameWordsUptoCard

/-- THE SECOND FORM's CARD OF 'laws.FnExactWordOf'. -/
def fnExactWordOfUptoCard : Claim7 := { stood := { row := fnExactWordOfUptoRow, standIns := [], harness := (true, "fa1fa6008c09f32d04c728fa7e9c82f0c430045fd3b98980c7b1216e6ed3876c"), looks := false }, kinds := [], alts := [], laidByText := true, laidKinds := [.data, .pinned], laidTests := true, laidLooks := .later }
def FnExactWordOfUptoCardSaid : Prop := Claim7.holds Tryd.pinned (.plain (OpenSpec.upto fnExactWordOfSpec)) fnExactWordOfUptoCard
end Rows
end Go.Proofs.YtkopkdpfdkcckaaDoor

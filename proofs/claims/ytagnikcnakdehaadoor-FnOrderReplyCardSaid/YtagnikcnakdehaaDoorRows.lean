/-
  NARROWER THAN 'FOR EVERY INPUT', by the rows' own cells (each row's printed sentence says how): FnExactClassOfWord: laid · FnPowers: laid · FnWordClasses: laid · FnClassOfWord: laid · FnConcatenation: laid · FnOrderReply: laid · FnOrderGames: laid · FnWordOf: laid · FnCircleOf: laid · FnExactInterpret: laid · FnExactAcceptsWord: laid · FnExactPartWhere: laid.
  DERIVED. THE GIVEN ROWS OF THIS SEAT. 12 by the template 'for every input the law returns true; each argument reads behind the call as it read before'; 0 by the template 'total and deterministic' (their statements: YtagnikcnakdehaaDoorTotals.lean).
  GIVEN WITH THE SEED: the statements are not yours to turn. If you find one false, say at which input.
  Laid BY PROGRAM, IN A SANDBOX (cutbox-rows.mjs): the forced cells as the released guide's own fill.sh prints them over the translation c9c0a4b537530100… (all of the seat's roots in one cut). By AI agents, Wed Nov 11 2026. No macro, syntax, notation, axiom, sorry.
-/
import Derived.Test.YtagnikcnakdehaaDoorChecked
import GoSem.PinnedTables
import GoSem.Claim
import GoSem.ClaimJoined
import GoSem.ClaimMapViews
import Derived.JoinedTies
import Derived.KernelRfl
namespace Go.Proofs.YtagnikcnakdehaaDoor
/- THE CELL 'sum', in the pinned program and in every row, IS THE sha256 OF THE DUMP (.gsa) THAT YtagnikcnakdehaaDoorProg.lean LOADS. Nothing in Lean hashes anything: it is a label: what it is worth is what the hold of that sum in a sandbox is worth. -/
noncomputable def Tryd.pinned : Pinned := { name := "ytagnikcnakdehaadoor", sum := "c9c0a4b5375301009c49717a93717c78b15ea3e3cfb38689065dc2cbc4c415c1", checked := Tryd.checked }
namespace Rows
def none {H : Type} : Left H := { results := [], args := [] }

/- WHAT THE LISTED PACKAGE-LEVEL VARIABLES READ AS WHEN THE CALL BEGINS. Each datum BY PROGRAM (the guide's laid-datum.mjs) off the statement by which the dump's own 'gosem.cut.vars' lays the variable. In a bare row this is a premise. The card (YtagnikcnakdehaaDoorCards.lean) ties it to the program's text. -/
def laid_unicode_utf8_acceptRanges {H : Type} : DataW H := .agg [.agg [.lit (.int .u8 128), .lit (.int .u8 191)], .agg [.lit (.int .u8 160), .lit (.int .u8 191)], .agg [.lit (.int .u8 128), .lit (.int .u8 159)], .agg [.lit (.int .u8 144), .lit (.int .u8 191)], .agg [.lit (.int .u8 128), .lit (.int .u8 143)], .agg [.lit (.int .u8 0), .lit (.int .u8 0)], .agg [.lit (.int .u8 0), .lit (.int .u8 0)], .agg [.lit (.int .u8 0), .lit (.int .u8 0)], .agg [.lit (.int .u8 0), .lit (.int .u8 0)], .agg [.lit (.int .u8 0), .lit (.int .u8 0)], .agg [.lit (.int .u8 0), .lit (.int .u8 0)], .agg [.lit (.int .u8 0), .lit (.int .u8 0)], .agg [.lit (.int .u8 0), .lit (.int .u8 0)], .agg [.lit (.int .u8 0), .lit (.int .u8 0)], .agg [.lit (.int .u8 0), .lit (.int .u8 0)], .agg [.lit (.int .u8 0), .lit (.int .u8 0)]]
/-- One of Go's own tables, pinned by name: the form's constant. -/
def laid_unicode_utf8_first : DataW Unit := Go.Pinned.utf8First

/-- 'laws.FnExactClassOfWord': WHATEVER THE INPUT: true; the input reads as it did. -/
def fnExactClassOfWordSpec : ChangeSpec := { name := "fnExactClassOfWord", fn := fun _ => fun
  | [d1, d2] => { results := [.lit (.bool true)], args := [d1, d2] }
  | _ => none }
def fnExactClassOfWordRow : OpenClaim := { program := "ytagnikcnakdehaadoor", sum := "c9c0a4b5375301009c49717a93717c78b15ea3e3cfb38689065dc2cbc4c415c1", func := "loop.example/gamesonstructures/laws.FnExactClassOfWord", spec := "fnExactClassOfWord", inPlace := ["internal/bytealg.IndexByteString", "internal/bytealg.IndexString"], unfollowed := true, recurses := true, named := ["unicode/utf8.first", "unicode/utf8.acceptRanges", "internal/bytealg.MaxLen"], apart := false, laid := [("unicode/utf8.acceptRanges", laid_unicode_utf8_acceptRanges), ("unicode/utf8.first", laid_unicode_utf8_first)] }
def FnExactClassOfWordSaid : Prop := fnExactClassOfWordRow.holds Tryd.pinned (OpenSpec.ofChange fnExactClassOfWordSpec)

/-- ITS FALSE NEIGHBOUR: 'it returns false'. Refute it at one input. -/
def fnExactClassOfWordWrong : ChangeSpec := { name := "fnExactClassOfWord", fn := fun _ => fun
  | [d1, d2] => { results := [.lit (.bool false)], args := [d1, d2] }
  | _ => none }
def FnExactClassOfWordWrongFalsely : Prop := fnExactClassOfWordRow.holds Tryd.pinned (OpenSpec.ofChange fnExactClassOfWordWrong)

/-- 'laws.FnPowers': WHATEVER THE INPUT: true; the input reads as it did. -/
def fnPowersSpec : ChangeSpec := { name := "fnPowers", fn := fun _ => fun
  | [d] => { results := [.lit (.bool true)], args := [d] }
  | _ => none }
def fnPowersRow : OpenClaim := { program := "ytagnikcnakdehaadoor", sum := "c9c0a4b5375301009c49717a93717c78b15ea3e3cfb38689065dc2cbc4c415c1", func := "loop.example/gamesonstructures/laws.FnPowers", spec := "fnPowers", inPlace := ["internal/bytealg.IndexByteString", "internal/bytealg.IndexString"], unfollowed := true, recurses := true, named := ["unicode/utf8.first", "unicode/utf8.acceptRanges", "internal/bytealg.MaxLen"], apart := false, laid := [("unicode/utf8.acceptRanges", laid_unicode_utf8_acceptRanges), ("unicode/utf8.first", laid_unicode_utf8_first)] }
def FnPowersSaid : Prop := fnPowersRow.holds Tryd.pinned (OpenSpec.ofChange fnPowersSpec)

/-- ITS FALSE NEIGHBOUR: 'it returns false'. Refute it at one input. -/
def fnPowersWrong : ChangeSpec := { name := "fnPowers", fn := fun _ => fun
  | [d] => { results := [.lit (.bool false)], args := [d] }
  | _ => none }
def FnPowersWrongFalsely : Prop := fnPowersRow.holds Tryd.pinned (OpenSpec.ofChange fnPowersWrong)

/-- 'laws.FnWordClasses': WHATEVER THE INPUT: true; the input reads as it did. -/
def fnWordClassesSpec : ChangeSpec := { name := "fnWordClasses", fn := fun _ => fun
  | [d1, d2] => { results := [.lit (.bool true)], args := [d1, d2] }
  | _ => none }
def fnWordClassesRow : OpenClaim := { program := "ytagnikcnakdehaadoor", sum := "c9c0a4b5375301009c49717a93717c78b15ea3e3cfb38689065dc2cbc4c415c1", func := "loop.example/gamesonstructures/laws.FnWordClasses", spec := "fnWordClasses", inPlace := ["internal/bytealg.IndexByteString", "internal/bytealg.IndexString"], unfollowed := true, recurses := true, named := ["unicode/utf8.first", "unicode/utf8.acceptRanges", "internal/bytealg.MaxLen"], apart := false, laid := [("unicode/utf8.acceptRanges", laid_unicode_utf8_acceptRanges), ("unicode/utf8.first", laid_unicode_utf8_first)] }
def FnWordClassesSaid : Prop := fnWordClassesRow.holds Tryd.pinned (OpenSpec.ofChange fnWordClassesSpec)

/-- ITS FALSE NEIGHBOUR: 'it returns false'. Refute it at one input. -/
def fnWordClassesWrong : ChangeSpec := { name := "fnWordClasses", fn := fun _ => fun
  | [d1, d2] => { results := [.lit (.bool false)], args := [d1, d2] }
  | _ => none }
def FnWordClassesWrongFalsely : Prop := fnWordClassesRow.holds Tryd.pinned (OpenSpec.ofChange fnWordClassesWrong)

/-- 'laws.FnClassOfWord': WHATEVER THE INPUT: true; the input reads as it did. -/
def fnClassOfWordSpec : ChangeSpec := { name := "fnClassOfWord", fn := fun _ => fun
  | [d1, d2] => { results := [.lit (.bool true)], args := [d1, d2] }
  | _ => none }
def fnClassOfWordRow : OpenClaim := { program := "ytagnikcnakdehaadoor", sum := "c9c0a4b5375301009c49717a93717c78b15ea3e3cfb38689065dc2cbc4c415c1", func := "loop.example/gamesonstructures/laws.FnClassOfWord", spec := "fnClassOfWord", inPlace := ["internal/bytealg.IndexByteString", "internal/bytealg.IndexString"], unfollowed := true, recurses := true, named := ["unicode/utf8.first", "unicode/utf8.acceptRanges", "internal/bytealg.MaxLen"], apart := false, laid := [("unicode/utf8.acceptRanges", laid_unicode_utf8_acceptRanges), ("unicode/utf8.first", laid_unicode_utf8_first)] }
def FnClassOfWordSaid : Prop := fnClassOfWordRow.holds Tryd.pinned (OpenSpec.ofChange fnClassOfWordSpec)

/-- ITS FALSE NEIGHBOUR: 'it returns false'. Refute it at one input. -/
def fnClassOfWordWrong : ChangeSpec := { name := "fnClassOfWord", fn := fun _ => fun
  | [d1, d2] => { results := [.lit (.bool false)], args := [d1, d2] }
  | _ => none }
def FnClassOfWordWrongFalsely : Prop := fnClassOfWordRow.holds Tryd.pinned (OpenSpec.ofChange fnClassOfWordWrong)

/-- 'laws.FnConcatenation': WHATEVER THE INPUT: true; the input reads as it did. -/
def fnConcatenationSpec : ChangeSpec := { name := "fnConcatenation", fn := fun _ => fun
  | [d1, d2] => { results := [.lit (.bool true)], args := [d1, d2] }
  | _ => none }
def fnConcatenationRow : OpenClaim := { program := "ytagnikcnakdehaadoor", sum := "c9c0a4b5375301009c49717a93717c78b15ea3e3cfb38689065dc2cbc4c415c1", func := "loop.example/gamesonstructures/laws.FnConcatenation", spec := "fnConcatenation", inPlace := ["internal/bytealg.IndexByteString", "internal/bytealg.IndexString"], unfollowed := true, recurses := true, named := ["unicode/utf8.first", "unicode/utf8.acceptRanges", "internal/bytealg.MaxLen"], apart := false, laid := [("unicode/utf8.acceptRanges", laid_unicode_utf8_acceptRanges), ("unicode/utf8.first", laid_unicode_utf8_first)] }
def FnConcatenationSaid : Prop := fnConcatenationRow.holds Tryd.pinned (OpenSpec.ofChange fnConcatenationSpec)

/-- ITS FALSE NEIGHBOUR: 'it returns false'. Refute it at one input. -/
def fnConcatenationWrong : ChangeSpec := { name := "fnConcatenation", fn := fun _ => fun
  | [d1, d2] => { results := [.lit (.bool false)], args := [d1, d2] }
  | _ => none }
def FnConcatenationWrongFalsely : Prop := fnConcatenationRow.holds Tryd.pinned (OpenSpec.ofChange fnConcatenationWrong)

/-- 'laws.FnOrderReply': WHATEVER THE INPUT: true; the input reads as it did. -/
def fnOrderReplySpec : ChangeSpec := { name := "fnOrderReply", fn := fun _ => fun
  | [d] => { results := [.lit (.bool true)], args := [d] }
  | _ => none }
def fnOrderReplyRow : OpenClaim := { program := "ytagnikcnakdehaadoor", sum := "c9c0a4b5375301009c49717a93717c78b15ea3e3cfb38689065dc2cbc4c415c1", func := "loop.example/gamesonstructures/laws.FnOrderReply", spec := "fnOrderReply", inPlace := ["internal/abi.NoEscape", "internal/bytealg.MakeNoZero", "internal/bytealg.IndexByteString", "internal/bytealg.IndexString"], unfollowed := true, recurses := true, named := ["unicode/utf8.first", "unicode/utf8.acceptRanges", "internal/bytealg.MaxLen"], apart := false, laid := [("unicode/utf8.acceptRanges", laid_unicode_utf8_acceptRanges), ("unicode/utf8.first", laid_unicode_utf8_first)] }
def FnOrderReplySaid : Prop := fnOrderReplyRow.holds Tryd.pinned (OpenSpec.ofChange fnOrderReplySpec)

/-- ITS FALSE NEIGHBOUR: 'it returns false'. Refute it at one input. -/
def fnOrderReplyWrong : ChangeSpec := { name := "fnOrderReply", fn := fun _ => fun
  | [d] => { results := [.lit (.bool false)], args := [d] }
  | _ => none }
def FnOrderReplyWrongFalsely : Prop := fnOrderReplyRow.holds Tryd.pinned (OpenSpec.ofChange fnOrderReplyWrong)

/-- 'laws.FnOrderGames': WHATEVER THE INPUT: true; the input reads as it did. -/
def fnOrderGamesSpec : ChangeSpec := { name := "fnOrderGames", fn := fun _ => fun
  | [d1, d2] => { results := [.lit (.bool true)], args := [d1, d2] }
  | _ => none }
def fnOrderGamesRow : OpenClaim := { program := "ytagnikcnakdehaadoor", sum := "c9c0a4b5375301009c49717a93717c78b15ea3e3cfb38689065dc2cbc4c415c1", func := "loop.example/gamesonstructures/laws.FnOrderGames", spec := "fnOrderGames", inPlace := ["internal/abi.NoEscape", "internal/bytealg.MakeNoZero", "internal/bytealg.IndexByteString", "internal/bytealg.IndexString"], unfollowed := true, recurses := true, named := ["unicode/utf8.first", "unicode/utf8.acceptRanges", "internal/bytealg.MaxLen"], apart := false, laid := [("unicode/utf8.acceptRanges", laid_unicode_utf8_acceptRanges), ("unicode/utf8.first", laid_unicode_utf8_first)] }
def FnOrderGamesSaid : Prop := fnOrderGamesRow.holds Tryd.pinned (OpenSpec.ofChange fnOrderGamesSpec)

/-- ITS FALSE NEIGHBOUR: 'it returns false'. Refute it at one input. -/
def fnOrderGamesWrong : ChangeSpec := { name := "fnOrderGames", fn := fun _ => fun
  | [d1, d2] => { results := [.lit (.bool false)], args := [d1, d2] }
  | _ => none }
def FnOrderGamesWrongFalsely : Prop := fnOrderGamesRow.holds Tryd.pinned (OpenSpec.ofChange fnOrderGamesWrong)

/-- 'laws.FnWordOf': WHATEVER THE INPUT: true; the input reads as it did. -/
def fnWordOfSpec : ChangeSpec := { name := "fnWordOf", fn := fun _ => fun
  | [d] => { results := [.lit (.bool true)], args := [d] }
  | _ => none }
def fnWordOfRow : OpenClaim := { program := "ytagnikcnakdehaadoor", sum := "c9c0a4b5375301009c49717a93717c78b15ea3e3cfb38689065dc2cbc4c415c1", func := "loop.example/gamesonstructures/laws.FnWordOf", spec := "fnWordOf", inPlace := ["internal/bytealg.IndexByteString", "internal/bytealg.IndexString"], unfollowed := true, recurses := true, named := ["unicode/utf8.first", "unicode/utf8.acceptRanges", "internal/bytealg.MaxLen"], apart := false, laid := [("unicode/utf8.acceptRanges", laid_unicode_utf8_acceptRanges), ("unicode/utf8.first", laid_unicode_utf8_first)] }
def FnWordOfSaid : Prop := fnWordOfRow.holds Tryd.pinned (OpenSpec.ofChange fnWordOfSpec)

/-- ITS FALSE NEIGHBOUR: 'it returns false'. Refute it at one input. -/
def fnWordOfWrong : ChangeSpec := { name := "fnWordOf", fn := fun _ => fun
  | [d] => { results := [.lit (.bool false)], args := [d] }
  | _ => none }
def FnWordOfWrongFalsely : Prop := fnWordOfRow.holds Tryd.pinned (OpenSpec.ofChange fnWordOfWrong)

/-- 'laws.FnCircleOf': WHATEVER THE INPUT: true; the input reads as it did. -/
def fnCircleOfSpec : ChangeSpec := { name := "fnCircleOf", fn := fun _ => fun
  | [d] => { results := [.lit (.bool true)], args := [d] }
  | _ => none }
def fnCircleOfRow : OpenClaim := { program := "ytagnikcnakdehaadoor", sum := "c9c0a4b5375301009c49717a93717c78b15ea3e3cfb38689065dc2cbc4c415c1", func := "loop.example/gamesonstructures/laws.FnCircleOf", spec := "fnCircleOf", inPlace := ["internal/bytealg.IndexByteString", "internal/bytealg.IndexString"], unfollowed := true, recurses := true, named := ["unicode/utf8.first", "unicode/utf8.acceptRanges", "internal/bytealg.MaxLen"], apart := false, laid := [("unicode/utf8.acceptRanges", laid_unicode_utf8_acceptRanges), ("unicode/utf8.first", laid_unicode_utf8_first)] }
def FnCircleOfSaid : Prop := fnCircleOfRow.holds Tryd.pinned (OpenSpec.ofChange fnCircleOfSpec)

/-- ITS FALSE NEIGHBOUR: 'it returns false'. Refute it at one input. -/
def fnCircleOfWrong : ChangeSpec := { name := "fnCircleOf", fn := fun _ => fun
  | [d] => { results := [.lit (.bool false)], args := [d] }
  | _ => none }
def FnCircleOfWrongFalsely : Prop := fnCircleOfRow.holds Tryd.pinned (OpenSpec.ofChange fnCircleOfWrong)

/-- 'laws.FnExactInterpret': WHATEVER THE INPUT: true; the input reads as it did. -/
def fnExactInterpretSpec : ChangeSpec := { name := "fnExactInterpret", fn := fun _ => fun
  | [d1, d2, d3] => { results := [.lit (.bool true)], args := [d1, d2, d3] }
  | _ => none }
def fnExactInterpretRow : OpenClaim := { program := "ytagnikcnakdehaadoor", sum := "c9c0a4b5375301009c49717a93717c78b15ea3e3cfb38689065dc2cbc4c415c1", func := "loop.example/gamesonstructures/laws.FnExactInterpret", spec := "fnExactInterpret", inPlace := ["internal/bytealg.IndexByteString", "internal/bytealg.IndexString"], unfollowed := true, recurses := true, named := ["internal/bytealg.MaxLen", "unicode/utf8.first", "unicode/utf8.acceptRanges"], apart := false, laid := [("unicode/utf8.acceptRanges", laid_unicode_utf8_acceptRanges), ("unicode/utf8.first", laid_unicode_utf8_first)] }
def FnExactInterpretSaid : Prop := fnExactInterpretRow.holds Tryd.pinned (OpenSpec.ofChange fnExactInterpretSpec)

/-- ITS FALSE NEIGHBOUR: 'it returns false'. Refute it at one input. -/
def fnExactInterpretWrong : ChangeSpec := { name := "fnExactInterpret", fn := fun _ => fun
  | [d1, d2, d3] => { results := [.lit (.bool false)], args := [d1, d2, d3] }
  | _ => none }
def FnExactInterpretWrongFalsely : Prop := fnExactInterpretRow.holds Tryd.pinned (OpenSpec.ofChange fnExactInterpretWrong)

/-- 'laws.FnExactAcceptsWord': WHATEVER THE INPUT: true; the input reads as it did. -/
def fnExactAcceptsWordSpec : ChangeSpec := { name := "fnExactAcceptsWord", fn := fun _ => fun
  | [d1, d2] => { results := [.lit (.bool true)], args := [d1, d2] }
  | _ => none }
def fnExactAcceptsWordRow : OpenClaim := { program := "ytagnikcnakdehaadoor", sum := "c9c0a4b5375301009c49717a93717c78b15ea3e3cfb38689065dc2cbc4c415c1", func := "loop.example/gamesonstructures/laws.FnExactAcceptsWord", spec := "fnExactAcceptsWord", inPlace := ["internal/bytealg.IndexByteString", "internal/bytealg.IndexString"], unfollowed := true, recurses := true, named := ["unicode/utf8.first", "unicode/utf8.acceptRanges", "internal/bytealg.MaxLen"], apart := false, laid := [("unicode/utf8.acceptRanges", laid_unicode_utf8_acceptRanges), ("unicode/utf8.first", laid_unicode_utf8_first)] }
def FnExactAcceptsWordSaid : Prop := fnExactAcceptsWordRow.holds Tryd.pinned (OpenSpec.ofChange fnExactAcceptsWordSpec)

/-- ITS FALSE NEIGHBOUR: 'it returns false'. Refute it at one input. -/
def fnExactAcceptsWordWrong : ChangeSpec := { name := "fnExactAcceptsWord", fn := fun _ => fun
  | [d1, d2] => { results := [.lit (.bool false)], args := [d1, d2] }
  | _ => none }
def FnExactAcceptsWordWrongFalsely : Prop := fnExactAcceptsWordRow.holds Tryd.pinned (OpenSpec.ofChange fnExactAcceptsWordWrong)

/-- 'laws.FnExactPartWhere': WHATEVER THE INPUT: true; the input reads as it did. -/
def fnExactPartWhereSpec : ChangeSpec := { name := "fnExactPartWhere", fn := fun _ => fun
  | [d1, d2] => { results := [.lit (.bool true)], args := [d1, d2] }
  | _ => none }
def fnExactPartWhereRow : OpenClaim := { program := "ytagnikcnakdehaadoor", sum := "c9c0a4b5375301009c49717a93717c78b15ea3e3cfb38689065dc2cbc4c415c1", func := "loop.example/gamesonstructures/laws.FnExactPartWhere", spec := "fnExactPartWhere", inPlace := ["internal/bytealg.IndexByteString", "internal/bytealg.IndexString"], unfollowed := true, recurses := true, named := ["internal/bytealg.MaxLen", "unicode/utf8.first", "unicode/utf8.acceptRanges"], apart := false, laid := [("unicode/utf8.acceptRanges", laid_unicode_utf8_acceptRanges), ("unicode/utf8.first", laid_unicode_utf8_first)] }
def FnExactPartWhereSaid : Prop := fnExactPartWhereRow.holds Tryd.pinned (OpenSpec.ofChange fnExactPartWhereSpec)

/-- ITS FALSE NEIGHBOUR: 'it returns false'. Refute it at one input. -/
def fnExactPartWhereWrong : ChangeSpec := { name := "fnExactPartWhere", fn := fun _ => fun
  | [d1, d2] => { results := [.lit (.bool false)], args := [d1, d2] }
  | _ => none }
def FnExactPartWhereWrongFalsely : Prop := fnExactPartWhereRow.holds Tryd.pinned (OpenSpec.ofChange fnExactPartWhereWrong)

/- THE SECOND FORM. 'bulk': how many values and letters a reading holds, each counted each time it is reached (what is shared counts as often as it is met; a slice's spare places count too). A statement '..UptoSaid' is the law's where the arguments, and the package variables that the reading takes, are together of bulk at most 1048576: NARROWER than '..Said'. Prove '..Said' where nothing that the law and all that it calls make is longer than what came in: it says more and counts as full. Else prove '..UptoSaid'. A law counts once. -/
mutual
def uptoBulk {H : Type} : DataW H → Nat
  | .lit (.string bytes) => bytes.length + 1
  | .lit _ => 1
  | .nil => 1
  | .ptr d => uptoBulk d + 1
  | .slice elems spare => uptoBulkAll elems + uptoBulkAll spare + 1
  | .agg parts => uptoBulkAll parts + 1
  | .iface _ d => uptoBulk d + 1
  | .map entries => uptoBulkEntries entries + 1
  | .held _ => 1
def uptoBulkAll {H : Type} : List (DataW H) → Nat
  | [] => 0
  | d :: r => uptoBulk d + uptoBulkAll r
def uptoBulkEntries {H : Type} : List (Lit × DataW H) → Nat
  | [] => 0
  | x :: r => uptoBulkEntry x + uptoBulkEntries r
def uptoBulkEntry {H : Type} : Lit × DataW H → Nat
  | (.string bytes, d) => bytes.length + uptoBulk d + 1
  | (_, d) => uptoBulk d + 1
 end
def uptoSmall : (H : Type) → List (DataW H) → Bool := fun _ ds => decide (uptoBulkAll ds ≤ 1048576)
def OpenSpec.upto (s : _root_.Go.ChangeSpec) : _root_.Go.OpenSpec := { _root_.Go.OpenSpec.ofChange s with cond := some uptoSmall }

/-- 'laws.FnExactClassOfWord', WHERE WHAT IT READS IS OF BULK AT MOST 1048576: true; the input reads as it did. -/
def fnExactClassOfWordUptoRow : OpenClaim := { program := "ytagnikcnakdehaadoor", sum := "c9c0a4b5375301009c49717a93717c78b15ea3e3cfb38689065dc2cbc4c415c1", func := "loop.example/gamesonstructures/laws.FnExactClassOfWord", spec := "fnExactClassOfWord", inPlace := ["internal/bytealg.IndexByteString", "internal/bytealg.IndexString"], unfollowed := true, recurses := true, named := ["unicode/utf8.first", "unicode/utf8.acceptRanges", "internal/bytealg.MaxLen"], apart := false, laid := [("unicode/utf8.acceptRanges", laid_unicode_utf8_acceptRanges), ("unicode/utf8.first", laid_unicode_utf8_first)], narrowed := true }
def FnExactClassOfWordUptoSaid : Prop := fnExactClassOfWordUptoRow.holds Tryd.pinned (OpenSpec.upto fnExactClassOfWordSpec)

/-- 'laws.FnPowers', WHERE WHAT IT READS IS OF BULK AT MOST 1048576: true; the input reads as it did. -/
def fnPowersUptoRow : OpenClaim := { program := "ytagnikcnakdehaadoor", sum := "c9c0a4b5375301009c49717a93717c78b15ea3e3cfb38689065dc2cbc4c415c1", func := "loop.example/gamesonstructures/laws.FnPowers", spec := "fnPowers", inPlace := ["internal/bytealg.IndexByteString", "internal/bytealg.IndexString"], unfollowed := true, recurses := true, named := ["unicode/utf8.first", "unicode/utf8.acceptRanges", "internal/bytealg.MaxLen"], apart := false, laid := [("unicode/utf8.acceptRanges", laid_unicode_utf8_acceptRanges), ("unicode/utf8.first", laid_unicode_utf8_first)], narrowed := true }
def FnPowersUptoSaid : Prop := fnPowersUptoRow.holds Tryd.pinned (OpenSpec.upto fnPowersSpec)

/-- 'laws.FnWordClasses', WHERE WHAT IT READS IS OF BULK AT MOST 1048576: true; the input reads as it did. -/
def fnWordClassesUptoRow : OpenClaim := { program := "ytagnikcnakdehaadoor", sum := "c9c0a4b5375301009c49717a93717c78b15ea3e3cfb38689065dc2cbc4c415c1", func := "loop.example/gamesonstructures/laws.FnWordClasses", spec := "fnWordClasses", inPlace := ["internal/bytealg.IndexByteString", "internal/bytealg.IndexString"], unfollowed := true, recurses := true, named := ["unicode/utf8.first", "unicode/utf8.acceptRanges", "internal/bytealg.MaxLen"], apart := false, laid := [("unicode/utf8.acceptRanges", laid_unicode_utf8_acceptRanges), ("unicode/utf8.first", laid_unicode_utf8_first)], narrowed := true }
def FnWordClassesUptoSaid : Prop := fnWordClassesUptoRow.holds Tryd.pinned (OpenSpec.upto fnWordClassesSpec)

/-- 'laws.FnClassOfWord', WHERE WHAT IT READS IS OF BULK AT MOST 1048576: true; the input reads as it did. -/
def fnClassOfWordUptoRow : OpenClaim := { program := "ytagnikcnakdehaadoor", sum := "c9c0a4b5375301009c49717a93717c78b15ea3e3cfb38689065dc2cbc4c415c1", func := "loop.example/gamesonstructures/laws.FnClassOfWord", spec := "fnClassOfWord", inPlace := ["internal/bytealg.IndexByteString", "internal/bytealg.IndexString"], unfollowed := true, recurses := true, named := ["unicode/utf8.first", "unicode/utf8.acceptRanges", "internal/bytealg.MaxLen"], apart := false, laid := [("unicode/utf8.acceptRanges", laid_unicode_utf8_acceptRanges), ("unicode/utf8.first", laid_unicode_utf8_first)], narrowed := true }
def FnClassOfWordUptoSaid : Prop := fnClassOfWordUptoRow.holds Tryd.pinned (OpenSpec.upto fnClassOfWordSpec)

/-- 'laws.FnConcatenation', WHERE WHAT IT READS IS OF BULK AT MOST 1048576: true; the input reads as it did. -/
def fnConcatenationUptoRow : OpenClaim := { program := "ytagnikcnakdehaadoor", sum := "c9c0a4b5375301009c49717a93717c78b15ea3e3cfb38689065dc2cbc4c415c1", func := "loop.example/gamesonstructures/laws.FnConcatenation", spec := "fnConcatenation", inPlace := ["internal/bytealg.IndexByteString", "internal/bytealg.IndexString"], unfollowed := true, recurses := true, named := ["unicode/utf8.first", "unicode/utf8.acceptRanges", "internal/bytealg.MaxLen"], apart := false, laid := [("unicode/utf8.acceptRanges", laid_unicode_utf8_acceptRanges), ("unicode/utf8.first", laid_unicode_utf8_first)], narrowed := true }
def FnConcatenationUptoSaid : Prop := fnConcatenationUptoRow.holds Tryd.pinned (OpenSpec.upto fnConcatenationSpec)

/-- 'laws.FnOrderReply', WHERE WHAT IT READS IS OF BULK AT MOST 1048576: true; the input reads as it did. -/
def fnOrderReplyUptoRow : OpenClaim := { program := "ytagnikcnakdehaadoor", sum := "c9c0a4b5375301009c49717a93717c78b15ea3e3cfb38689065dc2cbc4c415c1", func := "loop.example/gamesonstructures/laws.FnOrderReply", spec := "fnOrderReply", inPlace := ["internal/abi.NoEscape", "internal/bytealg.MakeNoZero", "internal/bytealg.IndexByteString", "internal/bytealg.IndexString"], unfollowed := true, recurses := true, named := ["unicode/utf8.first", "unicode/utf8.acceptRanges", "internal/bytealg.MaxLen"], apart := false, laid := [("unicode/utf8.acceptRanges", laid_unicode_utf8_acceptRanges), ("unicode/utf8.first", laid_unicode_utf8_first)], narrowed := true }
def FnOrderReplyUptoSaid : Prop := fnOrderReplyUptoRow.holds Tryd.pinned (OpenSpec.upto fnOrderReplySpec)

/-- 'laws.FnOrderGames', WHERE WHAT IT READS IS OF BULK AT MOST 1048576: true; the input reads as it did. -/
def fnOrderGamesUptoRow : OpenClaim := { program := "ytagnikcnakdehaadoor", sum := "c9c0a4b5375301009c49717a93717c78b15ea3e3cfb38689065dc2cbc4c415c1", func := "loop.example/gamesonstructures/laws.FnOrderGames", spec := "fnOrderGames", inPlace := ["internal/abi.NoEscape", "internal/bytealg.MakeNoZero", "internal/bytealg.IndexByteString", "internal/bytealg.IndexString"], unfollowed := true, recurses := true, named := ["unicode/utf8.first", "unicode/utf8.acceptRanges", "internal/bytealg.MaxLen"], apart := false, laid := [("unicode/utf8.acceptRanges", laid_unicode_utf8_acceptRanges), ("unicode/utf8.first", laid_unicode_utf8_first)], narrowed := true }
def FnOrderGamesUptoSaid : Prop := fnOrderGamesUptoRow.holds Tryd.pinned (OpenSpec.upto fnOrderGamesSpec)

/-- 'laws.FnWordOf', WHERE WHAT IT READS IS OF BULK AT MOST 1048576: true; the input reads as it did. -/
def fnWordOfUptoRow : OpenClaim := { program := "ytagnikcnakdehaadoor", sum := "c9c0a4b5375301009c49717a93717c78b15ea3e3cfb38689065dc2cbc4c415c1", func := "loop.example/gamesonstructures/laws.FnWordOf", spec := "fnWordOf", inPlace := ["internal/bytealg.IndexByteString", "internal/bytealg.IndexString"], unfollowed := true, recurses := true, named := ["unicode/utf8.first", "unicode/utf8.acceptRanges", "internal/bytealg.MaxLen"], apart := false, laid := [("unicode/utf8.acceptRanges", laid_unicode_utf8_acceptRanges), ("unicode/utf8.first", laid_unicode_utf8_first)], narrowed := true }
def FnWordOfUptoSaid : Prop := fnWordOfUptoRow.holds Tryd.pinned (OpenSpec.upto fnWordOfSpec)

/-- 'laws.FnCircleOf', WHERE WHAT IT READS IS OF BULK AT MOST 1048576: true; the input reads as it did. -/
def fnCircleOfUptoRow : OpenClaim := { program := "ytagnikcnakdehaadoor", sum := "c9c0a4b5375301009c49717a93717c78b15ea3e3cfb38689065dc2cbc4c415c1", func := "loop.example/gamesonstructures/laws.FnCircleOf", spec := "fnCircleOf", inPlace := ["internal/bytealg.IndexByteString", "internal/bytealg.IndexString"], unfollowed := true, recurses := true, named := ["unicode/utf8.first", "unicode/utf8.acceptRanges", "internal/bytealg.MaxLen"], apart := false, laid := [("unicode/utf8.acceptRanges", laid_unicode_utf8_acceptRanges), ("unicode/utf8.first", laid_unicode_utf8_first)], narrowed := true }
def FnCircleOfUptoSaid : Prop := fnCircleOfUptoRow.holds Tryd.pinned (OpenSpec.upto fnCircleOfSpec)

/-- 'laws.FnExactInterpret', WHERE WHAT IT READS IS OF BULK AT MOST 1048576: true; the input reads as it did. -/
def fnExactInterpretUptoRow : OpenClaim := { program := "ytagnikcnakdehaadoor", sum := "c9c0a4b5375301009c49717a93717c78b15ea3e3cfb38689065dc2cbc4c415c1", func := "loop.example/gamesonstructures/laws.FnExactInterpret", spec := "fnExactInterpret", inPlace := ["internal/bytealg.IndexByteString", "internal/bytealg.IndexString"], unfollowed := true, recurses := true, named := ["internal/bytealg.MaxLen", "unicode/utf8.first", "unicode/utf8.acceptRanges"], apart := false, laid := [("unicode/utf8.acceptRanges", laid_unicode_utf8_acceptRanges), ("unicode/utf8.first", laid_unicode_utf8_first)], narrowed := true }
def FnExactInterpretUptoSaid : Prop := fnExactInterpretUptoRow.holds Tryd.pinned (OpenSpec.upto fnExactInterpretSpec)

/-- 'laws.FnExactAcceptsWord', WHERE WHAT IT READS IS OF BULK AT MOST 1048576: true; the input reads as it did. -/
def fnExactAcceptsWordUptoRow : OpenClaim := { program := "ytagnikcnakdehaadoor", sum := "c9c0a4b5375301009c49717a93717c78b15ea3e3cfb38689065dc2cbc4c415c1", func := "loop.example/gamesonstructures/laws.FnExactAcceptsWord", spec := "fnExactAcceptsWord", inPlace := ["internal/bytealg.IndexByteString", "internal/bytealg.IndexString"], unfollowed := true, recurses := true, named := ["unicode/utf8.first", "unicode/utf8.acceptRanges", "internal/bytealg.MaxLen"], apart := false, laid := [("unicode/utf8.acceptRanges", laid_unicode_utf8_acceptRanges), ("unicode/utf8.first", laid_unicode_utf8_first)], narrowed := true }
def FnExactAcceptsWordUptoSaid : Prop := fnExactAcceptsWordUptoRow.holds Tryd.pinned (OpenSpec.upto fnExactAcceptsWordSpec)

/-- 'laws.FnExactPartWhere', WHERE WHAT IT READS IS OF BULK AT MOST 1048576: true; the input reads as it did. -/
def fnExactPartWhereUptoRow : OpenClaim := { program := "ytagnikcnakdehaadoor", sum := "c9c0a4b5375301009c49717a93717c78b15ea3e3cfb38689065dc2cbc4c415c1", func := "loop.example/gamesonstructures/laws.FnExactPartWhere", spec := "fnExactPartWhere", inPlace := ["internal/bytealg.IndexByteString", "internal/bytealg.IndexString"], unfollowed := true, recurses := true, named := ["internal/bytealg.MaxLen", "unicode/utf8.first", "unicode/utf8.acceptRanges"], apart := false, laid := [("unicode/utf8.acceptRanges", laid_unicode_utf8_acceptRanges), ("unicode/utf8.first", laid_unicode_utf8_first)], narrowed := true }
def FnExactPartWhereUptoSaid : Prop := fnExactPartWhereUptoRow.holds Tryd.pinned (OpenSpec.upto fnExactPartWhereSpec)

end Rows
end Go.Proofs.YtagnikcnakdehaaDoor

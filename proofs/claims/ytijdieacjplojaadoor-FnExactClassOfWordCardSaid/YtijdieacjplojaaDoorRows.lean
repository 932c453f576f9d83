/-
  NARROWER THAN 'FOR EVERY INPUT', by the rows' own cells (each row's printed sentence says how): FnExactClassOfWord: laid · FnPowers: laid · FnWordClasses: laid · FnClassOfWord: laid · FnFormatNumbers: laid · FnConcatenation: laid · FnOrderReply: laid · FnOrderGames: laid · FnExactWordOf: laid · FnWordStructure: laid.
  DERIVED. THE GIVEN ROWS OF THIS SEAT. 10 by the template 'for every input the law returns true; each argument reads behind the call as it read before'; 0 by the template 'total and deterministic' (their statements: YtijdieacjplojaaDoorTotals.lean).
  GIVEN WITH THE SEED: the statements are not yours to turn. If you find one false, say at which input.
  Laid BY PROGRAM, IN A SANDBOX (cutbox-rows.mjs): the forced cells as the released guide's own fill.sh prints them over the translation deecacfd50bb112c… (all of the seat's roots in one cut). By AI agents, Wed Nov 11 2026. No macro, syntax, notation, axiom, sorry.
-/
import Derived.Test.YtijdieacjplojaaDoorChecked
import GoSem.PinnedTables
import GoSem.Claim
import GoSem.ClaimJoined
import GoSem.ClaimMapViews
import Derived.JoinedTies
import Derived.KernelRfl
namespace Go.Proofs.YtijdieacjplojaaDoor
/- THE CELL 'sum', in the pinned program and in every row, IS THE sha256 OF THE DUMP (.gsa) THAT YtijdieacjplojaaDoorProg.lean LOADS. Nothing in Lean hashes anything: it is a label: what it is worth is what the hold of that sum in a sandbox is worth. -/
noncomputable def Tryd.pinned : Pinned := { name := "ytijdieacjplojaadoor", sum := "deecacfd50bb112c212f473b226f3eee622c80723b51b74fbcc75cc8cc28e775", checked := Tryd.checked }
namespace Rows
def none {H : Type} : Left H := { results := [], args := [] }

/- WHAT THE LISTED PACKAGE-LEVEL VARIABLES READ AS WHEN THE CALL BEGINS. Each datum BY PROGRAM (the guide's laid-datum.mjs) off the statement by which the dump's own 'gosem.cut.vars' lays the variable. In a bare row this is a premise. The card (YtijdieacjplojaaDoorCards.lean) ties it to the program's text. -/
def laid_unicode_utf8_acceptRanges {H : Type} : DataW H := .agg [.agg [.lit (.int .u8 128), .lit (.int .u8 191)], .agg [.lit (.int .u8 160), .lit (.int .u8 191)], .agg [.lit (.int .u8 128), .lit (.int .u8 159)], .agg [.lit (.int .u8 144), .lit (.int .u8 191)], .agg [.lit (.int .u8 128), .lit (.int .u8 143)], .agg [.lit (.int .u8 0), .lit (.int .u8 0)], .agg [.lit (.int .u8 0), .lit (.int .u8 0)], .agg [.lit (.int .u8 0), .lit (.int .u8 0)], .agg [.lit (.int .u8 0), .lit (.int .u8 0)], .agg [.lit (.int .u8 0), .lit (.int .u8 0)], .agg [.lit (.int .u8 0), .lit (.int .u8 0)], .agg [.lit (.int .u8 0), .lit (.int .u8 0)], .agg [.lit (.int .u8 0), .lit (.int .u8 0)], .agg [.lit (.int .u8 0), .lit (.int .u8 0)], .agg [.lit (.int .u8 0), .lit (.int .u8 0)], .agg [.lit (.int .u8 0), .lit (.int .u8 0)]]
/-- One of Go's own tables, pinned by name: the form's constant. -/
def laid_unicode_utf8_first : DataW Unit := Go.Pinned.utf8First
def laid_math_bits_deBruijn32tab {H : Type} : DataW H := .agg [.lit (.int .u8 0), .lit (.int .u8 1), .lit (.int .u8 28), .lit (.int .u8 2), .lit (.int .u8 29), .lit (.int .u8 14), .lit (.int .u8 24), .lit (.int .u8 3), .lit (.int .u8 30), .lit (.int .u8 22), .lit (.int .u8 20), .lit (.int .u8 15), .lit (.int .u8 25), .lit (.int .u8 17), .lit (.int .u8 4), .lit (.int .u8 8), .lit (.int .u8 31), .lit (.int .u8 27), .lit (.int .u8 13), .lit (.int .u8 23), .lit (.int .u8 21), .lit (.int .u8 19), .lit (.int .u8 16), .lit (.int .u8 7), .lit (.int .u8 26), .lit (.int .u8 12), .lit (.int .u8 18), .lit (.int .u8 6), .lit (.int .u8 11), .lit (.int .u8 5), .lit (.int .u8 10), .lit (.int .u8 9)]
def laid_math_bits_deBruijn64tab {H : Type} : DataW H := .agg [.lit (.int .u8 0), .lit (.int .u8 1), .lit (.int .u8 56), .lit (.int .u8 2), .lit (.int .u8 57), .lit (.int .u8 49), .lit (.int .u8 28), .lit (.int .u8 3), .lit (.int .u8 61), .lit (.int .u8 58), .lit (.int .u8 42), .lit (.int .u8 50), .lit (.int .u8 38), .lit (.int .u8 29), .lit (.int .u8 17), .lit (.int .u8 4), .lit (.int .u8 62), .lit (.int .u8 47), .lit (.int .u8 59), .lit (.int .u8 36), .lit (.int .u8 45), .lit (.int .u8 43), .lit (.int .u8 51), .lit (.int .u8 22), .lit (.int .u8 53), .lit (.int .u8 39), .lit (.int .u8 33), .lit (.int .u8 30), .lit (.int .u8 24), .lit (.int .u8 18), .lit (.int .u8 12), .lit (.int .u8 5), .lit (.int .u8 63), .lit (.int .u8 55), .lit (.int .u8 48), .lit (.int .u8 27), .lit (.int .u8 60), .lit (.int .u8 41), .lit (.int .u8 37), .lit (.int .u8 16), .lit (.int .u8 46), .lit (.int .u8 35), .lit (.int .u8 44), .lit (.int .u8 21), .lit (.int .u8 52), .lit (.int .u8 32), .lit (.int .u8 23), .lit (.int .u8 11), .lit (.int .u8 54), .lit (.int .u8 26), .lit (.int .u8 40), .lit (.int .u8 15), .lit (.int .u8 34), .lit (.int .u8 20), .lit (.int .u8 31), .lit (.int .u8 10), .lit (.int .u8 25), .lit (.int .u8 14), .lit (.int .u8 19), .lit (.int .u8 9), .lit (.int .u8 13), .lit (.int .u8 8), .lit (.int .u8 7), .lit (.int .u8 6)]
def laid_internal_strconv_uint64pow10 {H : Type} : DataW H := .agg [.lit (.int .u64 1), .lit (.int .u64 10), .lit (.int .u64 100), .lit (.int .u64 1000), .lit (.int .u64 10000), .lit (.int .u64 100000), .lit (.int .u64 1000000), .lit (.int .u64 10000000), .lit (.int .u64 100000000), .lit (.int .u64 1000000000), .lit (.int .u64 10000000000), .lit (.int .u64 100000000000), .lit (.int .u64 1000000000000), .lit (.int .u64 10000000000000), .lit (.int .u64 100000000000000), .lit (.int .u64 1000000000000000), .lit (.int .u64 10000000000000000), .lit (.int .u64 100000000000000000), .lit (.int .u64 1000000000000000000), .lit (.int .u64 10000000000000000000)]

/-- 'laws.FnExactClassOfWord': WHATEVER THE INPUT: true; the input reads as it did. -/
def fnExactClassOfWordSpec : ChangeSpec := { name := "fnExactClassOfWord", fn := fun _ => fun
  | [d1, d2] => { results := [.lit (.bool true)], args := [d1, d2] }
  | _ => none }
def fnExactClassOfWordRow : OpenClaim := { program := "ytijdieacjplojaadoor", sum := "deecacfd50bb112c212f473b226f3eee622c80723b51b74fbcc75cc8cc28e775", func := "loop.example/gamesonstructures/laws.FnExactClassOfWord", spec := "fnExactClassOfWord", inPlace := ["internal/bytealg.IndexByteString", "internal/bytealg.IndexString"], unfollowed := true, recurses := true, named := ["unicode/utf8.first", "unicode/utf8.acceptRanges", "internal/bytealg.MaxLen"], apart := false, laid := [("unicode/utf8.acceptRanges", laid_unicode_utf8_acceptRanges), ("unicode/utf8.first", laid_unicode_utf8_first)] }
def FnExactClassOfWordSaid : Prop := fnExactClassOfWordRow.holds Tryd.pinned (OpenSpec.ofChange fnExactClassOfWordSpec)

/-- ITS FALSE NEIGHBOUR: 'it returns false'. Refute it at one input. -/
def fnExactClassOfWordWrong : ChangeSpec := { name := "fnExactClassOfWord", fn := fun _ => fun
  | [d1, d2] => { results := [.lit (.bool false)], args := [d1, d2] }
  | _ => none }
def FnExactClassOfWordWrongFalsely : Prop := fnExactClassOfWordRow.holds Tryd.pinned (OpenSpec.ofChange fnExactClassOfWordWrong)

/-- 'laws.FnPowers': WHATEVER THE INPUT: true; the input reads as it did. -/
def fnPowersSpec : ChangeSpec := { name := "fnPowers", fn := fun _ => fun
  | [d] => { results := [.lit (.bool true)], args := [d] }
  | _ => none }
def fnPowersRow : OpenClaim := { program := "ytijdieacjplojaadoor", sum := "deecacfd50bb112c212f473b226f3eee622c80723b51b74fbcc75cc8cc28e775", func := "loop.example/gamesonstructures/laws.FnPowers", spec := "fnPowers", inPlace := ["internal/bytealg.IndexByteString", "internal/bytealg.IndexString"], unfollowed := true, recurses := true, named := ["unicode/utf8.first", "unicode/utf8.acceptRanges", "internal/bytealg.MaxLen"], apart := false, laid := [("unicode/utf8.acceptRanges", laid_unicode_utf8_acceptRanges), ("unicode/utf8.first", laid_unicode_utf8_first)] }
def FnPowersSaid : Prop := fnPowersRow.holds Tryd.pinned (OpenSpec.ofChange fnPowersSpec)

/-- ITS FALSE NEIGHBOUR: 'it returns false'. Refute it at one input. -/
def fnPowersWrong : ChangeSpec := { name := "fnPowers", fn := fun _ => fun
  | [d] => { results := [.lit (.bool false)], args := [d] }
  | _ => none }
def FnPowersWrongFalsely : Prop := fnPowersRow.holds Tryd.pinned (OpenSpec.ofChange fnPowersWrong)

/-- 'laws.FnWordClasses': WHATEVER THE INPUT: true; the input reads as it did. -/
def fnWordClassesSpec : ChangeSpec := { name := "fnWordClasses", fn := fun _ => fun
  | [d1, d2] => { results := [.lit (.bool true)], args := [d1, d2] }
  | _ => none }
def fnWordClassesRow : OpenClaim := { program := "ytijdieacjplojaadoor", sum := "deecacfd50bb112c212f473b226f3eee622c80723b51b74fbcc75cc8cc28e775", func := "loop.example/gamesonstructures/laws.FnWordClasses", spec := "fnWordClasses", inPlace := ["internal/bytealg.IndexByteString", "internal/bytealg.IndexString"], unfollowed := true, recurses := true, named := ["unicode/utf8.first", "unicode/utf8.acceptRanges", "internal/bytealg.MaxLen"], apart := false, laid := [("unicode/utf8.acceptRanges", laid_unicode_utf8_acceptRanges), ("unicode/utf8.first", laid_unicode_utf8_first)] }
def FnWordClassesSaid : Prop := fnWordClassesRow.holds Tryd.pinned (OpenSpec.ofChange fnWordClassesSpec)

/-- ITS FALSE NEIGHBOUR: 'it returns false'. Refute it at one input. -/
def fnWordClassesWrong : ChangeSpec := { name := "fnWordClasses", fn := fun _ => fun
  | [d1, d2] => { results := [.lit (.bool false)], args := [d1, d2] }
  | _ => none }
def FnWordClassesWrongFalsely : Prop := fnWordClassesRow.holds Tryd.pinned (OpenSpec.ofChange fnWordClassesWrong)

/-- 'laws.FnClassOfWord': WHATEVER THE INPUT: true; the input reads as it did. -/
def fnClassOfWordSpec : ChangeSpec := { name := "fnClassOfWord", fn := fun _ => fun
  | [d1, d2] => { results := [.lit (.bool true)], args := [d1, d2] }
  | _ => none }
def fnClassOfWordRow : OpenClaim := { program := "ytijdieacjplojaadoor", sum := "deecacfd50bb112c212f473b226f3eee622c80723b51b74fbcc75cc8cc28e775", func := "loop.example/gamesonstructures/laws.FnClassOfWord", spec := "fnClassOfWord", inPlace := ["internal/bytealg.IndexByteString", "internal/bytealg.IndexString"], unfollowed := true, recurses := true, named := ["unicode/utf8.first", "unicode/utf8.acceptRanges", "internal/bytealg.MaxLen"], apart := false, laid := [("unicode/utf8.acceptRanges", laid_unicode_utf8_acceptRanges), ("unicode/utf8.first", laid_unicode_utf8_first)] }
def FnClassOfWordSaid : Prop := fnClassOfWordRow.holds Tryd.pinned (OpenSpec.ofChange fnClassOfWordSpec)

/-- ITS FALSE NEIGHBOUR: 'it returns false'. Refute it at one input. -/
def fnClassOfWordWrong : ChangeSpec := { name := "fnClassOfWord", fn := fun _ => fun
  | [d1, d2] => { results := [.lit (.bool false)], args := [d1, d2] }
  | _ => none }
def FnClassOfWordWrongFalsely : Prop := fnClassOfWordRow.holds Tryd.pinned (OpenSpec.ofChange fnClassOfWordWrong)

/-- 'laws.FnFormatNumbers': WHATEVER THE INPUT: true; the input reads as it did. -/
def fnFormatNumbersSpec : ChangeSpec := { name := "fnFormatNumbers", fn := fun _ => fun
  | [d] => { results := [.lit (.bool true)], args := [d] }
  | _ => none }
def fnFormatNumbersRow : OpenClaim := { program := "ytijdieacjplojaadoor", sum := "deecacfd50bb112c212f473b226f3eee622c80723b51b74fbcc75cc8cc28e775", func := "loop.example/gamesonstructures/laws.FnFormatNumbers", spec := "fnFormatNumbers", inPlace := ["internal/abi.NoEscape", "internal/bytealg.MakeNoZero"], recurses := true, named := ["internal/strconv.uint64pow10", "math/bits.deBruijn32tab", "math/bits.deBruijn64tab"], apart := false, laid := [("math/bits.deBruijn32tab", laid_math_bits_deBruijn32tab), ("math/bits.deBruijn64tab", laid_math_bits_deBruijn64tab), ("internal/strconv.uint64pow10", laid_internal_strconv_uint64pow10)] }
def FnFormatNumbersSaid : Prop := fnFormatNumbersRow.holds Tryd.pinned (OpenSpec.ofChange fnFormatNumbersSpec)

/-- ITS FALSE NEIGHBOUR: 'it returns false'. Refute it at one input. -/
def fnFormatNumbersWrong : ChangeSpec := { name := "fnFormatNumbers", fn := fun _ => fun
  | [d] => { results := [.lit (.bool false)], args := [d] }
  | _ => none }
def FnFormatNumbersWrongFalsely : Prop := fnFormatNumbersRow.holds Tryd.pinned (OpenSpec.ofChange fnFormatNumbersWrong)

/-- 'laws.FnConcatenation': WHATEVER THE INPUT: true; the input reads as it did. -/
def fnConcatenationSpec : ChangeSpec := { name := "fnConcatenation", fn := fun _ => fun
  | [d1, d2] => { results := [.lit (.bool true)], args := [d1, d2] }
  | _ => none }
def fnConcatenationRow : OpenClaim := { program := "ytijdieacjplojaadoor", sum := "deecacfd50bb112c212f473b226f3eee622c80723b51b74fbcc75cc8cc28e775", func := "loop.example/gamesonstructures/laws.FnConcatenation", spec := "fnConcatenation", inPlace := ["internal/bytealg.IndexByteString", "internal/bytealg.IndexString"], unfollowed := true, recurses := true, named := ["unicode/utf8.first", "unicode/utf8.acceptRanges", "internal/bytealg.MaxLen"], apart := false, laid := [("unicode/utf8.acceptRanges", laid_unicode_utf8_acceptRanges), ("unicode/utf8.first", laid_unicode_utf8_first)] }
def FnConcatenationSaid : Prop := fnConcatenationRow.holds Tryd.pinned (OpenSpec.ofChange fnConcatenationSpec)

/-- ITS FALSE NEIGHBOUR: 'it returns false'. Refute it at one input. -/
def fnConcatenationWrong : ChangeSpec := { name := "fnConcatenation", fn := fun _ => fun
  | [d1, d2] => { results := [.lit (.bool false)], args := [d1, d2] }
  | _ => none }
def FnConcatenationWrongFalsely : Prop := fnConcatenationRow.holds Tryd.pinned (OpenSpec.ofChange fnConcatenationWrong)

/-- 'laws.FnOrderReply': WHATEVER THE INPUT: true; the input reads as it did. -/
def fnOrderReplySpec : ChangeSpec := { name := "fnOrderReply", fn := fun _ => fun
  | [d] => { results := [.lit (.bool true)], args := [d] }
  | _ => none }
def fnOrderReplyRow : OpenClaim := { program := "ytijdieacjplojaadoor", sum := "deecacfd50bb112c212f473b226f3eee622c80723b51b74fbcc75cc8cc28e775", func := "loop.example/gamesonstructures/laws.FnOrderReply", spec := "fnOrderReply", inPlace := ["internal/abi.NoEscape", "internal/bytealg.MakeNoZero", "internal/bytealg.IndexByteString", "internal/bytealg.IndexString"], unfollowed := true, recurses := true, named := ["unicode/utf8.first", "unicode/utf8.acceptRanges", "internal/bytealg.MaxLen"], apart := false, laid := [("unicode/utf8.acceptRanges", laid_unicode_utf8_acceptRanges), ("unicode/utf8.first", laid_unicode_utf8_first)] }
def FnOrderReplySaid : Prop := fnOrderReplyRow.holds Tryd.pinned (OpenSpec.ofChange fnOrderReplySpec)

/-- ITS FALSE NEIGHBOUR: 'it returns false'. Refute it at one input. -/
def fnOrderReplyWrong : ChangeSpec := { name := "fnOrderReply", fn := fun _ => fun
  | [d] => { results := [.lit (.bool false)], args := [d] }
  | _ => none }
def FnOrderReplyWrongFalsely : Prop := fnOrderReplyRow.holds Tryd.pinned (OpenSpec.ofChange fnOrderReplyWrong)

/-- 'laws.FnOrderGames': WHATEVER THE INPUT: true; the input reads as it did. -/
def fnOrderGamesSpec : ChangeSpec := { name := "fnOrderGames", fn := fun _ => fun
  | [d1, d2] => { results := [.lit (.bool true)], args := [d1, d2] }
  | _ => none }
def fnOrderGamesRow : OpenClaim := { program := "ytijdieacjplojaadoor", sum := "deecacfd50bb112c212f473b226f3eee622c80723b51b74fbcc75cc8cc28e775", func := "loop.example/gamesonstructures/laws.FnOrderGames", spec := "fnOrderGames", inPlace := ["internal/abi.NoEscape", "internal/bytealg.MakeNoZero", "internal/bytealg.IndexByteString", "internal/bytealg.IndexString"], unfollowed := true, recurses := true, named := ["unicode/utf8.first", "unicode/utf8.acceptRanges", "internal/bytealg.MaxLen"], apart := false, laid := [("unicode/utf8.acceptRanges", laid_unicode_utf8_acceptRanges), ("unicode/utf8.first", laid_unicode_utf8_first)] }
def FnOrderGamesSaid : Prop := fnOrderGamesRow.holds Tryd.pinned (OpenSpec.ofChange fnOrderGamesSpec)

/-- ITS FALSE NEIGHBOUR: 'it returns false'. Refute it at one input. -/
def fnOrderGamesWrong : ChangeSpec := { name := "fnOrderGames", fn := fun _ => fun
  | [d1, d2] => { results := [.lit (.bool false)], args := [d1, d2] }
  | _ => none }
def FnOrderGamesWrongFalsely : Prop := fnOrderGamesRow.holds Tryd.pinned (OpenSpec.ofChange fnOrderGamesWrong)

/-- 'laws.FnExactWordOf': WHATEVER THE INPUT: true; the input reads as it did. -/
def fnExactWordOfSpec : ChangeSpec := { name := "fnExactWordOf", fn := fun _ => fun
  | [d] => { results := [.lit (.bool true)], args := [d] }
  | _ => none }
def fnExactWordOfRow : OpenClaim := { program := "ytijdieacjplojaadoor", sum := "deecacfd50bb112c212f473b226f3eee622c80723b51b74fbcc75cc8cc28e775", func := "loop.example/gamesonstructures/laws.FnExactWordOf", spec := "fnExactWordOf", inPlace := ["internal/bytealg.IndexByteString", "internal/bytealg.IndexString"], unfollowed := true, recurses := true, named := ["unicode/utf8.first", "unicode/utf8.acceptRanges", "internal/bytealg.MaxLen"], apart := false, laid := [("unicode/utf8.acceptRanges", laid_unicode_utf8_acceptRanges), ("unicode/utf8.first", laid_unicode_utf8_first)] }
def FnExactWordOfSaid : Prop := fnExactWordOfRow.holds Tryd.pinned (OpenSpec.ofChange fnExactWordOfSpec)

/-- ITS FALSE NEIGHBOUR: 'it returns false'. Refute it at one input. -/
def fnExactWordOfWrong : ChangeSpec := { name := "fnExactWordOf", fn := fun _ => fun
  | [d] => { results := [.lit (.bool false)], args := [d] }
  | _ => none }
def FnExactWordOfWrongFalsely : Prop := fnExactWordOfRow.holds Tryd.pinned (OpenSpec.ofChange fnExactWordOfWrong)

/-- 'laws.FnWordStructure': WHATEVER THE INPUT: true; the input reads as it did. -/
def fnWordStructureSpec : ChangeSpec := { name := "fnWordStructure", fn := fun _ => fun
  | [d] => { results := [.lit (.bool true)], args := [d] }
  | _ => none }
def fnWordStructureRow : OpenClaim := { program := "ytijdieacjplojaadoor", sum := "deecacfd50bb112c212f473b226f3eee622c80723b51b74fbcc75cc8cc28e775", func := "loop.example/gamesonstructures/laws.FnWordStructure", spec := "fnWordStructure", inPlace := ["internal/bytealg.IndexByteString", "internal/bytealg.IndexString"], unfollowed := true, recurses := true, named := ["unicode/utf8.first", "unicode/utf8.acceptRanges", "internal/bytealg.MaxLen"], apart := false, laid := [("unicode/utf8.acceptRanges", laid_unicode_utf8_acceptRanges), ("unicode/utf8.first", laid_unicode_utf8_first)] }
def FnWordStructureSaid : Prop := fnWordStructureRow.holds Tryd.pinned (OpenSpec.ofChange fnWordStructureSpec)

/-- ITS FALSE NEIGHBOUR: 'it returns false'. Refute it at one input. -/
def fnWordStructureWrong : ChangeSpec := { name := "fnWordStructure", fn := fun _ => fun
  | [d] => { results := [.lit (.bool false)], args := [d] }
  | _ => none }
def FnWordStructureWrongFalsely : Prop := fnWordStructureRow.holds Tryd.pinned (OpenSpec.ofChange fnWordStructureWrong)

/- THE SECOND FORM. 'bulk': how many values and letters a reading holds, each counted each time it is reached (what is shared counts as often as it is met; a slice's spare places count too). A statement '..UptoSaid' is the law's where the arguments, and the package variables that the reading takes, are together of bulk at most 1048576: NARROWER than '..Said'. Prove '..Said' where nothing that the law and all that it calls make is longer than what came in: it says more and counts as full. Else prove '..UptoSaid'. A law counts once. -/
mutual
def uptoBulk {H : Type} : DataW H → Nat
  | .lit (.string bytes) => bytes.length + 1
  | .lit _ => 1
  | .nil => 1
  | .ptr d => uptoBulk d + 1
  | .slice elems spare => uptoBulkAll elems + uptoBulkAll spare + 1
  | .agg parts => uptoBulkAll parts + 1
  | .iface _ d => uptoBulk d + 1
  | .map entries => uptoBulkEntries entries + 1
  | .held _ => 1
def uptoBulkAll {H : Type} : List (DataW H) → Nat
  | [] => 0
  | d :: r => uptoBulk d + uptoBulkAll r
def uptoBulkEntries {H : Type} : List (Lit × DataW H) → Nat
  | [] => 0
  | x :: r => uptoBulkEntry x + uptoBulkEntries r
def uptoBulkEntry {H : Type} : Lit × DataW H → Nat
  | (.string bytes, d) => bytes.length + uptoBulk d + 1
  | (_, d) => uptoBulk d + 1
 end
def uptoSmall : (H : Type) → List (DataW H) → Bool := fun _ ds => decide (uptoBulkAll ds ≤ 1048576)
def OpenSpec.upto (s : _root_.Go.ChangeSpec) : _root_.Go.OpenSpec := { _root_.Go.OpenSpec.ofChange s with cond := some uptoSmall }

/-- 'laws.FnExactClassOfWord', WHERE WHAT IT READS IS OF BULK AT MOST 1048576: true; the input reads as it did. -/
def fnExactClassOfWordUptoRow : OpenClaim := { program := "ytijdieacjplojaadoor", sum := "deecacfd50bb112c212f473b226f3eee622c80723b51b74fbcc75cc8cc28e775", func := "loop.example/gamesonstructures/laws.FnExactClassOfWord", spec := "fnExactClassOfWord", inPlace := ["internal/bytealg.IndexByteString", "internal/bytealg.IndexString"], unfollowed := true, recurses := true, named := ["unicode/utf8.first", "unicode/utf8.acceptRanges", "internal/bytealg.MaxLen"], apart := false, laid := [("unicode/utf8.acceptRanges", laid_unicode_utf8_acceptRanges), ("unicode/utf8.first", laid_unicode_utf8_first)], narrowed := true }
def FnExactClassOfWordUptoSaid : Prop := fnExactClassOfWordUptoRow.holds Tryd.pinned (OpenSpec.upto fnExactClassOfWordSpec)

/-- 'laws.FnPowers', WHERE WHAT IT READS IS OF BULK AT MOST 1048576: true; the input reads as it did. -/
def fnPowersUptoRow : OpenClaim := { program := "ytijdieacjplojaadoor", sum := "deecacfd50bb112c212f473b226f3eee622c80723b51b74fbcc75cc8cc28e775", func := "loop.example/gamesonstructures/laws.FnPowers", spec := "fnPowers", inPlace := ["internal/bytealg.IndexByteString", "internal/bytealg.IndexString"], unfollowed := true, recurses := true, named := ["unicode/utf8.first", "unicode/utf8.acceptRanges", "internal/bytealg.MaxLen"], apart := false, laid := [("unicode/utf8.acceptRanges", laid_unicode_utf8_acceptRanges), ("unicode/utf8.first", laid_unicode_utf8_first)], narrowed := true }
def FnPowersUptoSaid : Prop := fnPowersUptoRow.holds Tryd.pinned (OpenSpec.upto fnPowersSpec)

/-- 'laws.FnWordClasses', WHERE WHAT IT READS IS OF BULK AT MOST 1048576: true; the input reads as it did. -/
def fnWordClassesUptoRow : OpenClaim := { program := "ytijdieacjplojaadoor", sum := "deecacfd50bb112c212f473b226f3eee622c80723b51b74fbcc75cc8cc28e775", func := "loop.example/gamesonstructures/laws.FnWordClasses", spec := "fnWordClasses", inPlace := ["internal/bytealg.IndexByteString", "internal/bytealg.IndexString"], unfollowed := true, recurses := true, named := ["unicode/utf8.first", "unicode/utf8.acceptRanges", "internal/bytealg.MaxLen"], apart := false, laid := [("unicode/utf8.acceptRanges", laid_unicode_utf8_acceptRanges), ("unicode/utf8.first", laid_unicode_utf8_first)], narrowed := true }
def FnWordClassesUptoSaid : Prop := fnWordClassesUptoRow.holds Tryd.pinned (OpenSpec.upto fnWordClassesSpec)

/-- 'laws.FnClassOfWord', WHERE WHAT IT READS IS OF BULK AT MOST 1048576: true; the input reads as it did. -/
def fnClassOfWordUptoRow : OpenClaim := { program := "ytijdieacjplojaadoor", sum := "deecacfd50bb112c212f473b226f3eee622c80723b51b74fbcc75cc8cc28e775", func := "loop.example/gamesonstructures/laws.FnClassOfWord", spec := "fnClassOfWord", inPlace := ["internal/bytealg.IndexByteString", "internal/bytealg.IndexString"], unfollowed := true, recurses := true, named := ["unicode/utf8.first", "unicode/utf8.acceptRanges", "internal/bytealg.MaxLen"], apart := false, laid := [("unicode/utf8.acceptRanges", laid_unicode_utf8_acceptRanges), ("unicode/utf8.first", laid_unicode_utf8_first)], narrowed := true }
def FnClassOfWordUptoSaid : Prop := fnClassOfWordUptoRow.holds Tryd.pinned (OpenSpec.upto fnClassOfWordSpec)

/-- 'laws.FnFormatNumbers', WHERE WHAT IT READS IS OF BULK AT MOST 1048576: true; the input reads as it did. -/
def fnFormatNumbersUptoRow : OpenClaim := { program := "ytijdieacjplojaadoor", sum := "deecacfd50bb112c212f473b226f3eee622c80723b51b74fbcc75cc8cc28e775", func := "loop.example/gamesonstructures/laws.FnFormatNumbers", spec := "fnFormatNumbers", inPlace := ["internal/abi.NoEscape", "internal/bytealg.MakeNoZero"], recurses := true, named := ["internal/strconv.uint64pow10", "math/bits.deBruijn32tab", "math/bits.deBruijn64tab"], apart := false, laid := [("math/bits.deBruijn32tab", laid_math_bits_deBruijn32tab), ("math/bits.deBruijn64tab", laid_math_bits_deBruijn64tab), ("internal/strconv.uint64pow10", laid_internal_strconv_uint64pow10)], narrowed := true }
def FnFormatNumbersUptoSaid : Prop := fnFormatNumbersUptoRow.holds Tryd.pinned (OpenSpec.upto fnFormatNumbersSpec)

/-- 'laws.FnConcatenation', WHERE WHAT IT READS IS OF BULK AT MOST 1048576: true; the input reads as it did. -/
def fnConcatenationUptoRow : OpenClaim := { program := "ytijdieacjplojaadoor", sum := "deecacfd50bb112c212f473b226f3eee622c80723b51b74fbcc75cc8cc28e775", func := "loop.example/gamesonstructures/laws.FnConcatenation", spec := "fnConcatenation", inPlace := ["internal/bytealg.IndexByteString", "internal/bytealg.IndexString"], unfollowed := true, recurses := true, named := ["unicode/utf8.first", "unicode/utf8.acceptRanges", "internal/bytealg.MaxLen"], apart := false, laid := [("unicode/utf8.acceptRanges", laid_unicode_utf8_acceptRanges), ("unicode/utf8.first", laid_unicode_utf8_first)], narrowed := true }
def FnConcatenationUptoSaid : Prop := fnConcatenationUptoRow.holds Tryd.pinned (OpenSpec.upto fnConcatenationSpec)

/-- 'laws.FnOrderReply', WHERE WHAT IT READS IS OF BULK AT MOST 1048576: true; the input reads as it did. -/
def fnOrderReplyUptoRow : OpenClaim := { program := "ytijdieacjplojaadoor", sum := "deecacfd50bb112c212f473b226f3eee622c80723b51b74fbcc75cc8cc28e775", func := "loop.example/gamesonstructures/laws.FnOrderReply", spec := "fnOrderReply", inPlace := ["internal/abi.NoEscape", "internal/bytealg.MakeNoZero", "internal/bytealg.IndexByteString", "internal/bytealg.IndexString"], unfollowed := true, recurses := true, named := ["unicode/utf8.first", "unicode/utf8.acceptRanges", "internal/bytealg.MaxLen"], apart := false, laid := [("unicode/utf8.acceptRanges", laid_unicode_utf8_acceptRanges), ("unicode/utf8.first", laid_unicode_utf8_first)], narrowed := true }
def FnOrderReplyUptoSaid : Prop := fnOrderReplyUptoRow.holds Tryd.pinned (OpenSpec.upto fnOrderReplySpec)

/-- 'laws.FnOrderGames', WHERE WHAT IT READS IS OF BULK AT MOST 1048576: true; the input reads as it did. -/
def fnOrderGamesUptoRow : OpenClaim := { program := "ytijdieacjplojaadoor", sum := "deecacfd50bb112c212f473b226f3eee622c80723b51b74fbcc75cc8cc28e775", func := "loop.example/gamesonstructures/laws.FnOrderGames", spec := "fnOrderGames", inPlace := ["internal/abi.NoEscape", "internal/bytealg.MakeNoZero", "internal/bytealg.IndexByteString", "internal/bytealg.IndexString"], unfollowed := true, recurses := true, named := ["unicode/utf8.first", "unicode/utf8.acceptRanges", "internal/bytealg.MaxLen"], apart := false, laid := [("unicode/utf8.acceptRanges", laid_unicode_utf8_acceptRanges), ("unicode/utf8.first", laid_unicode_utf8_first)], narrowed := true }
def FnOrderGamesUptoSaid : Prop := fnOrderGamesUptoRow.holds Tryd.pinned (OpenSpec.upto fnOrderGamesSpec)

/-- 'laws.FnExactWordOf', WHERE WHAT IT READS IS OF BULK AT MOST 1048576: true; the input reads as it did. -/
def fnExactWordOfUptoRow : OpenClaim := { program := "ytijdieacjplojaadoor", sum := "deecacfd50bb112c212f473b226f3eee622c80723b51b74fbcc75cc8cc28e775", func := "loop.example/gamesonstructures/laws.FnExactWordOf", spec := "fnExactWordOf", inPlace := ["internal/bytealg.IndexByteString", "internal/bytealg.IndexString"], unfollowed := true, recurses := true, named := ["unicode/utf8.first", "unicode/utf8.acceptRanges", "internal/bytealg.MaxLen"], apart := false, laid := [("unicode/utf8.acceptRanges", laid_unicode_utf8_acceptRanges), ("unicode/utf8.first", laid_unicode_utf8_first)], narrowed := true }
def FnExactWordOfUptoSaid : Prop := fnExactWordOfUptoRow.holds Tryd.pinned (OpenSpec.upto fnExactWordOfSpec)

/-- 'laws.FnWordStructure', WHERE WHAT IT READS IS OF BULK AT MOST 1048576: true; the input reads as it did. -/
def fnWordStructureUptoRow : OpenClaim := { program := "ytijdieacjplojaadoor", sum := "deecacfd50bb112c212f473b226f3eee622c80723b51b74fbcc75cc8cc28e775", func := "loop.example/gamesonstructures/laws.FnWordStructure", spec := "fnWordStructure", inPlace := ["internal/bytealg.IndexByteString", "internal/bytealg.IndexString"], unfollowed := true, recurses := true, named := ["unicode/utf8.first", "unicode/utf8.acceptRanges", "internal/bytealg.MaxLen"], apart := false, laid := [("unicode/utf8.acceptRanges", laid_unicode_utf8_acceptRanges), ("unicode/utf8.first", laid_unicode_utf8_first)], narrowed := true }
def FnWordStructureUptoSaid : Prop := fnWordStructureUptoRow.holds Tryd.pinned (OpenSpec.upto fnWordStructureSpec)

end Rows
end Go.Proofs.YtijdieacjplojaaDoor

/-
  NARROWER THAN 'FOR EVERY INPUT', by the rows' own cells (each row's printed sentence says how): FnPullBack: laid · FnPartWhere: laid · FnOrderGames: laid · FnFormatNumbers: laid · FnPutVars: laid · FnExactWordOf: laid · FnWordStructure: laid · FnInterpret: laid · FnRelativize: laid · FnComposeViews: laid · FnWordOf: laid.
  DERIVED. THE GIVEN ROWS OF THIS SEAT. 11 by the template 'for every input the law returns true; each argument reads behind the call as it read before'; 0 by the template 'total and deterministic' (their statements: YtmabpmkkleelaaaDoorTotals.lean).
  GIVEN WITH THE SEED: the statements are not yours to turn. If you find one false, say at which input.
  Laid BY PROGRAM, IN A SANDBOX (cutbox-rows.mjs): the forced cells as the released guide's own fill.sh prints them over the translation d4f6a2511630c93f… (all of the seat's roots in one cut). By AI agents, Wed Nov 11 2026. No macro, syntax, notation, axiom, sorry.
-/
import Derived.Test.YtmabpmkkleelaaaDoorChecked
import GoSem.PinnedTables
import GoSem.Claim
import GoSem.ClaimJoined
import GoSem.ClaimMapViews
import Derived.JoinedTies
import Derived.KernelRfl
namespace Go.Proofs.YtmabpmkkleelaaaDoor
/- THE CELL 'sum', in the pinned program and in every row, IS THE sha256 OF THE DUMP (.gsa) THAT YtmabpmkkleelaaaDoorProg.lean LOADS. Nothing in Lean hashes anything: it is a label: what it is worth is what the hold of that sum in a sandbox is worth. -/
noncomputable def Tryd.pinned : Pinned := { name := "ytmabpmkkleelaaadoor", sum := "d4f6a2511630c93f8bd582d9eb4ebd2dde5a01f637f5d62105f5d86dec647c21", checked := Tryd.checked }
namespace Rows
def none {H : Type} : Left H := { results := [], args := [] }

/- WHAT THE LISTED PACKAGE-LEVEL VARIABLES READ AS WHEN THE CALL BEGINS. Each datum BY PROGRAM (the guide's laid-datum.mjs) off the statement by which the dump's own 'gosem.cut.vars' lays the variable. In a bare row this is a premise. The card (YtmabpmkkleelaaaDoorCards.lean) ties it to the program's text. -/
def laid_unicode_utf8_acceptRanges {H : Type} : DataW H := .agg [.agg [.lit (.int .u8 128), .lit (.int .u8 191)], .agg [.lit (.int .u8 160), .lit (.int .u8 191)], .agg [.lit (.int .u8 128), .lit (.int .u8 159)], .agg [.lit (.int .u8 144), .lit (.int .u8 191)], .agg [.lit (.int .u8 128), .lit (.int .u8 143)], .agg [.lit (.int .u8 0), .lit (.int .u8 0)], .agg [.lit (.int .u8 0), .lit (.int .u8 0)], .agg [.lit (.int .u8 0), .lit (.int .u8 0)], .agg [.lit (.int .u8 0), .lit (.int .u8 0)], .agg [.lit (.int .u8 0), .lit (.int .u8 0)], .agg [.lit (.int .u8 0), .lit (.int .u8 0)], .agg [.lit (.int .u8 0), .lit (.int .u8 0)], .agg [.lit (.int .u8 0), .lit (.int .u8 0)], .agg [.lit (.int .u8 0), .lit (.int .u8 0)], .agg [.lit (.int .u8 0), .lit (.int .u8 0)], .agg [.lit (.int .u8 0), .lit (.int .u8 0)]]
/-- One of Go's own tables, pinned by name: the form's constant. -/
def laid_unicode_utf8_first : DataW Unit := Go.Pinned.utf8First
def laid_math_bits_deBruijn32tab {H : Type} : DataW H := .agg [.lit (.int .u8 0), .lit (.int .u8 1), .lit (.int .u8 28), .lit (.int .u8 2), .lit (.int .u8 29), .lit (.int .u8 14), .lit (.int .u8 24), .lit (.int .u8 3), .lit (.int .u8 30), .lit (.int .u8 22), .lit (.int .u8 20), .lit (.int .u8 15), .lit (.int .u8 25), .lit (.int .u8 17), .lit (.int .u8 4), .lit (.int .u8 8), .lit (.int .u8 31), .lit (.int .u8 27), .lit (.int .u8 13), .lit (.int .u8 23), .lit (.int .u8 21), .lit (.int .u8 19), .lit (.int .u8 16), .lit (.int .u8 7), .lit (.int .u8 26), .lit (.int .u8 12), .lit (.int .u8 18), .lit (.int .u8 6), .lit (.int .u8 11), .lit (.int .u8 5), .lit (.int .u8 10), .lit (.int .u8 9)]
def laid_math_bits_deBruijn64tab {H : Type} : DataW H := .agg [.lit (.int .u8 0), .lit (.int .u8 1), .lit (.int .u8 56), .lit (.int .u8 2), .lit (.int .u8 57), .lit (.int .u8 49), .lit (.int .u8 28), .lit (.int .u8 3), .lit (.int .u8 61), .lit (.int .u8 58), .lit (.int .u8 42), .lit (.int .u8 50), .lit (.int .u8 38), .lit (.int .u8 29), .lit (.int .u8 17), .lit (.int .u8 4), .lit (.int .u8 62), .lit (.int .u8 47), .lit (.int .u8 59), .lit (.int .u8 36), .lit (.int .u8 45), .lit (.int .u8 43), .lit (.int .u8 51), .lit (.int .u8 22), .lit (.int .u8 53), .lit (.int .u8 39), .lit (.int .u8 33), .lit (.int .u8 30), .lit (.int .u8 24), .lit (.int .u8 18), .lit (.int .u8 12), .lit (.int .u8 5), .lit (.int .u8 63), .lit (.int .u8 55), .lit (.int .u8 48), .lit (.int .u8 27), .lit (.int .u8 60), .lit (.int .u8 41), .lit (.int .u8 37), .lit (.int .u8 16), .lit (.int .u8 46), .lit (.int .u8 35), .lit (.int .u8 44), .lit (.int .u8 21), .lit (.int .u8 52), .lit (.int .u8 32), .lit (.int .u8 23), .lit (.int .u8 11), .lit (.int .u8 54), .lit (.int .u8 26), .lit (.int .u8 40), .lit (.int .u8 15), .lit (.int .u8 34), .lit (.int .u8 20), .lit (.int .u8 31), .lit (.int .u8 10), .lit (.int .u8 25), .lit (.int .u8 14), .lit (.int .u8 19), .lit (.int .u8 9), .lit (.int .u8 13), .lit (.int .u8 8), .lit (.int .u8 7), .lit (.int .u8 6)]
def laid_internal_strconv_uint64pow10 {H : Type} : DataW H := .agg [.lit (.int .u64 1), .lit (.int .u64 10), .lit (.int .u64 100), .lit (.int .u64 1000), .lit (.int .u64 10000), .lit (.int .u64 100000), .lit (.int .u64 1000000), .lit (.int .u64 10000000), .lit (.int .u64 100000000), .lit (.int .u64 1000000000), .lit (.int .u64 10000000000), .lit (.int .u64 100000000000), .lit (.int .u64 1000000000000), .lit (.int .u64 10000000000000), .lit (.int .u64 100000000000000), .lit (.int .u64 1000000000000000), .lit (.int .u64 10000000000000000), .lit (.int .u64 100000000000000000), .lit (.int .u64 1000000000000000000), .lit (.int .u64 10000000000000000000)]

/-- 'laws.FnPullBack': WHATEVER THE INPUT: true; the input reads as it did. -/
def fnPullBackSpec : ChangeSpec := { name := "fnPullBack", fn := fun _ => fun
  | [d1, d2] => { results := [.lit (.bool true)], args := [d1, d2] }
  | _ => none }
def fnPullBackRow : OpenClaim := { program := "ytmabpmkkleelaaadoor", sum := "d4f6a2511630c93f8bd582d9eb4ebd2dde5a01f637f5d62105f5d86dec647c21", func := "loop.example/gamesonstructures/laws.FnPullBack", spec := "fnPullBack", inPlace := ["internal/bytealg.IndexByteString", "internal/bytealg.IndexString"], unfollowed := true, recurses := true, named := ["internal/bytealg.MaxLen", "unicode/utf8.first", "unicode/utf8.acceptRanges"], apart := false, laid := [("unicode/utf8.acceptRanges", laid_unicode_utf8_acceptRanges), ("unicode/utf8.first", laid_unicode_utf8_first)] }
def FnPullBackSaid : Prop := fnPullBackRow.holds Tryd.pinned (OpenSpec.ofChange fnPullBackSpec)

/-- ITS FALSE NEIGHBOUR: 'it returns false'. Refute it at one input. -/
def fnPullBackWrong : ChangeSpec := { name := "fnPullBack", fn := fun _ => fun
  | [d1, d2] => { results := [.lit (.bool false)], args := [d1, d2] }
  | _ => none }
def FnPullBackWrongFalsely : Prop := fnPullBackRow.holds Tryd.pinned (OpenSpec.ofChange fnPullBackWrong)

/-- 'laws.FnPartWhere': WHATEVER THE INPUT: true; the input reads as it did. -/
def fnPartWhereSpec : ChangeSpec := { name := "fnPartWhere", fn := fun _ => fun
  | [d] => { results := [.lit (.bool true)], args := [d] }
  | _ => none }
def fnPartWhereRow : OpenClaim := { program := "ytmabpmkkleelaaadoor", sum := "d4f6a2511630c93f8bd582d9eb4ebd2dde5a01f637f5d62105f5d86dec647c21", func := "loop.example/gamesonstructures/laws.FnPartWhere", spec := "fnPartWhere", inPlace := ["internal/bytealg.IndexByteString", "internal/bytealg.IndexString"], unfollowed := true, recurses := true, named := ["internal/bytealg.MaxLen", "unicode/utf8.first", "unicode/utf8.acceptRanges"], apart := false, laid := [("unicode/utf8.acceptRanges", laid_unicode_utf8_acceptRanges), ("unicode/utf8.first", laid_unicode_utf8_first)] }
def FnPartWhereSaid : Prop := fnPartWhereRow.holds Tryd.pinned (OpenSpec.ofChange fnPartWhereSpec)

/-- ITS FALSE NEIGHBOUR: 'it returns false'. Refute it at one input. -/
def fnPartWhereWrong : ChangeSpec := { name := "fnPartWhere", fn := fun _ => fun
  | [d] => { results := [.lit (.bool false)], args := [d] }
  | _ => none }
def FnPartWhereWrongFalsely : Prop := fnPartWhereRow.holds Tryd.pinned (OpenSpec.ofChange fnPartWhereWrong)

/-- 'laws.FnOrderGames': WHATEVER THE INPUT: true; the input reads as it did. -/
def fnOrderGamesSpec : ChangeSpec := { name := "fnOrderGames", fn := fun _ => fun
  | [d1, d2] => { results := [.lit (.bool true)], args := [d1, d2] }
  | _ => none }
def fnOrderGamesRow : OpenClaim := { program := "ytmabpmkkleelaaadoor", sum := "d4f6a2511630c93f8bd582d9eb4ebd2dde5a01f637f5d62105f5d86dec647c21", func := "loop.example/gamesonstructures/laws.FnOrderGames", spec := "fnOrderGames", inPlace := ["internal/abi.NoEscape", "internal/bytealg.MakeNoZero", "internal/bytealg.IndexByteString", "internal/bytealg.IndexString"], unfollowed := true, recurses := true, named := ["unicode/utf8.first", "unicode/utf8.acceptRanges", "internal/bytealg.MaxLen"], apart := false, laid := [("unicode/utf8.acceptRanges", laid_unicode_utf8_acceptRanges), ("unicode/utf8.first", laid_unicode_utf8_first)] }
def FnOrderGamesSaid : Prop := fnOrderGamesRow.holds Tryd.pinned (OpenSpec.ofChange fnOrderGamesSpec)

/-- ITS FALSE NEIGHBOUR: 'it returns false'. Refute it at one input. -/
def fnOrderGamesWrong : ChangeSpec := { name := "fnOrderGames", fn := fun _ => fun
  | [d1, d2] => { results := [.lit (.bool false)], args := [d1, d2] }
  | _ => none }
def FnOrderGamesWrongFalsely : Prop := fnOrderGamesRow.holds Tryd.pinned (OpenSpec.ofChange fnOrderGamesWrong)

/-- 'laws.FnFormatNumbers': WHATEVER THE INPUT: true; the input reads as it did. -/
def fnFormatNumbersSpec : ChangeSpec := { name := "fnFormatNumbers", fn := fun _ => fun
  | [d] => { results := [.lit (.bool true)], args := [d] }
  | _ => none }
def fnFormatNumbersRow : OpenClaim := { program := "ytmabpmkkleelaaadoor", sum := "d4f6a2511630c93f8bd582d9eb4ebd2dde5a01f637f5d62105f5d86dec647c21", func := "loop.example/gamesonstructures/laws.FnFormatNumbers", spec := "fnFormatNumbers", inPlace := ["internal/abi.NoEscape", "internal/bytealg.MakeNoZero"], recurses := true, named := ["internal/strconv.uint64pow10", "math/bits.deBruijn32tab", "math/bits.deBruijn64tab"], apart := false, laid := [("math/bits.deBruijn32tab", laid_math_bits_deBruijn32tab), ("math/bits.deBruijn64tab", laid_math_bits_deBruijn64tab), ("internal/strconv.uint64pow10", laid_internal_strconv_uint64pow10)] }
def FnFormatNumbersSaid : Prop := fnFormatNumbersRow.holds Tryd.pinned (OpenSpec.ofChange fnFormatNumbersSpec)

/-- ITS FALSE NEIGHBOUR: 'it returns false'. Refute it at one input. -/
def fnFormatNumbersWrong : ChangeSpec := { name := "fnFormatNumbers", fn := fun _ => fun
  | [d] => { results := [.lit (.bool false)], args := [d] }
  | _ => none }
def FnFormatNumbersWrongFalsely : Prop := fnFormatNumbersRow.holds Tryd.pinned (OpenSpec.ofChange fnFormatNumbersWrong)

/-- 'laws.FnPutVars': WHATEVER THE INPUT: true; the input reads as it did. -/
def fnPutVarsSpec : ChangeSpec := { name := "fnPutVars", fn := fun _ => fun
  | [d1, d2] => { results := [.lit (.bool true)], args := [d1, d2] }
  | _ => none }
def fnPutVarsRow : OpenClaim := { program := "ytmabpmkkleelaaadoor", sum := "d4f6a2511630c93f8bd582d9eb4ebd2dde5a01f637f5d62105f5d86dec647c21", func := "loop.example/gamesonstructures/laws.FnPutVars", spec := "fnPutVars", inPlace := ["internal/bytealg.IndexByteString", "internal/bytealg.IndexString"], unfollowed := true, recurses := true, named := ["internal/bytealg.MaxLen", "unicode/utf8.first", "unicode/utf8.acceptRanges"], apart := false, laid := [("unicode/utf8.acceptRanges", laid_unicode_utf8_acceptRanges), ("unicode/utf8.first", laid_unicode_utf8_first)] }
def FnPutVarsSaid : Prop := fnPutVarsRow.holds Tryd.pinned (OpenSpec.ofChange fnPutVarsSpec)

/-- ITS FALSE NEIGHBOUR: 'it returns false'. Refute it at one input. -/
def fnPutVarsWrong : ChangeSpec := { name := "fnPutVars", fn := fun _ => fun
  | [d1, d2] => { results := [.lit (.bool false)], args := [d1, d2] }
  | _ => none }
def FnPutVarsWrongFalsely : Prop := fnPutVarsRow.holds Tryd.pinned (OpenSpec.ofChange fnPutVarsWrong)

/-- 'laws.FnExactWordOf': WHATEVER THE INPUT: true; the input reads as it did. -/
def fnExactWordOfSpec : ChangeSpec := { name := "fnExactWordOf", fn := fun _ => fun
  | [d] => { results := [.lit (.bool true)], args := [d] }
  | _ => none }
def fnExactWordOfRow : OpenClaim := { program := "ytmabpmkkleelaaadoor", sum := "d4f6a2511630c93f8bd582d9eb4ebd2dde5a01f637f5d62105f5d86dec647c21", func := "loop.example/gamesonstructures/laws.FnExactWordOf", spec := "fnExactWordOf", inPlace := ["internal/bytealg.IndexByteString", "internal/bytealg.IndexString"], unfollowed := true, recurses := true, named := ["unicode/utf8.first", "unicode/utf8.acceptRanges", "internal/bytealg.MaxLen"], apart := false, laid := [("unicode/utf8.acceptRanges", laid_unicode_utf8_acceptRanges), ("unicode/utf8.first", laid_unicode_utf8_first)] }
def FnExactWordOfSaid : Prop := fnExactWordOfRow.holds Tryd.pinned (OpenSpec.ofChange fnExactWordOfSpec)

/-- ITS FALSE NEIGHBOUR: 'it returns false'. Refute it at one input. -/
def fnExactWordOfWrong : ChangeSpec := { name := "fnExactWordOf", fn := fun _ => fun
  | [d] => { results := [.lit (.bool false)], args := [d] }
  | _ => none }
def FnExactWordOfWrongFalsely : Prop := fnExactWordOfRow.holds Tryd.pinned (OpenSpec.ofChange fnExactWordOfWrong)

/-- 'laws.FnWordStructure': WHATEVER THE INPUT: true; the input reads as it did. -/
def fnWordStructureSpec : ChangeSpec := { name := "fnWordStructure", fn := fun _ => fun
  | [d] => { results := [.lit (.bool true)], args := [d] }
  | _ => none }
def fnWordStructureRow : OpenClaim := { program := "ytmabpmkkleelaaadoor", sum := "d4f6a2511630c93f8bd582d9eb4ebd2dde5a01f637f5d62105f5d86dec647c21", func := "loop.example/gamesonstructures/laws.FnWordStructure", spec := "fnWordStructure", inPlace := ["internal/bytealg.IndexByteString", "internal/bytealg.IndexString"], unfollowed := true, recurses := true, named := ["unicode/utf8.first", "unicode/utf8.acceptRanges", "internal/bytealg.MaxLen"], apart := false, laid := [("unicode/utf8.acceptRanges", laid_unicode_utf8_acceptRanges), ("unicode/utf8.first", laid_unicode_utf8_first)] }
def FnWordStructureSaid : Prop := fnWordStructureRow.holds Tryd.pinned (OpenSpec.ofChange fnWordStructureSpec)

/-- ITS FALSE NEIGHBOUR: 'it returns false'. Refute it at one input. -/
def fnWordStructureWrong : ChangeSpec := { name := "fnWordStructure", fn := fun _ => fun
  | [d] => { results := [.lit (.bool false)], args := [d] }
  | _ => none }
def FnWordStructureWrongFalsely : Prop := fnWordStructureRow.holds Tryd.pinned (OpenSpec.ofChange fnWordStructureWrong)

/-- 'laws.FnInterpret': WHATEVER THE INPUT: true; the input reads as it did. -/
def fnInterpretSpec : ChangeSpec := { name := "fnInterpret", fn := fun _ => fun
  | [d] => { results := [.lit (.bool true)], args := [d] }
  | _ => none }
def fnInterpretRow : OpenClaim := { program := "ytmabpmkkleelaaadoor", sum := "d4f6a2511630c93f8bd582d9eb4ebd2dde5a01f637f5d62105f5d86dec647c21", func := "loop.example/gamesonstructures/laws.FnInterpret", spec := "fnInterpret", inPlace := ["internal/bytealg.IndexByteString", "internal/bytealg.IndexString"], unfollowed := true, recurses := true, named := ["internal/bytealg.MaxLen", "unicode/utf8.first", "unicode/utf8.acceptRanges"], apart := false, laid := [("unicode/utf8.acceptRanges", laid_unicode_utf8_acceptRanges), ("unicode/utf8.first", laid_unicode_utf8_first)] }
def FnInterpretSaid : Prop := fnInterpretRow.holds Tryd.pinned (OpenSpec.ofChange fnInterpretSpec)

/-- ITS FALSE NEIGHBOUR: 'it returns false'. Refute it at one input. -/
def fnInterpretWrong : ChangeSpec := { name := "fnInterpret", fn := fun _ => fun
  | [d] => { results := [.lit (.bool false)], args := [d] }
  | _ => none }
def FnInterpretWrongFalsely : Prop := fnInterpretRow.holds Tryd.pinned (OpenSpec.ofChange fnInterpretWrong)

/-- 'laws.FnRelativize': WHATEVER THE INPUT: true; the input reads as it did. -/
def fnRelativizeSpec : ChangeSpec := { name := "fnRelativize", fn := fun _ => fun
  | [d1, d2] => { results := [.lit (.bool true)], args := [d1, d2] }
  | _ => none }
def fnRelativizeRow : OpenClaim := { program := "ytmabpmkkleelaaadoor", sum := "d4f6a2511630c93f8bd582d9eb4ebd2dde5a01f637f5d62105f5d86dec647c21", func := "loop.example/gamesonstructures/laws.FnRelativize", spec := "fnRelativize", inPlace := ["internal/bytealg.IndexByteString", "internal/bytealg.IndexString"], unfollowed := true, recurses := true, named := ["internal/bytealg.MaxLen", "unicode/utf8.first", "unicode/utf8.acceptRanges"], apart := false, laid := [("unicode/utf8.acceptRanges", laid_unicode_utf8_acceptRanges), ("unicode/utf8.first", laid_unicode_utf8_first)] }
def FnRelativizeSaid : Prop := fnRelativizeRow.holds Tryd.pinned (OpenSpec.ofChange fnRelativizeSpec)

/-- ITS FALSE NEIGHBOUR: 'it returns false'. Refute it at one input. -/
def fnRelativizeWrong : ChangeSpec := { name := "fnRelativize", fn := fun _ => fun
  | [d1, d2] => { results := [.lit (.bool false)], args := [d1, d2] }
  | _ => none }
def FnRelativizeWrongFalsely : Prop := fnRelativizeRow.holds Tryd.pinned (OpenSpec.ofChange fnRelativizeWrong)

/-- 'laws.FnComposeViews': WHATEVER THE INPUT: true; the input reads as it did. -/
def fnComposeViewsSpec : ChangeSpec := { name := "fnComposeViews", fn := fun _ => fun
  | [d1, d2] => { results := [.lit (.bool true)], args := [d1, d2] }
  | _ => none }
def fnComposeViewsRow : OpenClaim := { program := "ytmabpmkkleelaaadoor", sum := "d4f6a2511630c93f8bd582d9eb4ebd2dde5a01f637f5d62105f5d86dec647c21", func := "loop.example/gamesonstructures/laws.FnComposeViews", spec := "fnComposeViews", inPlace := ["internal/bytealg.IndexByteString", "internal/bytealg.IndexString"], unfollowed := true, recurses := true, named := ["internal/bytealg.MaxLen", "unicode/utf8.first", "unicode/utf8.acceptRanges"], apart := false, laid := [("unicode/utf8.acceptRanges", laid_unicode_utf8_acceptRanges), ("unicode/utf8.first", laid_unicode_utf8_first)] }
def FnComposeViewsSaid : Prop := fnComposeViewsRow.holds Tryd.pinned (OpenSpec.ofChange fnComposeViewsSpec)

/-- ITS FALSE NEIGHBOUR: 'it returns false'. Refute it at one input. -/
def fnComposeViewsWrong : ChangeSpec := { name := "fnComposeViews", fn := fun _ => fun
  | [d1, d2] => { results := [.lit (.bool false)], args := [d1, d2] }
  | _ => none }
def FnComposeViewsWrongFalsely : Prop := fnComposeViewsRow.holds Tryd.pinned (OpenSpec.ofChange fnComposeViewsWrong)

/-- 'laws.FnWordOf': WHATEVER THE INPUT: true; the input reads as it did. -/
def fnWordOfSpec : ChangeSpec := { name := "fnWordOf", fn := fun _ => fun
  | [d] => { results := [.lit (.bool true)], args := [d] }
  | _ => none }
def fnWordOfRow : OpenClaim := { program := "ytmabpmkkleelaaadoor", sum := "d4f6a2511630c93f8bd582d9eb4ebd2dde5a01f637f5d62105f5d86dec647c21", func := "loop.example/gamesonstructures/laws.FnWordOf", spec := "fnWordOf", inPlace := ["internal/bytealg.IndexByteString", "internal/bytealg.IndexString"], unfollowed := true, recurses := true, named := ["unicode/utf8.first", "unicode/utf8.acceptRanges", "internal/bytealg.MaxLen"], apart := false, laid := [("unicode/utf8.acceptRanges", laid_unicode_utf8_acceptRanges), ("unicode/utf8.first", laid_unicode_utf8_first)] }
def FnWordOfSaid : Prop := fnWordOfRow.holds Tryd.pinned (OpenSpec.ofChange fnWordOfSpec)

/-- ITS FALSE NEIGHBOUR: 'it returns false'. Refute it at one input. -/
def fnWordOfWrong : ChangeSpec := { name := "fnWordOf", fn := fun _ => fun
  | [d] => { results := [.lit (.bool false)], args := [d] }
  | _ => none }
def FnWordOfWrongFalsely : Prop := fnWordOfRow.holds Tryd.pinned (OpenSpec.ofChange fnWordOfWrong)

/- THE SECOND FORM. 'bulk': how many values and letters a reading holds, each counted each time it is reached (what is shared counts as often as it is met; a slice's spare places count too). A statement '..UptoSaid' is the law's where the arguments, and the package variables that the reading takes, are together of bulk at most 1048576: NARROWER than '..Said'. Prove '..Said' where nothing that the law and all that it calls make is longer than what came in: it says more and counts as full. Else prove '..UptoSaid'. A law counts once. -/
mutual
def uptoBulk {H : Type} : DataW H → Nat
  | .lit (.string bytes) => bytes.length + 1
  | .lit _ => 1
  | .nil => 1
  | .ptr d => uptoBulk d + 1
  | .slice elems spare => uptoBulkAll elems + uptoBulkAll spare + 1
  | .agg parts => uptoBulkAll parts + 1
  | .iface _ d => uptoBulk d + 1
  | .map entries => uptoBulkEntries entries + 1
  | .held _ => 1
def uptoBulkAll {H : Type} : List (DataW H) → Nat
  | [] => 0
  | d :: r => uptoBulk d + uptoBulkAll r
def uptoBulkEntries {H : Type} : List (Lit × DataW H) → Nat
  | [] => 0
  | x :: r => uptoBulkEntry x + uptoBulkEntries r
def uptoBulkEntry {H : Type} : Lit × DataW H → Nat
  | (.string bytes, d) => bytes.length + uptoBulk d + 1
  | (_, d) => uptoBulk d + 1
 end
def uptoSmall : (H : Type) → List (DataW H) → Bool := fun _ ds => decide (uptoBulkAll ds ≤ 1048576)
def OpenSpec.upto (s : _root_.Go.ChangeSpec) : _root_.Go.OpenSpec := { _root_.Go.OpenSpec.ofChange s with cond := some uptoSmall }

/-- 'laws.FnPullBack', WHERE WHAT IT READS IS OF BULK AT MOST 1048576: true; the input reads as it did. -/
def fnPullBackUptoRow : OpenClaim := { program := "ytmabpmkkleelaaadoor", sum := "d4f6a2511630c93f8bd582d9eb4ebd2dde5a01f637f5d62105f5d86dec647c21", func := "loop.example/gamesonstructures/laws.FnPullBack", spec := "fnPullBack", inPlace := ["internal/bytealg.IndexByteString", "internal/bytealg.IndexString"], unfollowed := true, recurses := true, named := ["internal/bytealg.MaxLen", "unicode/utf8.first", "unicode/utf8.acceptRanges"], apart := false, laid := [("unicode/utf8.acceptRanges", laid_unicode_utf8_acceptRanges), ("unicode/utf8.first", laid_unicode_utf8_first)], narrowed := true }
def FnPullBackUptoSaid : Prop := fnPullBackUptoRow.holds Tryd.pinned (OpenSpec.upto fnPullBackSpec)

/-- 'laws.FnPartWhere', WHERE WHAT IT READS IS OF BULK AT MOST 1048576: true; the input reads as it did. -/
def fnPartWhereUptoRow : OpenClaim := { program := "ytmabpmkkleelaaadoor", sum := "d4f6a2511630c93f8bd582d9eb4ebd2dde5a01f637f5d62105f5d86dec647c21", func := "loop.example/gamesonstructures/laws.FnPartWhere", spec := "fnPartWhere", inPlace := ["internal/bytealg.IndexByteString", "internal/bytealg.IndexString"], unfollowed := true, recurses := true, named := ["internal/bytealg.MaxLen", "unicode/utf8.first", "unicode/utf8.acceptRanges"], apart := false, laid := [("unicode/utf8.acceptRanges", laid_unicode_utf8_acceptRanges), ("unicode/utf8.first", laid_unicode_utf8_first)], narrowed := true }
def FnPartWhereUptoSaid : Prop := fnPartWhereUptoRow.holds Tryd.pinned (OpenSpec.upto fnPartWhereSpec)

/-- 'laws.FnOrderGames', WHERE WHAT IT READS IS OF BULK AT MOST 1048576: true; the input reads as it did. -/
def fnOrderGamesUptoRow : OpenClaim := { program := "ytmabpmkkleelaaadoor", sum := "d4f6a2511630c93f8bd582d9eb4ebd2dde5a01f637f5d62105f5d86dec647c21", func := "loop.example/gamesonstructures/laws.FnOrderGames", spec := "fnOrderGames", inPlace := ["internal/abi.NoEscape", "internal/bytealg.MakeNoZero", "internal/bytealg.IndexByteString", "internal/bytealg.IndexString"], unfollowed := true, recurses := true, named := ["unicode/utf8.first", "unicode/utf8.acceptRanges", "internal/bytealg.MaxLen"], apart := false, laid := [("unicode/utf8.acceptRanges", laid_unicode_utf8_acceptRanges), ("unicode/utf8.first", laid_unicode_utf8_first)], narrowed := true }
def FnOrderGamesUptoSaid : Prop := fnOrderGamesUptoRow.holds Tryd.pinned (OpenSpec.upto fnOrderGamesSpec)

/-- 'laws.FnFormatNumbers', WHERE WHAT IT READS IS OF BULK AT MOST 1048576: true; the input reads as it did. -/
def fnFormatNumbersUptoRow : OpenClaim := { program := "ytmabpmkkleelaaadoor", sum := "d4f6a2511630c93f8bd582d9eb4ebd2dde5a01f637f5d62105f5d86dec647c21", func := "loop.example/gamesonstructures/laws.FnFormatNumbers", spec := "fnFormatNumbers", inPlace := ["internal/abi.NoEscape", "internal/bytealg.MakeNoZero"], recurses := true, named := ["internal/strconv.uint64pow10", "math/bits.deBruijn32tab", "math/bits.deBruijn64tab"], apart := false, laid := [("math/bits.deBruijn32tab", laid_math_bits_deBruijn32tab), ("math/bits.deBruijn64tab", laid_math_bits_deBruijn64tab), ("internal/strconv.uint64pow10", laid_internal_strconv_uint64pow10)], narrowed := true }
def FnFormatNumbersUptoSaid : Prop := fnFormatNumbersUptoRow.holds Tryd.pinned (OpenSpec.upto fnFormatNumbersSpec)

/-- 'laws.FnPutVars', WHERE WHAT IT READS IS OF BULK AT MOST 1048576: true; the input reads as it did. -/
def fnPutVarsUptoRow : OpenClaim := { program := "ytmabpmkkleelaaadoor", sum := "d4f6a2511630c93f8bd582d9eb4ebd2dde5a01f637f5d62105f5d86dec647c21", func := "loop.example/gamesonstructures/laws.FnPutVars", spec := "fnPutVars", inPlace := ["internal/bytealg.IndexByteString", "internal/bytealg.IndexString"], unfollowed := true, recurses := true, named := ["internal/bytealg.MaxLen", "unicode/utf8.first", "unicode/utf8.acceptRanges"], apart := false, laid := [("unicode/utf8.acceptRanges", laid_unicode_utf8_acceptRanges), ("unicode/utf8.first", laid_unicode_utf8_first)], narrowed := true }
def FnPutVarsUptoSaid : Prop := fnPutVarsUptoRow.holds Tryd.pinned (OpenSpec.upto fnPutVarsSpec)

/-- 'laws.FnExactWordOf', WHERE WHAT IT READS IS OF BULK AT MOST 1048576: true; the input reads as it did. -/
def fnExactWordOfUptoRow : OpenClaim := { program := "ytmabpmkkleelaaadoor", sum := "d4f6a2511630c93f8bd582d9eb4ebd2dde5a01f637f5d62105f5d86dec647c21", func := "loop.example/gamesonstructures/laws.FnExactWordOf", spec := "fnExactWordOf", inPlace := ["internal/bytealg.IndexByteString", "internal/bytealg.IndexString"], unfollowed := true, recurses := true, named := ["unicode/utf8.first", "unicode/utf8.acceptRanges", "internal/bytealg.MaxLen"], apart := false, laid := [("unicode/utf8.acceptRanges", laid_unicode_utf8_acceptRanges), ("unicode/utf8.first", laid_unicode_utf8_first)], narrowed := true }
def FnExactWordOfUptoSaid : Prop := fnExactWordOfUptoRow.holds Tryd.pinned (OpenSpec.upto fnExactWordOfSpec)

/-- 'laws.FnWordStructure', WHERE WHAT IT READS IS OF BULK AT MOST 1048576: true; the input reads as it did. -/
def fnWordStructureUptoRow : OpenClaim := { program := "ytmabpmkkleelaaadoor", sum := "d4f6a2511630c93f8bd582d9eb4ebd2dde5a01f637f5d62105f5d86dec647c21", func := "loop.example/gamesonstructures/laws.FnWordStructure", spec := "fnWordStructure", inPlace := ["internal/bytealg.IndexByteString", "internal/bytealg.IndexString"], unfollowed := true, recurses := true, named := ["unicode/utf8.first", "unicode/utf8.acceptRanges", "internal/bytealg.MaxLen"], apart := false, laid := [("unicode/utf8.acceptRanges", laid_unicode_utf8_acceptRanges), ("unicode/utf8.first", laid_unicode_utf8_first)], narrowed := true }
def FnWordStructureUptoSaid : Prop := fnWordStructureUptoRow.holds Tryd.pinned (OpenSpec.upto fnWordStructureSpec)

/-- 'laws.FnInterpret', WHERE WHAT IT READS IS OF BULK AT MOST 1048576: true; the input reads as it did. -/
def fnInterpretUptoRow : OpenClaim := { program := "ytmabpmkkleelaaadoor", sum := "d4f6a2511630c93f8bd582d9eb4ebd2dde5a01f637f5d62105f5d86dec647c21", func := "loop.example/gamesonstructures/laws.FnInterpret", spec := "fnInterpret", inPlace := ["internal/bytealg.IndexByteString", "internal/bytealg.IndexString"], unfollowed := true, recurses := true, named := ["internal/bytealg.MaxLen", "unicode/utf8.first", "unicode/utf8.acceptRanges"], apart := false, laid := [("unicode/utf8.acceptRanges", laid_unicode_utf8_acceptRanges), ("unicode/utf8.first", laid_unicode_utf8_first)], narrowed := true }
def FnInterpretUptoSaid : Prop := fnInterpretUptoRow.holds Tryd.pinned (OpenSpec.upto fnInterpretSpec)

/-- 'laws.FnRelativize', WHERE WHAT IT READS IS OF BULK AT MOST 1048576: true; the input reads as it did. -/
def fnRelativizeUptoRow : OpenClaim := { program := "ytmabpmkkleelaaadoor", sum := "d4f6a2511630c93f8bd582d9eb4ebd2dde5a01f637f5d62105f5d86dec647c21", func := "loop.example/gamesonstructures/laws.FnRelativize", spec := "fnRelativize", inPlace := ["internal/bytealg.IndexByteString", "internal/bytealg.IndexString"], unfollowed := true, recurses := true, named := ["internal/bytealg.MaxLen", "unicode/utf8.first", "unicode/utf8.acceptRanges"], apart := false, laid := [("unicode/utf8.acceptRanges", laid_unicode_utf8_acceptRanges), ("unicode/utf8.first", laid_unicode_utf8_first)], narrowed := true }
def FnRelativizeUptoSaid : Prop := fnRelativizeUptoRow.holds Tryd.pinned (OpenSpec.upto fnRelativizeSpec)

/-- 'laws.FnComposeViews', WHERE WHAT IT READS IS OF BULK AT MOST 1048576: true; the input reads as it did. -/
def fnComposeViewsUptoRow : OpenClaim := { program := "ytmabpmkkleelaaadoor", sum := "d4f6a2511630c93f8bd582d9eb4ebd2dde5a01f637f5d62105f5d86dec647c21", func := "loop.example/gamesonstructures/laws.FnComposeViews", spec := "fnComposeViews", inPlace := ["internal/bytealg.IndexByteString", "internal/bytealg.IndexString"], unfollowed := true, recurses := true, named := ["internal/bytealg.MaxLen", "unicode/utf8.first", "unicode/utf8.acceptRanges"], apart := false, laid := [("unicode/utf8.acceptRanges", laid_unicode_utf8_acceptRanges), ("unicode/utf8.first", laid_unicode_utf8_first)], narrowed := true }
def FnComposeViewsUptoSaid : Prop := fnComposeViewsUptoRow.holds Tryd.pinned (OpenSpec.upto fnComposeViewsSpec)

/-- 'laws.FnWordOf', WHERE WHAT IT READS IS OF BULK AT MOST 1048576: true; the input reads as it did. -/
def fnWordOfUptoRow : OpenClaim := { program := "ytmabpmkkleelaaadoor", sum := "d4f6a2511630c93f8bd582d9eb4ebd2dde5a01f637f5d62105f5d86dec647c21", func := "loop.example/gamesonstructures/laws.FnWordOf", spec := "fnWordOf", inPlace := ["internal/bytealg.IndexByteString", "internal/bytealg.IndexString"], unfollowed := true, recurses := true, named := ["unicode/utf8.first", "unicode/utf8.acceptRanges", "internal/bytealg.MaxLen"], apart := false, laid := [("unicode/utf8.acceptRanges", laid_unicode_utf8_acceptRanges), ("unicode/utf8.first", laid_unicode_utf8_first)], narrowed := true }
def FnWordOfUptoSaid : Prop := fnWordOfUptoRow.holds Tryd.pinned (OpenSpec.upto fnWordOfSpec)

end Rows
end Go.Proofs.YtmabpmkkleelaaaDoor

/-
  NARROWER THAN 'FOR EVERY INPUT', by the rows' own cells (each row's printed sentence says how): FnExactWordValid: laid · FnExactFormatNumbers: laid · FnExactWordStructure: laid · FnFormatNumbers: laid · FnExactCirclesOf: laid · FnExactPowerStops: laid · FnWordStructure: laid · FnExactSameWords: laid · FnExactWordOf: laid.
  DERIVED. THE GIVEN ROWS OF THIS SEAT. 9 by the template 'for every input the law returns true; each argument reads behind the call as it read before'; 0 by the template 'total and deterministic' (their statements: YtkopkdpfdkcckaaDoorTotals.lean).
  GIVEN WITH THE SEED: the statements are not yours to turn. If you find one false, say at which input.
  Laid BY PROGRAM, IN A SANDBOX (cutbox-rows.mjs): the forced cells as the released guide's own fill.sh prints them over the translation 1ad6316ab7a21a14… (all of the seat's roots in one cut). By AI agents, Wed Nov 11 2026. No macro, syntax, notation, axiom, sorry.
-/
import Derived.Test.YtkopkdpfdkcckaaDoorChecked
import GoSem.PinnedTables
import GoSem.Claim
import GoSem.ClaimJoined
import GoSem.ClaimMapViews
import Derived.JoinedTies
import Derived.KernelRfl
namespace Go.Proofs.YtkopkdpfdkcckaaDoor
/- THE CELL 'sum', in the pinned program and in every row, IS THE sha256 OF THE DUMP (.gsa) THAT YtkopkdpfdkcckaaDoorProg.lean LOADS. Nothing in Lean hashes anything: it is a label: what it is worth is what the hold of that sum in a sandbox is worth. -/
noncomputable def Tryd.pinned : Pinned := { name := "ytkopkdpfdkcckaadoor", sum := "1ad6316ab7a21a149b08913e5bd034c4cf5f34d9ecf71111a0bf718cc7c37584", checked := Tryd.checked }
namespace Rows
def none {H : Type} : Left H := { results := [], args := [] }

/- WHAT THE LISTED PACKAGE-LEVEL VARIABLES READ AS WHEN THE CALL BEGINS. Each datum BY PROGRAM (the guide's laid-datum.mjs) off the statement by which the dump's own 'gosem.cut.vars' lays the variable. In a bare row this is a premise. The card (YtkopkdpfdkcckaaDoorCards.lean) ties it to the program's text. -/
def laid_unicode_utf8_acceptRanges {H : Type} : DataW H := .agg [.agg [.lit (.int .u8 128), .lit (.int .u8 191)], .agg [.lit (.int .u8 160), .lit (.int .u8 191)], .agg [.lit (.int .u8 128), .lit (.int .u8 159)], .agg [.lit (.int .u8 144), .lit (.int .u8 191)], .agg [.lit (.int .u8 128), .lit (.int .u8 143)], .agg [.lit (.int .u8 0), .lit (.int .u8 0)], .agg [.lit (.int .u8 0), .lit (.int .u8 0)], .agg [.lit (.int .u8 0), .lit (.int .u8 0)], .agg [.lit (.int .u8 0), .lit (.int .u8 0)], .agg [.lit (.int .u8 0), .lit (.int .u8 0)], .agg [.lit (.int .u8 0), .lit (.int .u8 0)], .agg [.lit (.int .u8 0), .lit (.int .u8 0)], .agg [.lit (.int .u8 0), .lit (.int .u8 0)], .agg [.lit (.int .u8 0), .lit (.int .u8 0)], .agg [.lit (.int .u8 0), .lit (.int .u8 0)], .agg [.lit (.int .u8 0), .lit (.int .u8 0)]]
/-- One of Go's own tables, pinned by name: the form's constant. -/
def laid_unicode_utf8_first : DataW Unit := Go.Pinned.utf8First
def laid_math_bits_deBruijn32tab {H : Type} : DataW H := .agg [.lit (.int .u8 0), .lit (.int .u8 1), .lit (.int .u8 28), .lit (.int .u8 2), .lit (.int .u8 29), .lit (.int .u8 14), .lit (.int .u8 24), .lit (.int .u8 3), .lit (.int .u8 30), .lit (.int .u8 22), .lit (.int .u8 20), .lit (.int .u8 15), .lit (.int .u8 25), .lit (.int .u8 17), .lit (.int .u8 4), .lit (.int .u8 8), .lit (.int .u8 31), .lit (.int .u8 27), .lit (.int .u8 13), .lit (.int .u8 23), .lit (.int .u8 21), .lit (.int .u8 19), .lit (.int .u8 16), .lit (.int .u8 7), .lit (.int .u8 26), .lit (.int .u8 12), .lit (.int .u8 18), .lit (.int .u8 6), .lit (.int .u8 11), .lit (.int .u8 5), .lit (.int .u8 10), .lit (.int .u8 9)]
def laid_math_bits_deBruijn64tab {H : Type} : DataW H := .agg [.lit (.int .u8 0), .lit (.int .u8 1), .lit (.int .u8 56), .lit (.int .u8 2), .lit (.int .u8 57), .lit (.int .u8 49), .lit (.int .u8 28), .lit (.int .u8 3), .lit (.int .u8 61), .lit (.int .u8 58), .lit (.int .u8 42), .lit (.int .u8 50), .lit (.int .u8 38), .lit (.int .u8 29), .lit (.int .u8 17), .lit (.int .u8 4), .lit (.int .u8 62), .lit (.int .u8 47), .lit (.int .u8 59), .lit (.int .u8 36), .lit (.int .u8 45), .lit (.int .u8 43), .lit (.int .u8 51), .lit (.int .u8 22), .lit (.int .u8 53), .lit (.int .u8 39), .lit (.int .u8 33), .lit (.int .u8 30), .lit (.int .u8 24), .lit (.int .u8 18), .lit (.int .u8 12), .lit (.int .u8 5), .lit (.int .u8 63), .lit (.int .u8 55), .lit (.int .u8 48), .lit (.int .u8 27), .lit (.int .u8 60), .lit (.int .u8 41), .lit (.int .u8 37), .lit (.int .u8 16), .lit (.int .u8 46), .lit (.int .u8 35), .lit (.int .u8 44), .lit (.int .u8 21), .lit (.int .u8 52), .lit (.int .u8 32), .lit (.int .u8 23), .lit (.int .u8 11), .lit (.int .u8 54), .lit (.int .u8 26), .lit (.int .u8 40), .lit (.int .u8 15), .lit (.int .u8 34), .lit (.int .u8 20), .lit (.int .u8 31), .lit (.int .u8 10), .lit (.int .u8 25), .lit (.int .u8 14), .lit (.int .u8 19), .lit (.int .u8 9), .lit (.int .u8 13), .lit (.int .u8 8), .lit (.int .u8 7), .lit (.int .u8 6)]
def laid_internal_strconv_uint64pow10 {H : Type} : DataW H := .agg [.lit (.int .u64 1), .lit (.int .u64 10), .lit (.int .u64 100), .lit (.int .u64 1000), .lit (.int .u64 10000), .lit (.int .u64 100000), .lit (.int .u64 1000000), .lit (.int .u64 10000000), .lit (.int .u64 100000000), .lit (.int .u64 1000000000), .lit (.int .u64 10000000000), .lit (.int .u64 100000000000), .lit (.int .u64 1000000000000), .lit (.int .u64 10000000000000), .lit (.int .u64 100000000000000), .lit (.int .u64 1000000000000000), .lit (.int .u64 10000000000000000), .lit (.int .u64 100000000000000000), .lit (.int .u64 1000000000000000000), .lit (.int .u64 10000000000000000000)]

/-- 'laws.FnExactWordValid': WHATEVER THE INPUT: true; the input reads as it did. -/
def fnExactWordValidSpec : ChangeSpec := { name := "fnExactWordValid", fn := fun _ => fun
  | [d] => { results := [.lit (.bool true)], args := [d] }
  | _ => none }
def fnExactWordValidRow : OpenClaim := { program := "ytkopkdpfdkcckaadoor", sum := "1ad6316ab7a21a149b08913e5bd034c4cf5f34d9ecf71111a0bf718cc7c37584", func := "loop.example/gamesonstructures/laws.FnExactWordValid", spec := "fnExactWordValid", inPlace := ["internal/bytealg.IndexByteString", "internal/bytealg.IndexString"], named := ["unicode/utf8.first", "unicode/utf8.acceptRanges", "internal/bytealg.MaxLen"], apart := false, laid := [("unicode/utf8.acceptRanges", laid_unicode_utf8_acceptRanges), ("unicode/utf8.first", laid_unicode_utf8_first)] }
def FnExactWordValidSaid : Prop := fnExactWordValidRow.holds Tryd.pinned (OpenSpec.ofChange fnExactWordValidSpec)

/-- ITS FALSE NEIGHBOUR: 'it returns false'. Refute it at one input. -/
def fnExactWordValidWrong : ChangeSpec := { name := "fnExactWordValid", fn := fun _ => fun
  | [d] => { results := [.lit (.bool false)], args := [d] }
  | _ => none }
def FnExactWordValidWrongFalsely : Prop := fnExactWordValidRow.holds Tryd.pinned (OpenSpec.ofChange fnExactWordValidWrong)

/-- 'laws.FnExactFormatNumbers': WHATEVER THE INPUT: true; the input reads as it did. -/
def fnExactFormatNumbersSpec : ChangeSpec := { name := "fnExactFormatNumbers", fn := fun _ => fun
  | [d] => { results := [.lit (.bool true)], args := [d] }
  | _ => none }
def fnExactFormatNumbersRow : OpenClaim := { program := "ytkopkdpfdkcckaadoor", sum := "1ad6316ab7a21a149b08913e5bd034c4cf5f34d9ecf71111a0bf718cc7c37584", func := "loop.example/gamesonstructures/laws.FnExactFormatNumbers", spec := "fnExactFormatNumbers", inPlace := ["internal/abi.NoEscape", "internal/bytealg.MakeNoZero"], recurses := true, named := ["internal/strconv.uint64pow10", "math/bits.deBruijn32tab", "math/bits.deBruijn64tab"], apart := false, laid := [("math/bits.deBruijn32tab", laid_math_bits_deBruijn32tab), ("math/bits.deBruijn64tab", laid_math_bits_deBruijn64tab), ("internal/strconv.uint64pow10", laid_internal_strconv_uint64pow10)] }
def FnExactFormatNumbersSaid : Prop := fnExactFormatNumbersRow.holds Tryd.pinned (OpenSpec.ofChange fnExactFormatNumbersSpec)

/-- ITS FALSE NEIGHBOUR: 'it returns false'. Refute it at one input. -/
def fnExactFormatNumbersWrong : ChangeSpec := { name := "fnExactFormatNumbers", fn := fun _ => fun
  | [d] => { results := [.lit (.bool false)], args := [d] }
  | _ => none }
def FnExactFormatNumbersWrongFalsely : Prop := fnExactFormatNumbersRow.holds Tryd.pinned (OpenSpec.ofChange fnExactFormatNumbersWrong)

/-- 'laws.FnExactWordStructure': WHATEVER THE INPUT: true; the input reads as it did. -/
def fnExactWordStructureSpec : ChangeSpec := { name := "fnExactWordStructure", fn := fun _ => fun
  | [d] => { results := [.lit (.bool true)], args := [d] }
  | _ => none }
def fnExactWordStructureRow : OpenClaim := { program := "ytkopkdpfdkcckaadoor", sum := "1ad6316ab7a21a149b08913e5bd034c4cf5f34d9ecf71111a0bf718cc7c37584", func := "loop.example/gamesonstructures/laws.FnExactWordStructure", spec := "fnExactWordStructure", inPlace := ["internal/bytealg.IndexByteString", "internal/bytealg.IndexString"], unfollowed := true, recurses := true, named := ["unicode/utf8.first", "unicode/utf8.acceptRanges", "internal/bytealg.MaxLen"], apart := false, laid := [("unicode/utf8.acceptRanges", laid_unicode_utf8_acceptRanges), ("unicode/utf8.first", laid_unicode_utf8_first)] }
def FnExactWordStructureSaid : Prop := fnExactWordStructureRow.holds Tryd.pinned (OpenSpec.ofChange fnExactWordStructureSpec)

/-- ITS FALSE NEIGHBOUR: 'it returns false'. Refute it at one input. -/
def fnExactWordStructureWrong : ChangeSpec := { name := "fnExactWordStructure", fn := fun _ => fun
  | [d] => { results := [.lit (.bool false)], args := [d] }
  | _ => none }
def FnExactWordStructureWrongFalsely : Prop := fnExactWordStructureRow.holds Tryd.pinned (OpenSpec.ofChange fnExactWordStructureWrong)

/-- 'laws.FnFormatNumbers': WHATEVER THE INPUT: true; the input reads as it did. -/
def fnFormatNumbersSpec : ChangeSpec := { name := "fnFormatNumbers", fn := fun _ => fun
  | [d] => { results := [.lit (.bool true)], args := [d] }
  | _ => none }
def fnFormatNumbersRow : OpenClaim := { program := "ytkopkdpfdkcckaadoor", sum := "1ad6316ab7a21a149b08913e5bd034c4cf5f34d9ecf71111a0bf718cc7c37584", func := "loop.example/gamesonstructures/laws.FnFormatNumbers", spec := "fnFormatNumbers", inPlace := ["internal/abi.NoEscape", "internal/bytealg.MakeNoZero"], recurses := true, named := ["internal/strconv.uint64pow10", "math/bits.deBruijn32tab", "math/bits.deBruijn64tab"], apart := false, laid := [("math/bits.deBruijn32tab", laid_math_bits_deBruijn32tab), ("math/bits.deBruijn64tab", laid_math_bits_deBruijn64tab), ("internal/strconv.uint64pow10", laid_internal_strconv_uint64pow10)] }
def FnFormatNumbersSaid : Prop := fnFormatNumbersRow.holds Tryd.pinned (OpenSpec.ofChange fnFormatNumbersSpec)

/-- ITS FALSE NEIGHBOUR: 'it returns false'. Refute it at one input. -/
def fnFormatNumbersWrong : ChangeSpec := { name := "fnFormatNumbers", fn := fun _ => fun
  | [d] => { results := [.lit (.bool false)], args := [d] }
  | _ => none }
def FnFormatNumbersWrongFalsely : Prop := fnFormatNumbersRow.holds Tryd.pinned (OpenSpec.ofChange fnFormatNumbersWrong)

/-- 'laws.FnExactCirclesOf': WHATEVER THE INPUT: true; the input reads as it did. -/
def fnExactCirclesOfSpec : ChangeSpec := { name := "fnExactCirclesOf", fn := fun _ => fun
  | [d1, d2] => { results := [.lit (.bool true)], args := [d1, d2] }
  | _ => none }
def fnExactCirclesOfRow : OpenClaim := { program := "ytkopkdpfdkcckaadoor", sum := "1ad6316ab7a21a149b08913e5bd034c4cf5f34d9ecf71111a0bf718cc7c37584", func := "loop.example/gamesonstructures/laws.FnExactCirclesOf", spec := "fnExactCirclesOf", inPlace := ["internal/bytealg.IndexByteString", "internal/bytealg.IndexString"], unfollowed := true, recurses := true, named := ["unicode/utf8.first", "unicode/utf8.acceptRanges", "internal/bytealg.MaxLen"], apart := false, laid := [("unicode/utf8.acceptRanges", laid_unicode_utf8_acceptRanges), ("unicode/utf8.first", laid_unicode_utf8_first)] }
def FnExactCirclesOfSaid : Prop := fnExactCirclesOfRow.holds Tryd.pinned (OpenSpec.ofChange fnExactCirclesOfSpec)

/-- ITS FALSE NEIGHBOUR: 'it returns false'. Refute it at one input. -/
def fnExactCirclesOfWrong : ChangeSpec := { name := "fnExactCirclesOf", fn := fun _ => fun
  | [d1, d2] => { results := [.lit (.bool false)], args := [d1, d2] }
  | _ => none }
def FnExactCirclesOfWrongFalsely : Prop := fnExactCirclesOfRow.holds Tryd.pinned (OpenSpec.ofChange fnExactCirclesOfWrong)

/-- 'laws.FnExactPowerStops': WHATEVER THE INPUT: true; the input reads as it did. -/
def fnExactPowerStopsSpec : ChangeSpec := { name := "fnExactPowerStops", fn := fun _ => fun
  | [d1, d2] => { results := [.lit (.bool true)], args := [d1, d2] }
  | _ => none }
def fnExactPowerStopsRow : OpenClaim := { program := "ytkopkdpfdkcckaadoor", sum := "1ad6316ab7a21a149b08913e5bd034c4cf5f34d9ecf71111a0bf718cc7c37584", func := "loop.example/gamesonstructures/laws.FnExactPowerStops", spec := "fnExactPowerStops", inPlace := ["internal/bytealg.IndexByteString", "internal/bytealg.IndexString"], unfollowed := true, recurses := true, named := ["unicode/utf8.first", "unicode/utf8.acceptRanges", "internal/bytealg.MaxLen"], apart := false, laid := [("unicode/utf8.acceptRanges", laid_unicode_utf8_acceptRanges), ("unicode/utf8.first", laid_unicode_utf8_first)] }
def FnExactPowerStopsSaid : Prop := fnExactPowerStopsRow.holds Tryd.pinned (OpenSpec.ofChange fnExactPowerStopsSpec)

/-- ITS FALSE NEIGHBOUR: 'it returns false'. Refute it at one input. -/
def fnExactPowerStopsWrong : ChangeSpec := { name := "fnExactPowerStops", fn := fun _ => fun
  | [d1, d2] => { results := [.lit (.bool false)], args := [d1, d2] }
  | _ => none }
def FnExactPowerStopsWrongFalsely : Prop := fnExactPowerStopsRow.holds Tryd.pinned (OpenSpec.ofChange fnExactPowerStopsWrong)

/-- 'laws.FnWordStructure': WHATEVER THE INPUT: true; the input reads as it did. -/
def fnWordStructureSpec : ChangeSpec := { name := "fnWordStructure", fn := fun _ => fun
  | [d] => { results := [.lit (.bool true)], args := [d] }
  | _ => none }
def fnWordStructureRow : OpenClaim := { program := "ytkopkdpfdkcckaadoor", sum := "1ad6316ab7a21a149b08913e5bd034c4cf5f34d9ecf71111a0bf718cc7c37584", func := "loop.example/gamesonstructures/laws.FnWordStructure", spec := "fnWordStructure", inPlace := ["internal/bytealg.IndexByteString", "internal/bytealg.IndexString"], unfollowed := true, recurses := true, named := ["unicode/utf8.first", "unicode/utf8.acceptRanges", "internal/bytealg.MaxLen"], apart := false, laid := [("unicode/utf8.acceptRanges", laid_unicode_utf8_acceptRanges), ("unicode/utf8.first", laid_unicode_utf8_first)] }
def FnWordStructureSaid : Prop := fnWordStructureRow.holds Tryd.pinned (OpenSpec.ofChange fnWordStructureSpec)

/-- ITS FALSE NEIGHBOUR: 'it returns false'. Refute it at one input. -/
def fnWordStructureWrong : ChangeSpec := { name := "fnWordStructure", fn := fun _ => fun
  | [d] => { results := [.lit (.bool false)], args := [d] }
  | _ => none }
def FnWordStructureWrongFalsely : Prop := fnWordStructureRow.holds Tryd.pinned (OpenSpec.ofChange fnWordStructureWrong)

/-- 'laws.FnExactSameWords': WHATEVER THE INPUT: true; the input reads as it did. -/
def fnExactSameWordsSpec : ChangeSpec := { name := "fnExactSameWords", fn := fun _ => fun
  | [d1, d2, d3] => { results := [.lit (.bool true)], args := [d1, d2, d3] }
  | _ => none }
def fnExactSameWordsRow : OpenClaim := { program := "ytkopkdpfdkcckaadoor", sum := "1ad6316ab7a21a149b08913e5bd034c4cf5f34d9ecf71111a0bf718cc7c37584", func := "loop.example/gamesonstructures/laws.FnExactSameWords", spec := "fnExactSameWords", inPlace := ["internal/bytealg.IndexByteString", "internal/bytealg.IndexString"], unfollowed := true, recurses := true, named := ["unicode/utf8.first", "unicode/utf8.acceptRanges", "internal/bytealg.MaxLen"], apart := false, laid := [("unicode/utf8.acceptRanges", laid_unicode_utf8_acceptRanges), ("unicode/utf8.first", laid_unicode_utf8_first)] }
def FnExactSameWordsSaid : Prop := fnExactSameWordsRow.holds Tryd.pinned (OpenSpec.ofChange fnExactSameWordsSpec)

/-- ITS FALSE NEIGHBOUR: 'it returns false'. Refute it at one input. -/
def fnExactSameWordsWrong : ChangeSpec := { name := "fnExactSameWords", fn := fun _ => fun
  | [d1, d2, d3] => { results := [.lit (.bool false)], args := [d1, d2, d3] }
  | _ => none }
def FnExactSameWordsWrongFalsely : Prop := fnExactSameWordsRow.holds Tryd.pinned (OpenSpec.ofChange fnExactSameWordsWrong)

/-- 'laws.FnExactWordOf': WHATEVER THE INPUT: true; the input reads as it did. -/
def fnExactWordOfSpec : ChangeSpec := { name := "fnExactWordOf", fn := fun _ => fun
  | [d] => { results := [.lit (.bool true)], args := [d] }
  | _ => none }
def fnExactWordOfRow : OpenClaim := { program := "ytkopkdpfdkcckaadoor", sum := "1ad6316ab7a21a149b08913e5bd034c4cf5f34d9ecf71111a0bf718cc7c37584", func := "loop.example/gamesonstructures/laws.FnExactWordOf", spec := "fnExactWordOf", inPlace := ["internal/bytealg.IndexByteString", "internal/bytealg.IndexString"], unfollowed := true, recurses := true, named := ["unicode/utf8.first", "unicode/utf8.acceptRanges", "internal/bytealg.MaxLen"], apart := false, laid := [("unicode/utf8.acceptRanges", laid_unicode_utf8_acceptRanges), ("unicode/utf8.first", laid_unicode_utf8_first)] }
def FnExactWordOfSaid : Prop := fnExactWordOfRow.holds Tryd.pinned (OpenSpec.ofChange fnExactWordOfSpec)

/-- ITS FALSE NEIGHBOUR: 'it returns false'. Refute it at one input. -/
def fnExactWordOfWrong : ChangeSpec := { name := "fnExactWordOf", fn := fun _ => fun
  | [d] => { results := [.lit (.bool false)], args := [d] }
  | _ => none }
def FnExactWordOfWrongFalsely : Prop := fnExactWordOfRow.holds Tryd.pinned (OpenSpec.ofChange fnExactWordOfWrong)

/- THE SECOND FORM. 'bulk': how many values and letters a reading holds, each counted each time it is reached (what is shared counts as often as it is met; a slice's spare places count too). A statement '..UptoSaid' is the law's where the arguments, and the package variables that the reading takes, are together of bulk at most 1048576: NARROWER than '..Said'. Prove '..Said' where nothing that the law and all that it calls make is longer than what came in: it says more and counts as full. Else prove '..UptoSaid'. A law counts once. -/
mutual
def uptoBulk {H : Type} : DataW H → Nat
  | .lit (.string bytes) => bytes.length + 1
  | .lit _ => 1
  | .nil => 1
  | .ptr d => uptoBulk d + 1
  | .slice elems spare => uptoBulkAll elems + uptoBulkAll spare + 1
  | .agg parts => uptoBulkAll parts + 1
  | .iface _ d => uptoBulk d + 1
  | .map entries => uptoBulkEntries entries + 1
  | .held _ => 1
def uptoBulkAll {H : Type} : List (DataW H) → Nat
  | [] => 0
  | d :: r => uptoBulk d + uptoBulkAll r
def uptoBulkEntries {H : Type} : List (Lit × DataW H) → Nat
  | [] => 0
  | x :: r => uptoBulkEntry x + uptoBulkEntries r
def uptoBulkEntry {H : Type} : Lit × DataW H → Nat
  | (.string bytes, d) => bytes.length + uptoBulk d + 1
  | (_, d) => uptoBulk d + 1
 end
def uptoSmall : (H : Type) → List (DataW H) → Bool := fun _ ds => decide (uptoBulkAll ds ≤ 1048576)
def OpenSpec.upto (s : _root_.Go.ChangeSpec) : _root_.Go.OpenSpec := { _root_.Go.OpenSpec.ofChange s with cond := some uptoSmall }

/-- 'laws.FnExactWordValid', WHERE WHAT IT READS IS OF BULK AT MOST 1048576: true; the input reads as it did. -/
def fnExactWordValidUptoRow : OpenClaim := { program := "ytkopkdpfdkcckaadoor", sum := "1ad6316ab7a21a149b08913e5bd034c4cf5f34d9ecf71111a0bf718cc7c37584", func := "loop.example/gamesonstructures/laws.FnExactWordValid", spec := "fnExactWordValid", inPlace := ["internal/bytealg.IndexByteString", "internal/bytealg.IndexString"], named := ["unicode/utf8.first", "unicode/utf8.acceptRanges", "internal/bytealg.MaxLen"], apart := false, laid := [("unicode/utf8.acceptRanges", laid_unicode_utf8_acceptRanges), ("unicode/utf8.first", laid_unicode_utf8_first)], narrowed := true }
def FnExactWordValidUptoSaid : Prop := fnExactWordValidUptoRow.holds Tryd.pinned (OpenSpec.upto fnExactWordValidSpec)

/-- 'laws.FnExactFormatNumbers', WHERE WHAT IT READS IS OF BULK AT MOST 1048576: true; the input reads as it did. -/
def fnExactFormatNumbersUptoRow : OpenClaim := { program := "ytkopkdpfdkcckaadoor", sum := "1ad6316ab7a21a149b08913e5bd034c4cf5f34d9ecf71111a0bf718cc7c37584", func := "loop.example/gamesonstructures/laws.FnExactFormatNumbers", spec := "fnExactFormatNumbers", inPlace := ["internal/abi.NoEscape", "internal/bytealg.MakeNoZero"], recurses := true, named := ["internal/strconv.uint64pow10", "math/bits.deBruijn32tab", "math/bits.deBruijn64tab"], apart := false, laid := [("math/bits.deBruijn32tab", laid_math_bits_deBruijn32tab), ("math/bits.deBruijn64tab", laid_math_bits_deBruijn64tab), ("internal/strconv.uint64pow10", laid_internal_strconv_uint64pow10)], narrowed := true }
def FnExactFormatNumbersUptoSaid : Prop := fnExactFormatNumbersUptoRow.holds Tryd.pinned (OpenSpec.upto fnExactFormatNumbersSpec)

/-- 'laws.FnExactWordStructure', WHERE WHAT IT READS IS OF BULK AT MOST 1048576: true; the input reads as it did. -/
def fnExactWordStructureUptoRow : OpenClaim := { program := "ytkopkdpfdkcckaadoor", sum := "1ad6316ab7a21a149b08913e5bd034c4cf5f34d9ecf71111a0bf718cc7c37584", func := "loop.example/gamesonstructures/laws.FnExactWordStructure", spec := "fnExactWordStructure", inPlace := ["internal/bytealg.IndexByteString", "internal/bytealg.IndexString"], unfollowed := true, recurses := true, named := ["unicode/utf8.first", "unicode/utf8.acceptRanges", "internal/bytealg.MaxLen"], apart := false, laid := [("unicode/utf8.acceptRanges", laid_unicode_utf8_acceptRanges), ("unicode/utf8.first", laid_unicode_utf8_first)], narrowed := true }
def FnExactWordStructureUptoSaid : Prop := fnExactWordStructureUptoRow.holds Tryd.pinned (OpenSpec.upto fnExactWordStructureSpec)

/-- 'laws.FnFormatNumbers', WHERE WHAT IT READS IS OF BULK AT MOST 1048576: true; the input reads as it did. -/
def fnFormatNumbersUptoRow : OpenClaim := { program := "ytkopkdpfdkcckaadoor", sum := "1ad6316ab7a21a149b08913e5bd034c4cf5f34d9ecf71111a0bf718cc7c37584", func := "loop.example/gamesonstructures/laws.FnFormatNumbers", spec := "fnFormatNumbers", inPlace := ["internal/abi.NoEscape", "internal/bytealg.MakeNoZero"], recurses := true, named := ["internal/strconv.uint64pow10", "math/bits.deBruijn32tab", "math/bits.deBruijn64tab"], apart := false, laid := [("math/bits.deBruijn32tab", laid_math_bits_deBruijn32tab), ("math/bits.deBruijn64tab", laid_math_bits_deBruijn64tab), ("internal/strconv.uint64pow10", laid_internal_strconv_uint64pow10)], narrowed := true }
def FnFormatNumbersUptoSaid : Prop := fnFormatNumbersUptoRow.holds Tryd.pinned (OpenSpec.upto fnFormatNumbersSpec)

/-- 'laws.FnExactCirclesOf', WHERE WHAT IT READS IS OF BULK AT MOST 1048576: true; the input reads as it did. -/
def fnExactCirclesOfUptoRow : OpenClaim := { program := "ytkopkdpfdkcckaadoor", sum := "1ad6316ab7a21a149b08913e5bd034c4cf5f34d9ecf71111a0bf718cc7c37584", func := "loop.example/gamesonstructures/laws.FnExactCirclesOf", spec := "fnExactCirclesOf", inPlace := ["internal/bytealg.IndexByteString", "internal/bytealg.IndexString"], unfollowed := true, recurses := true, named := ["unicode/utf8.first", "unicode/utf8.acceptRanges", "internal/bytealg.MaxLen"], apart := false, laid := [("unicode/utf8.acceptRanges", laid_unicode_utf8_acceptRanges), ("unicode/utf8.first", laid_unicode_utf8_first)], narrowed := true }
def FnExactCirclesOfUptoSaid : Prop := fnExactCirclesOfUptoRow.holds Tryd.pinned (OpenSpec.upto fnExactCirclesOfSpec)

/-- 'laws.FnExactPowerStops', WHERE WHAT IT READS IS OF BULK AT MOST 1048576: true; the input reads as it did. -/
def fnExactPowerStopsUptoRow : OpenClaim := { program := "ytkopkdpfdkcckaadoor", sum := "1ad6316ab7a21a149b08913e5bd034c4cf5f34d9ecf71111a0bf718cc7c37584", func := "loop.example/gamesonstructures/laws.FnExactPowerStops", spec := "fnExactPowerStops", inPlace := ["internal/bytealg.IndexByteString", "internal/bytealg.IndexString"], unfollowed := true, recurses := true, named := ["unicode/utf8.first", "unicode/utf8.acceptRanges", "internal/bytealg.MaxLen"], apart := false, laid := [("unicode/utf8.acceptRanges", laid_unicode_utf8_acceptRanges), ("unicode/utf8.first", laid_unicode_utf8_first)], narrowed := true }
def FnExactPowerStopsUptoSaid : Prop := fnExactPowerStopsUptoRow.holds Tryd.pinned (OpenSpec.upto fnExactPowerStopsSpec)

/-- 'laws.FnWordStructure', WHERE WHAT IT READS IS OF BULK AT MOST 1048576: true; the input reads as it did. -/
def fnWordStructureUptoRow : OpenClaim := { program := "ytkopkdpfdkcckaadoor", sum := "1ad6316ab7a21a149b08913e5bd034c4cf5f34d9ecf71111a0bf718cc7c37584", func := "loop.example/gamesonstructures/laws.FnWordStructure", spec := "fnWordStructure", inPlace := ["internal/bytealg.IndexByteString", "internal/bytealg.IndexString"], unfollowed := true, recurses := true, named := ["unicode/utf8.first", "unicode/utf8.acceptRanges", "internal/bytealg.MaxLen"], apart := false, laid := [("unicode/utf8.acceptRanges", laid_unicode_utf8_acceptRanges), ("unicode/utf8.first", laid_unicode_utf8_first)], narrowed := true }
def FnWordStructureUptoSaid : Prop := fnWordStructureUptoRow.holds Tryd.pinned (OpenSpec.upto fnWordStructureSpec)

/-- 'laws.FnExactSameWords', WHERE WHAT IT READS IS OF BULK AT MOST 1048576: true; the input reads as it did. -/
def fnExactSameWordsUptoRow : OpenClaim := { program := "ytkopkdpfdkcckaadoor", sum := "1ad6316ab7a21a149b08913e5bd034c4cf5f34d9ecf71111a0bf718cc7c37584", func := "loop.example/gamesonstructures/laws.FnExactSameWords", spec := "fnExactSameWords", inPlace := ["internal/bytealg.IndexByteString", "internal/bytealg.IndexString"], unfollowed := true, recurses := true, named := ["unicode/utf8.first", "unicode/utf8.acceptRanges", "internal/bytealg.MaxLen"], apart := false, laid := [("unicode/utf8.acceptRanges", laid_unicode_utf8_acceptRanges), ("unicode/utf8.first", laid_unicode_utf8_first)], narrowed := true }
def FnExactSameWordsUptoSaid : Prop := fnExactSameWordsUptoRow.holds Tryd.pinned (OpenSpec.upto fnExactSameWordsSpec)

/-- 'laws.FnExactWordOf', WHERE WHAT IT READS IS OF BULK AT MOST 1048576: true; the input reads as it did. -/
def fnExactWordOfUptoRow : OpenClaim := { program := "ytkopkdpfdkcckaadoor", sum := "1ad6316ab7a21a149b08913e5bd034c4cf5f34d9ecf71111a0bf718cc7c37584", func := "loop.example/gamesonstructures/laws.FnExactWordOf", spec := "fnExactWordOf", inPlace := ["internal/bytealg.IndexByteString", "internal/bytealg.IndexString"], unfollowed := true, recurses := true, named := ["unicode/utf8.first", "unicode/utf8.acceptRanges", "internal/bytealg.MaxLen"], apart := false, laid := [("unicode/utf8.acceptRanges", laid_unicode_utf8_acceptRanges), ("unicode/utf8.first", laid_unicode_utf8_first)], narrowed := true }
def FnExactWordOfUptoSaid : Prop := fnExactWordOfUptoRow.holds Tryd.pinned (OpenSpec.upto fnExactWordOfSpec)

end Rows
end Go.Proofs.YtkopkdpfdkcckaaDoor

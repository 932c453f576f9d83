/-
  No cell of these rows narrows 'for every input' (looked for: loops, veiled, ifaces, maps, wideKeys, modest, calm, conditions, laid).
  DERIVED. THE GIVEN ROWS OF THIS SEAT. 10 by the template 'for every input the law returns true; each argument reads behind the call as it read before'; 0 by the template 'total and deterministic' (their statements: YtembkkooofmchaaTotals.lean).
  GIVEN WITH THE SEED: the statements are not yours to turn. If you find one false, say at which input.
  Laid BY PROGRAM, IN A SANDBOX (cutbox-rows.mjs): the forced cells as the released guide's own fill.sh prints them over the translation f17beea6940cf6fc… (all of the seat's roots in one cut). By AI agents, Wed Nov 11 2026. No macro, syntax, notation, axiom, sorry.
-/
import Derived.Test.YtembkkooofmchaaChecked
import GoSem.Claim
import GoSem.ClaimJoined
import GoSem.ClaimMapViews
import Derived.JoinedTies
import Derived.KernelRfl
namespace Go.Proofs.Ytembkkooofmchaa
/- THE CELL 'sum', in the pinned program and in every row, IS THE sha256 OF THE DUMP (.gsa) THAT YtembkkooofmchaaProg.lean LOADS. Nothing in Lean hashes anything: it is a label: what it is worth is what the hold of that sum in a sandbox is worth. -/
noncomputable def Try.pinned : Pinned := { name := "ytembkkooofmchaa", sum := "f17beea6940cf6fcb3a0ecd2da7a68b36c46bbb39f3c6463dc07b980cc38e695", checked := Try.checked }
namespace Rows
def none {H : Type} : Left H := { results := [], args := [] }

/-- 'laws.FnExactOrdersAlike': WHATEVER THE INPUT: true; the input reads as it did. -/
def fnExactOrdersAlikeSpec : ChangeSpec := { name := "fnExactOrdersAlike", fn := fun _ => fun
  | [d1, d2, d3] => { results := [.lit (.bool true)], args := [d1, d2, d3] }
  | _ => none }
def fnExactOrdersAlikeRow : OpenClaim := { program := "ytembkkooofmchaa", sum := "f17beea6940cf6fcb3a0ecd2da7a68b36c46bbb39f3c6463dc07b980cc38e695", func := "loop.example/gamesonstructures/laws.FnExactOrdersAlike", spec := "fnExactOrdersAlike", apart := false }
def FnExactOrdersAlikeSaid : Prop := fnExactOrdersAlikeRow.holds Try.pinned (OpenSpec.ofChange fnExactOrdersAlikeSpec)

/-- ITS FALSE NEIGHBOUR: 'it returns false'. Refute it at one input. -/
def fnExactOrdersAlikeWrong : ChangeSpec := { name := "fnExactOrdersAlike", fn := fun _ => fun
  | [d1, d2, d3] => { results := [.lit (.bool false)], args := [d1, d2, d3] }
  | _ => none }
def FnExactOrdersAlikeWrongFalsely : Prop := fnExactOrdersAlikeRow.holds Try.pinned (OpenSpec.ofChange fnExactOrdersAlikeWrong)

/-- 'laws.FnExactOrderRounds': WHATEVER THE INPUT: true; the input reads as it did. -/
def fnExactOrderRoundsSpec : ChangeSpec := { name := "fnExactOrderRounds", fn := fun _ => fun
  | [d1, d2] => { results := [.lit (.bool true)], args := [d1, d2] }
  | _ => none }
def fnExactOrderRoundsRow : OpenClaim := { program := "ytembkkooofmchaa", sum := "f17beea6940cf6fcb3a0ecd2da7a68b36c46bbb39f3c6463dc07b980cc38e695", func := "loop.example/gamesonstructures/laws.FnExactOrderRounds", spec := "fnExactOrderRounds", apart := false }
def FnExactOrderRoundsSaid : Prop := fnExactOrderRoundsRow.holds Try.pinned (OpenSpec.ofChange fnExactOrderRoundsSpec)

/-- ITS FALSE NEIGHBOUR: 'it returns false'. Refute it at one input. -/
def fnExactOrderRoundsWrong : ChangeSpec := { name := "fnExactOrderRounds", fn := fun _ => fun
  | [d1, d2] => { results := [.lit (.bool false)], args := [d1, d2] }
  | _ => none }
def FnExactOrderRoundsWrongFalsely : Prop := fnExactOrderRoundsRow.holds Try.pinned (OpenSpec.ofChange fnExactOrderRoundsWrong)

/-- 'laws.FnExactEvenSentence': WHATEVER THE INPUT: true; the input reads as it did. -/
def fnExactEvenSentenceSpec : ChangeSpec := { name := "fnExactEvenSentence", fn := fun _ => fun
  | [d1, d2] => { results := [.lit (.bool true)], args := [d1, d2] }
  | _ => none }
def fnExactEvenSentenceRow : OpenClaim := { program := "ytembkkooofmchaa", sum := "f17beea6940cf6fcb3a0ecd2da7a68b36c46bbb39f3c6463dc07b980cc38e695", func := "loop.example/gamesonstructures/laws.FnExactEvenSentence", spec := "fnExactEvenSentence", apart := false }
def FnExactEvenSentenceSaid : Prop := fnExactEvenSentenceRow.holds Try.pinned (OpenSpec.ofChange fnExactEvenSentenceSpec)

/-- ITS FALSE NEIGHBOUR: 'it returns false'. Refute it at one input. -/
def fnExactEvenSentenceWrong : ChangeSpec := { name := "fnExactEvenSentence", fn := fun _ => fun
  | [d1, d2] => { results := [.lit (.bool false)], args := [d1, d2] }
  | _ => none }
def FnExactEvenSentenceWrongFalsely : Prop := fnExactEvenSentenceRow.holds Try.pinned (OpenSpec.ofChange fnExactEvenSentenceWrong)

/-- 'laws.FnExactOrderReply': WHATEVER THE INPUT: true; the input reads as it did. -/
def fnExactOrderReplySpec : ChangeSpec := { name := "fnExactOrderReply", fn := fun _ => fun
  | [d1, d2, d3, d4] => { results := [.lit (.bool true)], args := [d1, d2, d3, d4] }
  | _ => none }
def fnExactOrderReplyRow : OpenClaim := { program := "ytembkkooofmchaa", sum := "f17beea6940cf6fcb3a0ecd2da7a68b36c46bbb39f3c6463dc07b980cc38e695", func := "loop.example/gamesonstructures/laws.FnExactOrderReply", spec := "fnExactOrderReply", unfollowed := true, recurses := true, apart := false }
def FnExactOrderReplySaid : Prop := fnExactOrderReplyRow.holds Try.pinned (OpenSpec.ofChange fnExactOrderReplySpec)

/-- ITS FALSE NEIGHBOUR: 'it returns false'. Refute it at one input. -/
def fnExactOrderReplyWrong : ChangeSpec := { name := "fnExactOrderReply", fn := fun _ => fun
  | [d1, d2, d3, d4] => { results := [.lit (.bool false)], args := [d1, d2, d3, d4] }
  | _ => none }
def FnExactOrderReplyWrongFalsely : Prop := fnExactOrderReplyRow.holds Try.pinned (OpenSpec.ofChange fnExactOrderReplyWrong)

/-- 'laws.FnOrdersAlike': WHATEVER THE INPUT: true; the input reads as it did. -/
def fnOrdersAlikeSpec : ChangeSpec := { name := "fnOrdersAlike", fn := fun _ => fun
  | [d1, d2] => { results := [.lit (.bool true)], args := [d1, d2] }
  | _ => none }
def fnOrdersAlikeRow : OpenClaim := { program := "ytembkkooofmchaa", sum := "f17beea6940cf6fcb3a0ecd2da7a68b36c46bbb39f3c6463dc07b980cc38e695", func := "loop.example/gamesonstructures/laws.FnOrdersAlike", spec := "fnOrdersAlike", apart := false }
def FnOrdersAlikeSaid : Prop := fnOrdersAlikeRow.holds Try.pinned (OpenSpec.ofChange fnOrdersAlikeSpec)

/-- ITS FALSE NEIGHBOUR: 'it returns false'. Refute it at one input. -/
def fnOrdersAlikeWrong : ChangeSpec := { name := "fnOrdersAlike", fn := fun _ => fun
  | [d1, d2] => { results := [.lit (.bool false)], args := [d1, d2] }
  | _ => none }
def FnOrdersAlikeWrongFalsely : Prop := fnOrdersAlikeRow.holds Try.pinned (OpenSpec.ofChange fnOrdersAlikeWrong)

/-- 'laws.FnOrderRounds': WHATEVER THE INPUT: true; the input reads as it did. -/
def fnOrderRoundsSpec : ChangeSpec := { name := "fnOrderRounds", fn := fun _ => fun
  | [d] => { results := [.lit (.bool true)], args := [d] }
  | _ => none }
def fnOrderRoundsRow : OpenClaim := { program := "ytembkkooofmchaa", sum := "f17beea6940cf6fcb3a0ecd2da7a68b36c46bbb39f3c6463dc07b980cc38e695", func := "loop.example/gamesonstructures/laws.FnOrderRounds", spec := "fnOrderRounds", apart := false }
def FnOrderRoundsSaid : Prop := fnOrderRoundsRow.holds Try.pinned (OpenSpec.ofChange fnOrderRoundsSpec)

/-- ITS FALSE NEIGHBOUR: 'it returns false'. Refute it at one input. -/
def fnOrderRoundsWrong : ChangeSpec := { name := "fnOrderRounds", fn := fun _ => fun
  | [d] => { results := [.lit (.bool false)], args := [d] }
  | _ => none }
def FnOrderRoundsWrongFalsely : Prop := fnOrderRoundsRow.holds Try.pinned (OpenSpec.ofChange fnOrderRoundsWrong)

/-- 'laws.FnEven': WHATEVER THE INPUT: true; the input reads as it did. -/
def fnEvenSpec : ChangeSpec := { name := "fnEven", fn := fun _ => fun
  | [d] => { results := [.lit (.bool true)], args := [d] }
  | _ => none }
def fnEvenRow : OpenClaim := { program := "ytembkkooofmchaa", sum := "f17beea6940cf6fcb3a0ecd2da7a68b36c46bbb39f3c6463dc07b980cc38e695", func := "loop.example/gamesonstructures/laws.FnEven", spec := "fnEven", apart := false }
def FnEvenSaid : Prop := fnEvenRow.holds Try.pinned (OpenSpec.ofChange fnEvenSpec)

/-- ITS FALSE NEIGHBOUR: 'it returns false'. Refute it at one input. -/
def fnEvenWrong : ChangeSpec := { name := "fnEven", fn := fun _ => fun
  | [d] => { results := [.lit (.bool false)], args := [d] }
  | _ => none }
def FnEvenWrongFalsely : Prop := fnEvenRow.holds Try.pinned (OpenSpec.ofChange fnEvenWrong)

/-- 'laws.FnExactCircleOf': WHATEVER THE INPUT: true; the input reads as it did. -/
def fnExactCircleOfSpec : ChangeSpec := { name := "fnExactCircleOf", fn := fun _ => fun
  | [d] => { results := [.lit (.bool true)], args := [d] }
  | _ => none }
def fnExactCircleOfRow : OpenClaim := { program := "ytembkkooofmchaa", sum := "f17beea6940cf6fcb3a0ecd2da7a68b36c46bbb39f3c6463dc07b980cc38e695", func := "loop.example/gamesonstructures/laws.FnExactCircleOf", spec := "fnExactCircleOf", unfollowed := true, recurses := true, apart := false }
def FnExactCircleOfSaid : Prop := fnExactCircleOfRow.holds Try.pinned (OpenSpec.ofChange fnExactCircleOfSpec)

/-- ITS FALSE NEIGHBOUR: 'it returns false'. Refute it at one input. -/
def fnExactCircleOfWrong : ChangeSpec := { name := "fnExactCircleOf", fn := fun _ => fun
  | [d] => { results := [.lit (.bool false)], args := [d] }
  | _ => none }
def FnExactCircleOfWrongFalsely : Prop := fnExactCircleOfRow.holds Try.pinned (OpenSpec.ofChange fnExactCircleOfWrong)

/-- 'laws.FnExactLengthSentence': WHATEVER THE INPUT: true; the input reads as it did. -/
def fnExactLengthSentenceSpec : ChangeSpec := { name := "fnExactLengthSentence", fn := fun _ => fun
  | [d] => { results := [.lit (.bool true)], args := [d] }
  | _ => none }
def fnExactLengthSentenceRow : OpenClaim := { program := "ytembkkooofmchaa", sum := "f17beea6940cf6fcb3a0ecd2da7a68b36c46bbb39f3c6463dc07b980cc38e695", func := "loop.example/gamesonstructures/laws.FnExactLengthSentence", spec := "fnExactLengthSentence", recurses := true, apart := false }
def FnExactLengthSentenceSaid : Prop := fnExactLengthSentenceRow.holds Try.pinned (OpenSpec.ofChange fnExactLengthSentenceSpec)

/-- ITS FALSE NEIGHBOUR: 'it returns false'. Refute it at one input. -/
def fnExactLengthSentenceWrong : ChangeSpec := { name := "fnExactLengthSentence", fn := fun _ => fun
  | [d] => { results := [.lit (.bool false)], args := [d] }
  | _ => none }
def FnExactLengthSentenceWrongFalsely : Prop := fnExactLengthSentenceRow.holds Try.pinned (OpenSpec.ofChange fnExactLengthSentenceWrong)

/-- 'laws.FnExactOrderOf': WHATEVER THE INPUT: true; the input reads as it did. -/
def fnExactOrderOfSpec : ChangeSpec := { name := "fnExactOrderOf", fn := fun _ => fun
  | [d] => { results := [.lit (.bool true)], args := [d] }
  | _ => none }
def fnExactOrderOfRow : OpenClaim := { program := "ytembkkooofmchaa", sum := "f17beea6940cf6fcb3a0ecd2da7a68b36c46bbb39f3c6463dc07b980cc38e695", func := "loop.example/gamesonstructures/laws.FnExactOrderOf", spec := "fnExactOrderOf", inPlace := ["internal/abi.NoEscape", "internal/bytealg.MakeNoZero"], unfollowed := true, recurses := true, apart := false }
def FnExactOrderOfSaid : Prop := fnExactOrderOfRow.holds Try.pinned (OpenSpec.ofChange fnExactOrderOfSpec)

/-- ITS FALSE NEIGHBOUR: 'it returns false'. Refute it at one input. -/
def fnExactOrderOfWrong : ChangeSpec := { name := "fnExactOrderOf", fn := fun _ => fun
  | [d] => { results := [.lit (.bool false)], args := [d] }
  | _ => none }
def FnExactOrderOfWrongFalsely : Prop := fnExactOrderOfRow.holds Try.pinned (OpenSpec.ofChange fnExactOrderOfWrong)

/- THE SECOND FORM. 'bulk': how many values and letters a reading holds, each counted each time it is reached (what is shared counts as often as it is met; a slice's spare places count too). A statement '..UptoSaid' is the law's where the arguments, and the package variables that the reading takes, are together of bulk at most 1048576: NARROWER than '..Said'. Prove '..Said' where nothing that the law and all that it calls make is longer than what came in: it says more and counts as full. Else prove '..UptoSaid'. A law counts once. -/
mutual
def uptoBulk {H : Type} : DataW H → Nat
  | .lit (.string bytes) => bytes.length + 1
  | .lit _ => 1
  | .nil => 1
  | .ptr d => uptoBulk d + 1
  | .slice elems spare => uptoBulkAll elems + uptoBulkAll spare + 1
  | .agg parts => uptoBulkAll parts + 1
  | .iface _ d => uptoBulk d + 1
  | .map entries => uptoBulkEntries entries + 1
  | .held _ => 1
def uptoBulkAll {H : Type} : List (DataW H) → Nat
  | [] => 0
  | d :: r => uptoBulk d + uptoBulkAll r
def uptoBulkEntries {H : Type} : List (Lit × DataW H) → Nat
  | [] => 0
  | x :: r => uptoBulkEntry x + uptoBulkEntries r
def uptoBulkEntry {H : Type} : Lit × DataW H → Nat
  | (.string bytes, d) => bytes.length + uptoBulk d + 1
  | (_, d) => uptoBulk d + 1
 end
def uptoSmall : (H : Type) → List (DataW H) → Bool := fun _ ds => decide (uptoBulkAll ds ≤ 1048576)
def OpenSpec.upto (s : _root_.Go.ChangeSpec) : _root_.Go.OpenSpec := { _root_.Go.OpenSpec.ofChange s with cond := some uptoSmall }

/-- 'laws.FnExactOrdersAlike', WHERE WHAT IT READS IS OF BULK AT MOST 1048576: true; the input reads as it did. -/
def fnExactOrdersAlikeUptoRow : OpenClaim := { program := "ytembkkooofmchaa", sum := "f17beea6940cf6fcb3a0ecd2da7a68b36c46bbb39f3c6463dc07b980cc38e695", func := "loop.example/gamesonstructures/laws.FnExactOrdersAlike", spec := "fnExactOrdersAlike", apart := false, narrowed := true }
def FnExactOrdersAlikeUptoSaid : Prop := fnExactOrdersAlikeUptoRow.holds Try.pinned (OpenSpec.upto fnExactOrdersAlikeSpec)

/-- 'laws.FnExactOrderRounds', WHERE WHAT IT READS IS OF BULK AT MOST 1048576: true; the input reads as it did. -/
def fnExactOrderRoundsUptoRow : OpenClaim := { program := "ytembkkooofmchaa", sum := "f17beea6940cf6fcb3a0ecd2da7a68b36c46bbb39f3c6463dc07b980cc38e695", func := "loop.example/gamesonstructures/laws.FnExactOrderRounds", spec := "fnExactOrderRounds", apart := false, narrowed := true }
def FnExactOrderRoundsUptoSaid : Prop := fnExactOrderRoundsUptoRow.holds Try.pinned (OpenSpec.upto fnExactOrderRoundsSpec)

/-- 'laws.FnExactEvenSentence', WHERE WHAT IT READS IS OF BULK AT MOST 1048576: true; the input reads as it did. -/
def fnExactEvenSentenceUptoRow : OpenClaim := { program := "ytembkkooofmchaa", sum := "f17beea6940cf6fcb3a0ecd2da7a68b36c46bbb39f3c6463dc07b980cc38e695", func := "loop.example/gamesonstructures/laws.FnExactEvenSentence", spec := "fnExactEvenSentence", apart := false, narrowed := true }
def FnExactEvenSentenceUptoSaid : Prop := fnExactEvenSentenceUptoRow.holds Try.pinned (OpenSpec.upto fnExactEvenSentenceSpec)

/-- 'laws.FnExactOrderReply', WHERE WHAT IT READS IS OF BULK AT MOST 1048576: true; the input reads as it did. -/
def fnExactOrderReplyUptoRow : OpenClaim := { program := "ytembkkooofmchaa", sum := "f17beea6940cf6fcb3a0ecd2da7a68b36c46bbb39f3c6463dc07b980cc38e695", func := "loop.example/gamesonstructures/laws.FnExactOrderReply", spec := "fnExactOrderReply", unfollowed := true, recurses := true, apart := false, narrowed := true }
def FnExactOrderReplyUptoSaid : Prop := fnExactOrderReplyUptoRow.holds Try.pinned (OpenSpec.upto fnExactOrderReplySpec)

/-- 'laws.FnOrdersAlike', WHERE WHAT IT READS IS OF BULK AT MOST 1048576: true; the input reads as it did. -/
def fnOrdersAlikeUptoRow : OpenClaim := { program := "ytembkkooofmchaa", sum := "f17beea6940cf6fcb3a0ecd2da7a68b36c46bbb39f3c6463dc07b980cc38e695", func := "loop.example/gamesonstructures/laws.FnOrdersAlike", spec := "fnOrdersAlike", apart := false, narrowed := true }
def FnOrdersAlikeUptoSaid : Prop := fnOrdersAlikeUptoRow.holds Try.pinned (OpenSpec.upto fnOrdersAlikeSpec)

/-- 'laws.FnOrderRounds', WHERE WHAT IT READS IS OF BULK AT MOST 1048576: true; the input reads as it did. -/
def fnOrderRoundsUptoRow : OpenClaim := { program := "ytembkkooofmchaa", sum := "f17beea6940cf6fcb3a0ecd2da7a68b36c46bbb39f3c6463dc07b980cc38e695", func := "loop.example/gamesonstructures/laws.FnOrderRounds", spec := "fnOrderRounds", apart := false, narrowed := true }
def FnOrderRoundsUptoSaid : Prop := fnOrderRoundsUptoRow.holds Try.pinned (OpenSpec.upto fnOrderRoundsSpec)

/-- 'laws.FnEven', WHERE WHAT IT READS IS OF BULK AT MOST 1048576: true; the input reads as it did. -/
def fnEvenUptoRow : OpenClaim := { program := "ytembkkooofmchaa", sum := "f17beea6940cf6fcb3a0ecd2da7a68b36c46bbb39f3c6463dc07b980cc38e695", func := "loop.example/gamesonstructures/laws.FnEven", spec := "fnEven", apart := false, narrowed := true }
def FnEvenUptoSaid : Prop := fnEvenUptoRow.holds Try.pinned (OpenSpec.upto fnEvenSpec)

/-- 'laws.FnExactCircleOf', WHERE WHAT IT READS IS OF BULK AT MOST 1048576: true; the input reads as it did. -/
def fnExactCircleOfUptoRow : OpenClaim := { program := "ytembkkooofmchaa", sum := "f17beea6940cf6fcb3a0ecd2da7a68b36c46bbb39f3c6463dc07b980cc38e695", func := "loop.example/gamesonstructures/laws.FnExactCircleOf", spec := "fnExactCircleOf", unfollowed := true, recurses := true, apart := false, narrowed := true }
def FnExactCircleOfUptoSaid : Prop := fnExactCircleOfUptoRow.holds Try.pinned (OpenSpec.upto fnExactCircleOfSpec)

/-- 'laws.FnExactLengthSentence', WHERE WHAT IT READS IS OF BULK AT MOST 1048576: true; the input reads as it did. -/
def fnExactLengthSentenceUptoRow : OpenClaim := { program := "ytembkkooofmchaa", sum := "f17beea6940cf6fcb3a0ecd2da7a68b36c46bbb39f3c6463dc07b980cc38e695", func := "loop.example/gamesonstructures/laws.FnExactLengthSentence", spec := "fnExactLengthSentence", recurses := true, apart := false, narrowed := true }
def FnExactLengthSentenceUptoSaid : Prop := fnExactLengthSentenceUptoRow.holds Try.pinned (OpenSpec.upto fnExactLengthSentenceSpec)

/-- 'laws.FnExactOrderOf', WHERE WHAT IT READS IS OF BULK AT MOST 1048576: true; the input reads as it did. -/
def fnExactOrderOfUptoRow : OpenClaim := { program := "ytembkkooofmchaa", sum := "f17beea6940cf6fcb3a0ecd2da7a68b36c46bbb39f3c6463dc07b980cc38e695", func := "loop.example/gamesonstructures/laws.FnExactOrderOf", spec := "fnExactOrderOf", inPlace := ["internal/abi.NoEscape", "internal/bytealg.MakeNoZero"], unfollowed := true, recurses := true, apart := false, narrowed := true }
def FnExactOrderOfUptoSaid : Prop := fnExactOrderOfUptoRow.holds Try.pinned (OpenSpec.upto fnExactOrderOfSpec)

end Rows
end Go.Proofs.Ytembkkooofmchaa

/- Valid structures: texts of bits; isStructure, hasElement, the set and the relation read, of the program and of the reference. Condition: a text's length fits an integer. -/
import Derived.Test.YtadgiknnejjplaaWord
import Derived.Test.YtadgiknnejjplaaMake
import Derived.IntWalk
namespace Go.Proofs.Ytadgiknnejjplaa
open Go.RowKit
set_option linter.unusedVariables false

def is01 (b : UInt8) : Bool := b == 48 || b == 49
/-- Whether a text has n bits. -/
def bitsB (s : ByteArray) (n : Int) : Bool := decide ((s.size : Int) = n) && s.data.toList.all is01
/-- Whether a structure is valid. -/
def validB (n : Int) (S R : ByteArray) : Bool := inB n 1 8 && (bitsB S n && bitsB R (n * n))

theorem bits_take_succ (s : ByteArray) (k : Nat) (h : k < s.size) : (s.data.toList.take (k + 1)).all is01 = ((s.data.toList.take k).all is01 && is01 s[k]) := by
  rw [List.take_succ_eq_append_getElem (by simpa using h), List.all_append]
  simp
  rfl
/-- Both texts' lengths fit an integer. -/
def FitB (S R : ByteArray) : Prop := S.size ≤ 9223372036854775807 ∧ R.size ≤ 9223372036854775807

end Go.Proofs.Ytadgiknnejjplaa

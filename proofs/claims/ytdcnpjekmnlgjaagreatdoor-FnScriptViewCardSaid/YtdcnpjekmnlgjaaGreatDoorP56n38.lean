/- Contracts of the program's functions and what they compute: part 38. Conditions: those that each theorem states. -/
import Derived.Test.YtdcnpjekmnlgjaaGreatDoorP56n1
import Derived.Test.YtdcnpjekmnlgjaaGreatDoorP56n6
import Derived.Test.YtdcnpjekmnlgjaaGreatDoorP56n22
import Derived.Test.YtdcnpjekmnlgjaaGreatDoorP56n37
import Derived.Test.YtdcnpjekmnlgjaaGreatDoorP56n7
import Derived.Test.YtdcnpjekmnlgjaaGreatDoorP56n15
import Derived.Test.YtdcnpjekmnlgjaaGreatDoorP56n23
import Derived.Test.YtdcnpjekmnlgjaaGreatDoorP56n32
import Derived.IntWalk
import Derived.Maps.AppendAt
import Derived.Laws.IdiomStrings
import Derived.Laws.EntriesVeiled
namespace Go.Proofs.YtdcnpjekmnlgjaaGreatDoor
open Go.RowKit
/-- One text stands before another. -/
def LB (a b : ByteArray) : Prop := Op.bytesLess a.toList b.toList = true
end Go.Proofs.YtdcnpjekmnlgjaaGreatDoor

namespace Go.Proofs.YtdcnpjekmnlgjaaGreatDoor
open Go.RowKit
set_option linter.unusedVariables false
set_option maxRecDepth 100000
theorem outT_foldl : ∀ (os : List ByteArray) (t : ByteArray), (os.foldl (fun t o => t ++ (o ++ ⟨#[10]⟩)) t).size = t.size + (os.map fun o => o.size + 1).sum
  | [], t => by simp
  | o :: os, t => by
    rw [List.foldl_cons, outT_foldl os, ByteArray.size_append, ByteArray.size_append, List.map_cons, List.sum_cons]
    show t.size + (o.size + 1) + _ = _
    omega
theorem outT_size (os : List ByteArray) : (outT os).size = (os.map fun o => o.size + 1).sum := by
  unfold outT
  rw [outT_foldl]
  show 0 + _ = _
  omega
theorem sum_take (l : List Nat) : ∀ j, (l.take j).sum ≤ l.sum := by
  induction l with
  | nil => intro j; simp
  | cons x l ih =>
    intro j
    cases j with
    | zero => simp
    | succ j => have := ih j; simp only [List.take_succ_cons, List.sum_cons]; omega
theorem outT_take (os : List ByteArray) (j : Nat) : (outT (os.take j)).size ≤ (outT os).size := by
  rw [outT_size, outT_size, List.map_take]
  exact sum_take _ _
theorem linesL_size : ∀ ls : List ByteArray, (linesL (ls.map fun s => s.data.toList)).length = (ls.map fun o => o.size + 1).sum
  | [] => rfl
  | l :: ls => by
    have := linesL_size ls
    simp only [List.map_cons, linesL, List.length_append, List.length_cons, List.sum_cons, this]
    have : l.data.toList.length = l.size := by simp
    omega
theorem linesB_size (ls : List ByteArray) : (linesB ls).size = (ls.map fun o => o.size + 1).sum := by
  rw [← linesL_size]
  show (linesL _).toArray.size = _
  simp
theorem truthB_size (b : Bool) : (truthB b).size ≤ 5 := by cases b <;> decide
end Go.Proofs.YtdcnpjekmnlgjaaGreatDoor

/- The program's Interpret: its two tests. Conditions: the elements are the structure's own. -/
import Derived.Test.YtjepegkbbbebkaaDoorHolds
import Derived.Test.YtjepegkbbbebkaaDoorMakeE
import Derived.Test.YtjepegkbbbebkaaDoorViewOf
import Derived.Test.YtjepegkbbbebkaaDoorSum
import Derived.Test.YtjepegkbbbebkaaDoorLawS
namespace Go.Proofs.YtjepegkbbbebkaaDoor
open Go.RowKit
set_option linter.unusedVariables false
set_option maxRecDepth 100000

end Go.Proofs.YtjepegkbbbebkaaDoor
/- The program's Interpret. Condition: the texts' lengths fit an integer. -/
namespace Go.Proofs.YtjepegkbbbebkaaDoor
open Go.RowKit
set_option linter.unusedVariables false
set_option maxRecDepth 100000

/-- What Interpret returns. -/
def intRes (f g : ByteArray) (n : Nat) (S R : ByteArray) : Value :=
  match viewB f g with
  | none => .tuple #[strV 0 ByteArray.empty ByteArray.empty, .bool false]
  | some (φ, ψ) => .tuple #[strV n (bitsOf (fun x => Fm.holds (stOf n S R) φ (env2 x 0)) n) (gridOf (fun x y => Fm.holds (stOf n S R) ψ (env2 x y)) n), .bool true]
theorem intRes_none {f g : ByteArray} {n : Nat} {S R : ByteArray} (h : viewB f g = none) : intRes f g n S R = .tuple #[strV 0 ByteArray.empty ByteArray.empty, .bool false] := by unfold intRes; rw [h]
theorem intRes_some {f g : ByteArray} {n : Nat} {S R : ByteArray} {φ ψ : Fm.T} (h : viewB f g = some (φ, ψ)) : intRes f g n S R = .tuple #[strV n (bitsOf (fun x => Fm.holds (stOf n S R) φ (env2 x 0)) n) (gridOf (fun x y => Fm.holds (stOf n S R) ψ (env2 x y)) n), .bool true] := by unfold intRes; rw [h]

section
variable {w wr w' : World} {n : Int} {S R : ByteArray}
theorem BoxR.ever {F G : Nat → Prop} {kb : Nat} {a : Gs.St} (h : BoxR w wr n S R) (he : EverP F G kb a wr w') (hG : ∀ b, G b → w.heap.size + 2 ≤ b) : BoxR w w' n S R :=
  ⟨(he.heap h.a.cells.2.2.2.2.2.2 (fun e => by have := hG _ e; omega)).trans h.a, (he.heap h.res.cells.2.2.2.2.2.2 (fun e => by have := hG _ e; omega)).trans h.res, h.old.trans (he.off.below h.old.size (fun b e => by have := hG _ e; omega))⟩
end
end Go.Proofs.YtjepegkbbbebkaaDoor

/- The program's viewOf: the formulas of a view. Condition: the texts' lengths fit an integer. -/
import Derived.Test.YtjepegkbbbebkaaDoorParse0
namespace Go.Proofs.YtjepegkbbbebkaaDoor
open Go.RowKit
set_option linter.unusedVariables false
set_option maxRecDepth 100000

/-- The formulas of a view. -/
def viewB (f g : ByteArray) : Option (Fm.T × Fm.T) :=
  match readB f, readB g with
  | some φ, some ψ => if Fm.free φ / 2 = 0 ∧ Fm.free ψ / 4 = 0 then some (φ, ψ) else none
  | _, _ => none
theorem viewB_none1 {f g : ByteArray} (h : readB f = none) : viewB f g = none := by unfold viewB; rw [h]
theorem viewB_none2 {f g : ByteArray} (h : readB g = none) : viewB f g = none := by unfold viewB; rw [h]; cases readB f <;> rfl
theorem viewB_some {f g : ByteArray} {φ ψ : Fm.T} (h : readB f = some φ) (h2 : readB g = some ψ) : viewB f g = if Fm.free φ / 2 = 0 ∧ Fm.free ψ / 4 = 0 then some (φ, ψ) else none := by unfold viewB; rw [h, h2]
/-- What viewOf returns. -/
def ViewP (w : World) (res : Option (Fm.T × Fm.T)) (en : Ending) (w' : World) : Prop :=
  Below w.heap.size w w' ∧ ((res = none ∧ en = .returned (.tuple #[.pointer none, .pointer none, .bool false])) ∨
    ∃ (φ ψ : Fm.T) (p q : Nat), res = some (φ, ψ) ∧ en = .returned (.tuple #[ptrV p, ptrV q, .bool true]) ∧ Tree (fun b => w.heap.size ≤ b) w' φ p ∧ Tree (fun b => w.heap.size ≤ b) w' ψ q)
end Go.Proofs.YtjepegkbbbebkaaDoor

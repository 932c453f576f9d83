/- What the laws do with a structure that came in: toStructure, szStructure, eqStructure. Condition: the texts' lengths fit an integer. -/
import Derived.Test.YtjepegkbbbebkaaGreatDoorBits
namespace Go.Proofs.YtjepegkbbbebkaaGreatDoor
open Go.RowKit
set_option linter.unusedVariables false
set_option maxRecDepth 100000

/-- A boxed structure and an empty result behind it. -/
structure BoxR (w wr : World) (n : Int) (S R : ByteArray) : Prop where
  a : SBlk wr w.heap.size n S R
  res : SBlk wr (w.heap.size + 1) 0 ByteArray.empty ByteArray.empty
  old : Below w.heap.size w wr
section
variable {w wr w' : World} {n : Int} {S R : ByteArray}
theorem BoxR.below (h : BoxR w wr n S R) (hb : Below wr.heap.size wr w') : BoxR w w' n S R :=
  ⟨h.a.below hb h.a.cells.2.2.2.2.2.2, h.res.below hb h.res.cells.2.2.2.2.2.2, h.old.trans (hb.mono h.old.size)⟩
theorem BoxR.first (w : World) (n : Int) (S R : ByteArray) : BoxR w ((boxS w n S R).alloc (.cells #[.int .i64 0, .string ByteArray.empty, .string ByteArray.empty] 24)) n S R := by
  have hB : Below (boxS w n S R).heap.size (boxS w n S R) ((boxS w n S R).alloc (.cells #[.int .i64 0, .string ByteArray.empty, .string ByteArray.empty] 24)) := (Below.refl _ _).alloc (Nat.le_refl _) _
  refine ⟨(boxS_SBlk w n S R).below hB (boxS_SBlk w n S R).cells.2.2.2.2.2.2, ?_, (boxS_below w n S R).trans (hB.mono (boxS_below w n S R).size)⟩
  have h := SBlk.new (boxS w n S R) 0 ByteArray.empty ByteArray.empty
  rw [boxS_size] at h
  exact h
theorem BoxR.fin (h : BoxR w wr n S R) (u v x : Value) : Below w.heap.size w (((wr.setCell ⟨w.heap.size + 1, 0, none⟩ u).setCell ⟨w.heap.size + 1, 1, none⟩ v).setCell ⟨w.heap.size + 1, 2, none⟩ x) :=
  ((h.old.setCell (by simp) _).setCell (by simp) _).setCell (by simp) _
end
end Go.Proofs.YtjepegkbbbebkaaGreatDoor

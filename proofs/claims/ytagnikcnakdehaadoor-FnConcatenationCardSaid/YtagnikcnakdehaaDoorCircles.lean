/- Two circles side by side: DisjointSum and CirclesOf of the program and of the reference; the law FnExactCirclesOf: it returns true. No condition but that the integers fit their kind. -/
import Derived.Test.YtagnikcnakdehaaDoorSum2
import Derived.Test.YtagnikcnakdehaaDoorCircle2
namespace Go.Proofs.YtagnikcnakdehaaDoor
open Go.RowKit
set_option linter.unusedVariables false

/-- Two boxed structures and an empty result. -/
structure PairFr (w wr : World) (n : Nat) (S R : ByteArray) (m : Nat) (S2 R2 : ByteArray) : Prop where
  a : SBlk wr w.heap.size n S R
  b : SBlk wr (w.heap.size + 1) m S2 R2
  res : SBlk wr (w.heap.size + 2) 0 ByteArray.empty ByteArray.empty
  old : Below w.heap.size w wr
theorem PairFr.below {w wr w' : World} {n m : Nat} {S R S2 R2 : ByteArray} (h : PairFr w wr n S R m S2 R2) (hb : Below wr.heap.size wr w') : PairFr w w' n S R m S2 R2 := by
  have h1 := h.res.cells.2.2.2.2.2.2
  exact ⟨h.a.below hb (by omega), h.b.below hb (by omega), h.res.below hb h1, h.old.trans (hb.mono (by omega))⟩
theorem PairFr.first (w : World) (n : Nat) (S R : ByteArray) (m : Nat) (S2 R2 : ByteArray) :
    PairFr w (((w.alloc (.cells #[.int .i64 n, .string S, .string R] 41)).alloc (.cells #[.int .i64 m, .string S2, .string R2] 41)).alloc (.cells #[.int .i64 0, .string ByteArray.empty, .string ByteArray.empty] 41)) n S R m S2 R2 := by
  have hb0 := boxS_below w n S R
  have hb1 : Below w.heap.size w (boxS (boxS w n S R) m S2 R2) := hb0.trans ((boxS_below (boxS w n S R) m S2 R2).mono (by rw [boxS_size]; omega))
  refine ⟨?_, ?_, ?_, ?_⟩
  · exact ((boxS_SBlk w n S R).below (boxS_below (boxS w n S R) m S2 R2) (by rw [boxS_size]; omega)).below ((Below.refl _ _).alloc (Nat.le_refl _) _) (by rw [boxS_size, boxS_size]; omega)
  · have h := boxS_SBlk (boxS w n S R) m S2 R2
    rw [boxS_size] at h
    exact h.below ((Below.refl _ _).alloc (Nat.le_refl _) _) (by rw [boxS_size, boxS_size]; omega)
  · have h := SBlk.new (boxS (boxS w n S R) m S2 R2) 0 ByteArray.empty ByteArray.empty
    rw [boxS_size, boxS_size] at h
    exact h
  · exact hb1.alloc hb1.size _

/-- What CirclesOf returns. -/
def circlesRes (n m : Int) : Value :=
  if inB n 3 8 && inB m 3 8 then
    sumRes false n.toNat (bitsOf (fun _ => false) n.toNat) (gridOf (nextB n.toNat) n.toNat) m.toNat (bitsOf (fun _ => false) m.toNat) (gridOf (nextB m.toNat) m.toNat)
  else .tuple #[strV 0 ByteArray.empty ByteArray.empty, .bool false]
theorem sumRes_form (o : Bool) (n : Nat) (S R : ByteArray) (m : Nat) (S2 R2 : ByteArray) : ∃ N T U b, sumRes o n S R m S2 R2 = .tuple #[strV N T U, .bool b] := by
  unfold sumRes sumV
  by_cases h : n + m ≤ 8
  · rw [if_pos h]; exact ⟨_, _, _, _, rfl⟩
  · rw [if_neg h]; exact ⟨_, _, _, _, rfl⟩
theorem circlesRes_form (n m : Int) : ∃ N T U b, circlesRes n m = .tuple #[strV N T U, .bool b] := by
  unfold circlesRes
  cases inB n 3 8 && inB m 3 8
  · exact ⟨_, _, _, _, rfl⟩
  · exact sumRes_form _ _ _ _ _ _ _

end Go.Proofs.YtagnikcnakdehaaDoor

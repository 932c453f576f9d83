/- Sums of two valid structures: sumOf of the program, l10Sum of the reference. Conditions: the structures are valid. -/
import Derived.Test.YtnhlhjehocngcaaDoorBits
import Derived.Test.YtnhlhjehocngcaaDoorValid
import Derived.Test.YtnhlhjehocngcaaDoorCircle
import Derived.StillTailTactics
namespace Go.Proofs.YtnhlhjehocngcaaDoor
open Go.RowKit
set_option linter.unusedVariables false

theorem valid_is {n : Nat} {S R : ByteArray} (h : validB n S R = true) : 1 ≤ n ∧ n ≤ 8 ∧ S.size = n ∧ R.size = n * n ∧ bitsB S n = true ∧ bitsB R (n * n : Nat) = true := by
  simp only [validB, Bool.and_eq_true, inB_iff] at h
  obtain ⟨⟨h1, h8⟩, h2, h3⟩ := h
  have h3' : bitsB R ((n * n : Nat) : Int) = true := by rw [Int.natCast_mul]; exact h3
  refine ⟨by omega, by omega, ?_, ?_, h2, h3'⟩
  · simp only [bitsB, Bool.and_eq_true, decide_eq_true_eq] at h2
    omega
  · simp only [bitsB, Bool.and_eq_true, decide_eq_true_eq] at h3'
    omega
/-- A text of bits is the text of its bits. -/
theorem bits_back {s : ByteArray} {n : Nat} (h : bitsB s n = true) : bitsOf (oneAt s) n = s := by
  simp only [bitsB, Bool.and_eq_true, decide_eq_true_eq] at h
  obtain ⟨h1, h2⟩ := h
  have hl : s.data.toList.length = n := by
    have : s.size = n := by omega
    simpa using this
  apply ByteArray.ext
  show ((List.range n).map fun i => bit (oneAt s i)).toArray = s.data
  rw [← Array.toArray_toList (xs := s.data)]
  congr 1
  apply List.ext_getElem (by simp; omega)
  intro i h3 h4
  simp only [List.getElem_map, List.getElem_range]
  have hm := List.all_eq_true.1 h2 s.data.toList[i] (List.getElem_mem h4)
  have hg : s.data.toList.getD i 0 = s.data.toList[i] := by
    rw [List.getD_eq_getElem?_getD, List.getElem?_eq_getElem h4]; rfl
  unfold oneAt
  rw [hg]
  generalize s.data.toList[i] = c at hm ⊢
  simp only [is01, Bool.or_eq_true, beq_iff_eq] at hm
  rcases hm with rfl | rfl
  · rfl
  · rfl
theorem bitsB_bitsOf (f : Nat → Bool) (n : Nat) : bitsB (bitsOf f n) n = true := by
  simp only [bitsB, Bool.and_eq_true, decide_eq_true_eq, bitsOf_size, true_and]
  rw [List.all_eq_true]
  intro c hc
  have hc : c ∈ (List.range n).map fun i => bit (f i) := hc
  obtain ⟨i, _, rfl⟩ := List.mem_map.1 hc
  cases f i
  · rfl
  · rfl
theorem valid_bits {n : Nat} (h1 : 1 ≤ n) (h8 : n ≤ 8) (s : Nat → Bool) (r : Nat → Nat → Bool) : validB n (bitsOf s n) (gridOf r n) = true := by
  simp only [validB, Bool.and_eq_true]
  refine ⟨inB_iff.2 ⟨by omega, by omega⟩, bitsB_bitsOf _ _, ?_⟩
  rw [← Int.natCast_mul]
  exact bitsB_bitsOf _ _
theorem bitsOf_append (f g : Nat → Bool) (n m : Nat) : bitsOf f n ++ bitsOf g m = bitsOf (fun x => if x < n then f x else g (x - n)) (n + m) := by
  induction m with
  | zero =>
    rw [bitsOf_zero, ba_nil, Nat.add_zero]
    exact bitsOf_congr fun i hi => by rw [if_pos hi]
  | succ m ih =>
    rw [bitsOf_succ, ← ba_assoc, ih, ← Nat.add_assoc, bitsOf_succ, if_neg (by omega), show n + m - n = m by omega]

/-- Whether an element of a sum is in the set. -/
def sumSet (n : Nat) (S S2 : ByteArray) (x : Nat) : Bool := if x < n then oneAt S x else oneAt S2 (x - n)
/-- Whether two elements of a sum are related. -/
def sumRel (o : Bool) (n : Nat) (R : ByteArray) (m : Nat) (R2 : ByteArray) (x y : Nat) : Bool :=
  if x < n then (if y < n then relAt n R x y else o) else (if y < n then false else relAt m R2 (x - n) (y - n))
def sumV (o : Bool) (n : Nat) (S R : ByteArray) (m : Nat) (S2 R2 : ByteArray) : Value :=
  strV ((n : Int) + (m : Int)) (bitsOf (sumSet n S S2) (n + m)) (gridOf (sumRel o n R m R2) (n + m))
theorem sum_set {n m : Nat} {S S2 : ByteArray} (h : bitsB S n = true) (h2 : bitsB S2 m = true) : S ++ S2 = bitsOf (sumSet n S S2) (n + m) := by
  have e := bitsOf_append (oneAt S) (oneAt S2) n m
  rw [bits_back h, bits_back h2] at e
  exact e

/-- The blocks that a sum's frame holds: the two structures, and whether ordered, at b; the result's block is empty. -/
structure SumFr (w wr : World) (o : Bool) (n : Nat) (S R : ByteArray) (m : Nat) (S2 R2 : ByteArray) : Prop where
  a : SBlk wr w.heap.size n S R
  b : SBlk wr (w.heap.size + 1) m S2 R2
  o : wr.cell? ⟨w.heap.size + 2, 0, none⟩ = some (.bool o)
  res : SBlk wr (w.heap.size + 3) 0 ByteArray.empty ByteArray.empty
  old : Below w.heap.size w wr
theorem SumFr.below {w wr w' : World} {o : Bool} {n m : Nat} {S R S2 R2 : ByteArray} (h : SumFr w wr o n S R m S2 R2) (hb : Below wr.heap.size wr w') : SumFr w w' o n S R m S2 R2 := by
  have h1 := h.res.cells.2.2.2.2.2.2
  refine ⟨h.a.below hb (by omega), h.b.below hb (by omega), ?_, h.res.below hb h1, h.old.trans (hb.mono (by omega))⟩
  rw [hb.cell (by simp; omega)]
  exact h.o
theorem SumFr.alloc {w wr : World} {o : Bool} {n m : Nat} {S R S2 R2 : ByteArray} (h : SumFr w wr o n S R m S2 R2) (x : Obj) : SumFr w (wr.alloc x) o n S R m S2 R2 :=
  h.below ((Below.refl _ _).alloc (Nat.le_refl _) _)

def sumRes (o : Bool) (n : Nat) (S R : ByteArray) (m : Nat) (S2 R2 : ByteArray) : Value :=
  .tuple #[if n + m ≤ 8 then sumV o n S R m S2 R2 else strV 0 ByteArray.empty ByteArray.empty, .bool (decide (n + m ≤ 8))]

/-- What the loops of l10Sum keep. -/
structure SumInv (w wr : World) (n : Nat) (S R : ByteArray) (m : Nat) (S2 R2 : ByteArray) (T U : ByteArray) : Prop where
  a : SBlk wr w.heap.size n S R
  b : SBlk wr (w.heap.size + 1) m S2 R2
  res : SBlk wr (w.heap.size + 2) 0 ByteArray.empty ByteArray.empty
  out : SBlk wr (w.heap.size + 3) ((n : Int) + (m : Int)) T U
  old : Below w.heap.size w wr
theorem SumInv.drew {w wr : World} {n m : Nat} {S R S2 R2 T U : ByteArray} (h : SumInv w wr n S R m S2 R2 T U) : SumInv w wr.drew n S R m S2 R2 T U := ⟨h.a, h.b, h.res, h.out, h.old.drew⟩
theorem SumInv.below {w wr w' : World} {n m : Nat} {S R S2 R2 T U : ByteArray} (h : SumInv w wr n S R m S2 R2 T U) (hb : Below wr.heap.size wr w') : SumInv w w' n S R m S2 R2 T U := by
  have h1 := h.out.cells.2.2.2.2.2.2
  exact ⟨h.a.below hb (by omega), h.b.below hb (by omega), h.res.below hb (by omega), h.out.below hb h1, h.old.trans (hb.mono (by omega))⟩
theorem SumInv.set2 {w wr : World} {n m : Nat} {S R S2 R2 T U : ByteArray} (h : SumInv w wr n S R m S2 R2 T U) (U' : ByteArray) : SumInv w (wr.setCell ⟨w.heap.size + 3, 2, none⟩ (.string U')) n S R m S2 R2 T U' :=
  ⟨h.a.far (by simp) _, h.b.far (by simp) _, h.res.far (by simp) _, h.out.set2, h.old.setCell (by simp <;> omega) _⟩

end Go.Proofs.YtnhlhjehocngcaaDoor

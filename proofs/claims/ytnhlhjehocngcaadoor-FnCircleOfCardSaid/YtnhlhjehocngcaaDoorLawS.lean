/- What the laws do with a structure that came in: toStructure, szStructure, eqStructure. Condition: the texts' lengths fit an integer. -/
import Derived.Test.YtnhlhjehocngcaaDoorBits
namespace Go.Proofs.YtnhlhjehocngcaaDoor
open Go.RowKit
set_option linter.unusedVariables false
set_option maxRecDepth 100000

/-- A structure of the laws in block b. -/
def LBlk (w : World) (b : Nat) (n : Int) (S R : ByteArray) : Prop := w.heap[b]? = some (.cells #[.int .i64 n, .string S, .string R] 35 (0, 0))
theorem LBlk.cells {w : World} {b : Nat} {n : Int} {S R : ByteArray} (h : LBlk w b n S R) :
    w.cell? ⟨b, 0, none⟩ = some (.int .i64 n) ∧ w.cell? ⟨b, 1, none⟩ = some (.string S) ∧ w.cell? ⟨b, 2, none⟩ = some (.string R) ∧ b < w.heap.size := by
  unfold LBlk at h
  have hb : b < w.heap.size := by
    rcases Nat.lt_or_ge b w.heap.size with h' | h'
    · exact h'
    · simp [Array.getElem?_eq_none h'] at h
  refine ⟨?_, ?_, ?_, hb⟩ <;> simp [World.cell?, h]
theorem LBlk.new (w : World) (n : Int) (S R : ByteArray) : LBlk (w.alloc (.cells #[.int .i64 n, .string S, .string R] 35)) w.heap.size n S R := heap_alloc_new w _
theorem LBlk.below {w w' : World} {b B : Nat} {n : Int} {S R : ByteArray} (h : LBlk w b n S R) (hb : Below B w w') (hB : b < B) : LBlk w' b n S R := (hb.block b hB).trans h
theorem below_box (w : World) (n : Int) (S R : ByteArray) : Below w.heap.size w (w.alloc (.cells #[.int .i64 n, .string S, .string R] 35)) := (Below.refl _ _).alloc (Nat.le_refl _) _

theorem toStructure_any (n : Int) (S R : ByteArray) (w : World) : Calls Tryd.prog 16 #[strV n S R] w fun e w' => e = .returned (strV n S R) ∧ Below w.heap.size w w' := by
  unfold strV
  go_enter Tryd.func16, Tryd.ntmps16
  go_wp2_with fail
  have h0 := SBlk.new (w.alloc (.cells #[.int .i64 n, .string S, .string R] 35)) n S R
  have h1 := h0.below ((Below.refl _ _).alloc (Nat.le_refl _) (.cells #[.int .i64 n, .string S, .string R] 25)) (by simp)
  simp only [World.size_alloc] at h1
  refine bodyPost_ret (v := strV n S R) ?_ rfl ⟨rfl, ?_⟩
  · exact results_str rfl rfl h1
  · exact (((Below.refl w.heap.size w).alloc (Nat.le_refl _) _).alloc (by simp) _).alloc (by simp; omega) _
theorem szStructure_any (n : Int) (S R : ByteArray) (w : World) (hS : S.size ≤ 9223372036854775807) (hR : R.size ≤ 9223372036854775807) :
    Calls Tryd.prog 14 #[strV n S R, .int .i64 1048576] w fun e w' => e = .returned (.int .i64 (if (S.size : Int) + (R.size : Int) ≤ 1048576 then 1048576 - ((S.size : Int) + (R.size : Int)) else -1)) ∧ Below w.heap.size w w' := by
  unfold strV
  have HB := Lib.hid (below_box w n S R)
  by_cases h1 : 1048576 < S.size
  · have HE : Hid ((if (S.size : Int) + (R.size : Int) ≤ 1048576 then 1048576 - ((S.size : Int) + (R.size : Int)) else -1) = (-1 : Int)) := if_neg (by omega)
    go_enter Tryd.func14, Tryd.ntmps14
    go_wp2_with fail
    go_ret
    exact ⟨ret_int (by first | omega | (rw [HE.out])), HB.out⟩
  · by_cases h2 : 1048576 < S.size + R.size
    · have HE : Hid ((if (S.size : Int) + (R.size : Int) ≤ 1048576 then 1048576 - ((S.size : Int) + (R.size : Int)) else -1) = (-1 : Int)) := if_neg (by omega)
      go_enter Tryd.func14, Tryd.ntmps14
      go_wp2_with fail
      go_ret
      exact ⟨ret_int (by first | omega | (rw [HE.out])), HB.out⟩
    · have HE : Hid ((if (S.size : Int) + (R.size : Int) ≤ 1048576 then 1048576 - ((S.size : Int) + (R.size : Int)) else -1) = 1048576 - ((S.size : Int) + (R.size : Int))) := if_pos (by omega)
      go_enter Tryd.func14, Tryd.ntmps14
      go_wp2_with fail
      go_ret
      exact ⟨ret_int (by first | omega | (rw [HE.out]; omega)), HB.out⟩
/-- A boxed structure and an empty result behind it. -/
structure BoxR (w wr : World) (n : Int) (S R : ByteArray) : Prop where
  a : SBlk wr w.heap.size n S R
  res : SBlk wr (w.heap.size + 1) 0 ByteArray.empty ByteArray.empty
  old : Below w.heap.size w wr
section
variable {w wr w' : World} {n : Int} {S R : ByteArray}
theorem BoxR.below (h : BoxR w wr n S R) (hb : Below wr.heap.size wr w') : BoxR w w' n S R :=
  ⟨h.a.below hb h.a.cells.2.2.2.2.2.2, h.res.below hb h.res.cells.2.2.2.2.2.2, h.old.trans (hb.mono h.old.size)⟩
theorem BoxR.first (w : World) (n : Int) (S R : ByteArray) : BoxR w ((boxS w n S R).alloc (.cells #[.int .i64 0, .string ByteArray.empty, .string ByteArray.empty] 25)) n S R := by
  have hB : Below (boxS w n S R).heap.size (boxS w n S R) ((boxS w n S R).alloc (.cells #[.int .i64 0, .string ByteArray.empty, .string ByteArray.empty] 25)) := (Below.refl _ _).alloc (Nat.le_refl _) _
  refine ⟨(boxS_SBlk w n S R).below hB (boxS_SBlk w n S R).cells.2.2.2.2.2.2, ?_, (boxS_below w n S R).trans (hB.mono (boxS_below w n S R).size)⟩
  have h := SBlk.new (boxS w n S R) 0 ByteArray.empty ByteArray.empty
  rw [boxS_size] at h
  exact h
theorem BoxR.fin (h : BoxR w wr n S R) (u v x : Value) : Below w.heap.size w (((wr.setCell ⟨w.heap.size + 1, 0, none⟩ u).setCell ⟨w.heap.size + 1, 1, none⟩ v).setCell ⟨w.heap.size + 1, 2, none⟩ x) :=
  ((h.old.setCell (by simp) _).setCell (by simp) _).setCell (by simp) _
end
end Go.Proofs.YtnhlhjehocngcaaDoor

/- The program's stillSame: whether two lists in the same way are so with one more element. Conditions: the structures are valid, the lists are of their elements. -/
import Derived.Test.YtadgiknnejjplaaSince
import Derived.Test.YtadgiknnejjplaaFoot
import Derived.Test.YtadgiknnejjplaaGame2
import Derived.Test.YtadgiknnejjplaaRead
import Derived.Outline
namespace Go.Proofs.Ytadgiknnejjplaa
open Go.RowKit
set_option linter.unusedVariables false

/-- A structure's plain form. -/
def stOf (n : Nat) (S R : ByteArray) : Gs.St := ⟨n, oneAt S, relAt n R⟩
theorem inSet_b (n : Int) (S R : ByteArray) (x : Nat) (w : World) (hx : x < S.size) (hS : S.size ≤ 9223372036854775807) :
    Calls Try.prog 56 #[strV n S R, .int .i64 (x : Int)] w fun e w' => e = .returned (.bool (oneAt S x)) ∧ Below w.heap.size w w' :=
  (inSet_any n S R x w hx hS).mono fun _ _ ⟨h1, h2⟩ => ⟨h1, by rw [h2]; exact boxS_below _ _ _ _⟩
theorem inRel_b (n : Nat) (S R : ByteArray) (x y : Nat) (w : World) (hx : x < n) (hy : y < n) (hn : n ≤ 8) (hR : R.size = n * n) :
    Calls Try.prog 57 #[strV n S R, .int .i64 (x : Int), .int .i64 (y : Int)] w fun e w' => e = .returned (.bool (relAt n R x y)) ∧ Below w.heap.size w w' :=
  (inRel_any n S R x y w hx hy hn hR).mono fun _ _ ⟨h1, h2⟩ => ⟨h1, by rw [h2]; exact boxS_below _ _ _ _⟩

/-- Two structures in the blocks B and B + 1. -/
structure Two (w wr : World) (n : Nat) (S R : ByteArray) (m : Nat) (S2 R2 : ByteArray) : Prop where
  a : SBlk wr w.heap.size n S R
  b : SBlk wr (w.heap.size + 1) m S2 R2
  old : Below w.heap.size w wr
theorem Two.below {w wr w' : World} {n m : Nat} {S R S2 R2 : ByteArray} (h : Two w wr n S R m S2 R2) (hb : Below wr.heap.size wr w') : Two w w' n S R m S2 R2 := by
  have h1 := h.b.cells.2.2.2.2.2.2
  exact ⟨h.a.below hb (by omega), h.b.below hb h1, h.old.trans (hb.mono (by omega))⟩
theorem Two.new (w : World) (n : Nat) (S R : ByteArray) (m : Nat) (S2 R2 : ByteArray) : Two w (boxS (boxS w n S R) m S2 R2) n S R m S2 R2 := by
  refine ⟨(boxS_SBlk w n S R).below (boxS_below (boxS w n S R) m S2 R2) (by rw [boxS_size]; omega), ?_, (boxS_below w n S R).trans ((boxS_below _ _ _ _).mono (by rw [boxS_size]; omega))⟩
  have h := boxS_SBlk (boxS w n S R) m S2 R2
  rw [boxS_size] at h
  exact h

theorem still_no {a b : Gs.St} {la lb : List Nat} {x y : Nat} (h : a.s x ≠ b.s y ∨ a.r x x ≠ b.r y y) : Gs.still a la b lb x y = false := by
  unfold Gs.still
  rcases h with h | h
  · rw [show (a.s x == b.s y) = false by simpa using h]; rfl
  · rw [show (a.r x x == b.r y y) = false by simpa using h]; simp
/-- What is asked of a pair. -/
def pairOk (a b : Gs.St) (x y : Nat) (p : Nat × Nat) : Bool := ((decide (p.1 = x)) == (decide (p.2 = y))) && (a.r p.1 x == b.r p.2 y) && (a.r x p.1 == b.r y p.2)
theorem still_yes {a b : Gs.St} {la lb : List Nat} {x y : Nat} (h : a.s x = b.s y) (h' : a.r x x = b.r y y) (k : (la.zip lb).all (pairOk a b x y) = true) : Gs.still a la b lb x y = true := by
  unfold Gs.still
  rw [h, h']
  simp only [beq_self_eq_true, Bool.true_and]
  exact k
theorem still_not {a b : Gs.St} {la lb : List Nat} {x y : Nat} {k : Nat} (hk : k < la.length) (hk' : k < lb.length) (h : pairOk a b x y (la[k], lb[k]) = false) : Gs.still a la b lb x y = false := by
  rw [← Bool.not_eq_true, Gs.still]
  intro hh
  rw [Bool.and_eq_true] at hh
  have hm : (la[k], lb[k]) ∈ la.zip lb := by
    have : (la.zip lb)[k]'(by rw [List.length_zip]; omega) = (la[k], lb[k]) := by simp
    rw [← this]
    exact List.getElem_mem _
  have := List.all_eq_true.1 hh.2 _ hm
  have e : pairOk a b x y (la[k], lb[k]) = true := this
  rw [h] at e; cases e
theorem zip_take_succ {a b : Gs.St} {la lb : List Nat} {x y : Nat} {k : Nat} (hk : k < la.length) (hk' : k < lb.length) (h : ((la.zip lb).take k).all (pairOk a b x y) = true) (h' : pairOk a b x y (la[k], lb[k]) = true) : ((la.zip lb).take (k + 1)).all (pairOk a b x y) = true := by
  rw [List.take_succ_eq_append_getElem (by rw [List.length_zip]; omega), List.all_append, h]
  simp [h']

end Go.Proofs.Ytadgiknnejjplaa

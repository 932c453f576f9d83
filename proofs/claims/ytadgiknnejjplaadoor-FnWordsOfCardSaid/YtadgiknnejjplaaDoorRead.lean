/- The set and the relation of a structure read: inSet, inRel, l1Set, l1Rel. Conditions: the places lie in the texts. -/
import Derived.Test.YtadgiknnejjplaaDoorMake
import Derived.IntWalk
namespace Go.Proofs.YtadgiknnejjplaaDoor
open Go.RowKit
set_option linter.unusedVariables false

/-- Whether a place of a text holds a 1. -/
def oneAt (s : ByteArray) (k : Nat) : Bool := s.data.toList.getD k 0 == 49
theorem oneAt_at (s : ByteArray) (k : Nat) (h : k < s.size) : ((s[k].toNat : Int) == 49) = oneAt s k := by
  have e : s.data.toList.getD k 0 = s[k] := by
    have hx : k < s.data.toList.length := by simpa using h
    rw [List.getD_eq_getElem?_getD, List.getElem?_eq_getElem hx]
    rfl
  unfold oneAt
  rw [e]
  generalize s[k] = c
  rw [Bool.eq_iff_iff, beq_iff_eq, beq_iff_eq]
  constructor
  · intro h
    apply UInt8.toNat_inj.1
    have : (49 : UInt8).toNat = 49 := rfl
    omega
  · intro h
    rw [h]; rfl
/-- The world after a structure was boxed. -/
def boxS (w : World) (n : Int) (S R : ByteArray) : World := w.alloc (.cells #[.int .i64 n, .string S, .string R] 25)
theorem boxS_below (w : World) (n : Int) (S R : ByteArray) : Below w.heap.size w (boxS w n S R) := (Below.refl _ _).alloc (Nat.le_refl _) _
theorem boxS_SBlk (w : World) (n : Int) (S R : ByteArray) : SBlk (boxS w n S R) w.heap.size n S R := SBlk.new w n S R
theorem boxS_size (w : World) (n : Int) (S R : ByteArray) : (boxS w n S R).heap.size = w.heap.size + 1 := by simp [boxS]

/-- Whether an element is related. -/
def relAt (n : Nat) (R : ByteArray) (x y : Nat) : Bool := oneAt R (x * n + y)

theorem inSet_any (n : Int) (S R : ByteArray) (x : Nat) (w : World) (hx : x < S.size) (hS : S.size ≤ 9223372036854775807) :
    Calls Tryd.prog 90 #[strV n S R, .int .i64 (x : Int)] w fun e w' => e = .returned (.bool (oneAt S x)) ∧ w' = boxS w n S R := by
  unfold strV
  have e1 := oneAt_at S x hx
  generalize oneAt S x = b at *
  go_enter Tryd.func90, Tryd.ntmps90
  go_wp2_with fail
  go_ret
  exact ⟨rfl, rfl⟩
theorem l1Set_any (n : Int) (S R : ByteArray) (x : Nat) (w : World) (hx : x < S.size) (hS : S.size ≤ 9223372036854775807) :
    Calls Tryd.prog 173 #[strV n S R, .int .i64 (x : Int)] w fun e w' => e = .returned (.bool (oneAt S x)) ∧ w' = boxS w n S R := by
  unfold strV
  have e1 := oneAt_at S x hx
  generalize oneAt S x = b at *
  go_enter Tryd.func173, Tryd.ntmps173
  go_wp2_with fail
  go_ret
  exact ⟨rfl, rfl⟩

theorem rel_place {n x y : Nat} {R : ByteArray} (hx : x < n) (hy : y < n) (hn : n ≤ 8) (hR : R.size = n * n) :
    ∃ p : Nat, p = x * n ∧ p + y < R.size ∧ p ≤ 56 ∧ IntKind.i64.wrap ((x : Int) * (n : Int)) = (p : Int) := by
  have h1 : x * n ≤ 7 * 8 := Nat.mul_le_mul (by omega) hn
  refine ⟨x * n, rfl, ?_, by omega, ?_⟩
  · rw [hR]
    have : x * n + y < x * n + n := by omega
    have h2 : x * n + n ≤ n * n := by
      rw [← Nat.succ_mul]
      exact Nat.mul_le_mul_right _ hx
    omega
  · rw [← Int.natCast_mul]
    exact IntWalk.i64_in _ (by omega)

theorem inRel_any (n : Nat) (S R : ByteArray) (x y : Nat) (w : World) (hx : x < n) (hy : y < n) (hn : n ≤ 8) (hR : R.size = n * n) :
    Calls Tryd.prog 89 #[strV n S R, .int .i64 (x : Int), .int .i64 (y : Int)] w fun e w' => e = .returned (.bool (relAt n R x y)) ∧ w' = boxS w n S R := by
  unfold strV relAt
  obtain ⟨p, hp, hpy, hp56, hw⟩ := rel_place hx hy hn hR
  rw [← hp]
  clear hp
  have hw2 : IntKind.i64.wrap ((p : Int) + (y : Int)) = ((p + y : Nat) : Int) := IntWalk.i64_in _ (by omega)
  generalize p + y = q at *
  have e1 := oneAt_at R q hpy
  generalize oneAt R q = b at *
  have hR64 : R.size ≤ 64 := by rw [hR]; exact Nat.mul_le_mul hn hn
  clear hR
  go_enter Tryd.func89, Tryd.ntmps89
  go_wp2_with fail
  go_ret
  exact ⟨rfl, rfl⟩
theorem l1Rel_any (n : Nat) (S R : ByteArray) (x y : Nat) (w : World) (hx : x < n) (hy : y < n) (hn : n ≤ 8) (hR : R.size = n * n) :
    Calls Tryd.prog 174 #[strV n S R, .int .i64 (x : Int), .int .i64 (y : Int)] w fun e w' => e = .returned (.bool (relAt n R x y)) ∧ w' = boxS w n S R := by
  unfold strV relAt
  obtain ⟨p, hp, hpy, hp56, hw⟩ := rel_place hx hy hn hR
  rw [← hp]
  clear hp
  have hw2 : IntKind.i64.wrap ((p : Int) + (y : Int)) = ((p + y : Nat) : Int) := IntWalk.i64_in _ (by omega)
  generalize p + y = q at *
  have e1 := oneAt_at R q hpy
  generalize oneAt R q = b at *
  have hR64 : R.size ≤ 64 := by rw [hR]; exact Nat.mul_le_mul hn hn
  clear hR
  go_enter Tryd.func174, Tryd.ntmps174
  go_wp2_with fail
  go_ret
  exact ⟨rfl, rfl⟩
end Go.Proofs.YtadgiknnejjplaaDoor

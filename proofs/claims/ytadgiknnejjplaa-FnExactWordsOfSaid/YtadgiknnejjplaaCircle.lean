/- Circles: l15Many, the circles of the program and of the reference, CircleOf, and the law FnExactCircleOf: it returns true. No condition but that the integers fit their kind. -/
import Derived.Test.YtadgiknnejjplaaMake
import Derived.Test.YtadgiknnejjplaaOrd
namespace Go.Proofs.Ytadgiknnejjplaa
open Go.RowKit

theorem ba_assoc (a b c : ByteArray) : a ++ b ++ c = a ++ (b ++ c) := by
  apply ByteArray.ext
  simp [ByteArray.data_append, Array.append_assoc]
theorem ba_nil (a : ByteArray) : a ++ ByteArray.empty = a := by
  apply ByteArray.ext
  simp
theorem nil_ba (a : ByteArray) : ByteArray.empty ++ a = a := by
  apply ByteArray.ext
  simp
/-- A text n times. -/
def rep (s : ByteArray) : Nat → ByteArray
  | 0 => ByteArray.empty
  | n + 1 => s ++ rep s n
theorem rep_double (s : ByteArray) (n : Nat) : rep (s ++ s) n = rep s (2 * n) := by
  induction n with
  | zero => rfl
  | succ n ih =>
    rw [show 2 * (n + 1) = 2 * n + 1 + 1 by omega]
    simp only [rep, ih, ba_assoc]
theorem rep_size (s : ByteArray) (n : Nat) : (rep s n).size = n * s.size := by
  induction n with
  | zero => simp [rep]
  | succ n ih => simp only [rep, ByteArray.size_append, ih, Nat.succ_mul]; omega

theorem many_step (out s T : ByteArray) (m : Nat) (h : out ++ rep s m = T) : (if m % 2 = 1 then out ++ s else out) ++ rep (s ++ s) (m / 2) = T := by
  rw [rep_double]
  by_cases h1 : m % 2 = 1
  · rw [if_pos h1, ba_assoc, ← h]
    congr 1
    rw [show m = 2 * (m / 2) + 1 by omega]
    show s ++ rep s (2 * ((2 * (m / 2) + 1) / 2)) = rep s (2 * (m / 2) + 1)
    rw [show (2 * (m / 2) + 1) / 2 = m / 2 by omega]
    rfl
  · rw [if_neg h1, ← h, show 2 * (m / 2) = m by omega]

theorem mod_beq (n x y : Nat) : (((x : Int) + 1) % (n : Int) == (y : Int)) = decide ((x + 1) % n = y) := by
  rw [show ((x : Int) + 1) = ((x + 1 : Nat) : Int) by omega, ← Int.natCast_emod]
  generalize (x + 1) % n = k
  rw [Bool.eq_iff_iff, beq_iff_eq, decide_eq_true_eq]
  omega
/-- Whether two places of a circle of n are next to each other. -/
def nextB (n x y : Nat) : Bool := decide ((x + 1) % n = y) || decide ((y + 1) % n = x)

def circleV (n : Nat) : Value := strV n (bitsOf (fun _ => false) n) (gridOf (nextB n) n)

end Go.Proofs.Ytadgiknnejjplaa

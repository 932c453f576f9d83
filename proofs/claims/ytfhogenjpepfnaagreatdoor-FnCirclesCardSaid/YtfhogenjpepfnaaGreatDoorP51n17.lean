/- Contracts of the program's functions and what they compute: part 17. Conditions: those that each theorem states. -/
import Derived.Test.YtfhogenjpepfnaaGreatDoorP51n1
import Derived.Test.YtfhogenjpepfnaaGreatDoorP51n16
import Derived.Test.YtfhogenjpepfnaaGreatDoorP51n3
import Derived.Test.YtfhogenjpepfnaaGreatDoorP51n4
import Derived.Test.YtfhogenjpepfnaaGreatDoorShelf
import Derived.StillTailTactics
import Derived.IntWalk
namespace Go.Proofs.YtfhogenjpepfnaaGreatDoor.Gs
set_option linter.unusedVariables false
/-- Whether an element behind an order is related as the next element of another structure. -/
def fitsI (a b : St) (o : List Nat) (x : Nat) : Bool :=
  (a.s x == b.s o.length) && (a.r x x == b.r o.length o.length) && (List.range o.length).all fun k => (a.r x (o.getD k 0) == b.r o.length k) && (a.r (o.getD k 0) x == b.r k o.length)
theorem fitsI_iff {a b : St} {o : List Nat} {x : Nat} : fitsI a b o x = true ↔ a.s x = b.s o.length ∧ a.r x x = b.r o.length o.length ∧ ∀ k, k < o.length → a.r x (o.getD k 0) = b.r o.length k ∧ a.r (o.getD k 0) x = b.r k o.length := by
  unfold fitsI
  simp only [Bool.and_eq_true, beq_iff_eq, List.all_eq_true, List.mem_range, and_assoc]
/-- All orders that begin with some elements, where so many are left. -/
def shapesF (a b : St) : Nat → List Nat → List (List Nat)
  | 0, o => [o]
  | k + 1, o => (List.range a.n).flatMap fun x => if o.contains x || !fitsI a b o x then [] else shapesF a b k (o ++ [x])
/-- All orders that turn a into b, which has as many elements. -/
def shapes (a b : St) : List (List Nat) := shapesF a b a.n []
end Go.Proofs.YtfhogenjpepfnaaGreatDoor.Gs

namespace Go.Proofs.YtfhogenjpepfnaaGreatDoor.Gs
set_option linter.unusedVariables false
theorem nodup_le {α : Type} [DecidableEq α] : ∀ {L M : List α}, L.Nodup → (∀ x ∈ L, x ∈ M) → L.length ≤ M.length
  | [], M, _, _ => Nat.zero_le _
  | x :: L, M, hd, hs => by
    have h := List.nodup_cons.1 hd
    have hx := hs x (by simp)
    have ih := nodup_le (L := L) (M := M.erase x) h.2 (fun y hy => (List.mem_erase_of_ne (by rintro rfl; exact h.1 hy)).2 (hs y (by simp [hy])))
    rw [List.length_erase_of_mem hx] at ih
    have : 0 < M.length := List.length_pos_of_mem hx
    simp only [List.length_cons]; omega
end Go.Proofs.YtfhogenjpepfnaaGreatDoor.Gs

namespace Go.Proofs.YtfhogenjpepfnaaGreatDoor
set_option linter.unusedVariables false
namespace Col
/-- Those that are less. -/
def less (ds : List (List Nat)) (d : List Nat) : List (List Nat) := (srt ds).filter fun e => decide (cmp e d < 0)
end Col
end Go.Proofs.YtfhogenjpepfnaaGreatDoor

namespace Go.Proofs.YtfhogenjpepfnaaGreatDoor
open Go.RowKit
def inB (n lo hi : Int) : Bool := decide (lo ≤ n) && decide (n ≤ hi)
theorem inB_true {n lo hi : Int} (h : lo ≤ n) (h' : n ≤ hi) : inB n lo hi = true := by simp [inB, h, h']
theorem inB_lo {n lo hi : Int} (h : ¬ lo ≤ n) : inB n lo hi = false := by simp [inB, h]
theorem inB_hi {n lo hi : Int} (h : ¬ n ≤ hi) : inB n lo hi = false := by simp [inB, h]
theorem inB_iff {n lo hi : Int} : inB n lo hi = true ↔ lo ≤ n ∧ n ≤ hi := by simp [inB]
theorem l1In_any (n lo hi : Int) (w : World) :
    Calls Tryz.prog 17 #[.int .i64 n, .int .i64 lo, .int .i64 hi] w fun e w' => e = .returned (.bool (inB n lo hi)) ∧ w = w' := by
  by_cases h : lo ≤ n
  · by_cases h' : n ≤ hi
    · have H := Lib.hid (inB_true h h')
      go_enter Tryz.func17, Tryz.ntmps17
      go_wp2
      go_ret
      exact ⟨ret_bool H.out.symm, rfl⟩
    · have H := Lib.hid (inB_hi (lo := lo) h')
      go_enter Tryz.func17, Tryz.ntmps17
      go_wp2
      go_ret
      exact ⟨ret_bool H.out.symm, rfl⟩
  · have H := Lib.hid (inB_lo (hi := hi) h)
    go_enter Tryz.func17, Tryz.ntmps17
    go_wp2
    go_ret
    exact ⟨ret_bool H.out.symm, rfl⟩
end Go.Proofs.YtfhogenjpepfnaaGreatDoor

namespace Go.Proofs.YtfhogenjpepfnaaGreatDoor
open Go.RowKit
theorem dropWhile_nil (p : UInt8 → Bool) : ∀ l : List UInt8, l.dropWhile p = [] ↔ l.all p = true
  | [] => by simp
  | x :: l => by
    have ih := dropWhile_nil p l
    cases h : p x
    · simp [List.dropWhile, h]
    · simp only [List.dropWhile, h, List.all_cons, Bool.true_and]; exact ih
theorem dropWhile_head (p : UInt8 → Bool) : ∀ l : List UInt8, ∀ x m, l.dropWhile p = x :: m → p x = false
  | [], _, _, h => by simp at h
  | y :: l, x, m, h => by
    cases hy : p y
    · simp only [List.dropWhile, hy, List.cons.injEq] at h
      rw [← h.1]; exact hy
    · simp only [List.dropWhile, hy] at h
      exact dropWhile_head p l x m h
theorem trim_nil (p : UInt8 → Bool) (l : List UInt8) : ((l.reverse.dropWhile p).reverse.dropWhile p = []) ↔ l.all p = true := by
  rw [dropWhile_nil, List.all_reverse]
  cases h : l.reverse.dropWhile p with
  | nil =>
    have := (dropWhile_nil p _).1 h
    rw [List.all_reverse] at this
    simp [this]
  | cons x m =>
    have hx := dropWhile_head p _ x m h
    constructor
    · intro ha
      simp [hx] at ha
    · intro ha
      rw [← List.all_reverse] at ha
      rw [(dropWhile_nil p _).2 ha] at h
      cases h
end Go.Proofs.YtfhogenjpepfnaaGreatDoor

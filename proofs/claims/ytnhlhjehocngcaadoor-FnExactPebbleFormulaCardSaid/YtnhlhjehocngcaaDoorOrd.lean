/- The orders of chapter 13 by numbers alone: OrdersAlike, OrderRounds and EvenSentence of the program and of the reference, each by a contract that says what it returns; no condition but that the integers fit their kind. -/
import Derived.Test.YtnhlhjehocngcaaDoorNum
import Derived.Deep.LoopGhost
namespace Go.Proofs.YtnhlhjehocngcaaDoor
open Go.RowKit

theorem l1In_is {b : Bool} {n lo hi : Int} (w : World) (h : inB n lo hi = b) :
    Calls Tryd.prog 23 #[.int .i64 n, .int .i64 lo, .int .i64 hi] w fun e w' => e = .returned (.bool b) ∧ w = w' := by
  subst h; exact l1In_any _ _ _ _
def readyB (n m r : Int) : Bool := inB n 0 1000000 && inB m 0 1000000 && inB r 0 10

def ordersB (n m r : Int) : Bool := readyB n m r && alikeB n m r
theorem readyB_rounds {n m r : Int} (h : readyB n m r = true) : 0 ≤ r ∧ r ≤ 10 := by
  simp only [readyB, Bool.and_eq_true, inB_iff] at h
  exact h.2
theorem readyB_n {n m r : Int} (h : readyB n m r = true) : 0 ≤ n ∧ n ≤ 1000000 := by
  simp only [readyB, Bool.and_eq_true, inB_iff] at h
  exact h.1.1
theorem readyB_m {n m r : Int} (h : readyB n m r = true) : 0 ≤ m ∧ m ≤ 1000000 := by
  simp only [readyB, Bool.and_eq_true, inB_iff] at h
  exact h.1.2

/-- How far a test holds from k on, for at most so many numbers. -/
def cnt (p : Nat → Bool) : Nat → Nat → Nat
  | 0, k => k
  | f + 1, k => if p k then cnt p f (k + 1) else k
def roundsOf (n m : Int) : Int := if inB n 0 1000000 && inB m 0 1000000 then ((cnt (fun k => alikeB n m ((k : Int) + 1)) 10 0 : Nat) : Int) else -1

theorem cnt_step {p : Nat → Bool} {k : Nat} (h : k < 10) (hp : p k = true) : cnt p (10 - (k + 1)) (k + 1) = cnt p (10 - k) k := by
  have : 10 - k = (10 - (k + 1)) + 1 := by omega
  rw [this]; simp [cnt, hp]
theorem cnt_stop {p : Nat → Bool} {k : Nat} (h : k < 10) (hp : p k = false) : cnt p (10 - k) k = k := by
  have : 10 - k = (10 - (k + 1)) + 1 := by omega
  rw [this]; simp [cnt, hp]
theorem cnt_end {p : Nat → Bool} {k : Nat} (h : ¬ k < 10) : cnt p (10 - k) k = k := by
  have : 10 - k = 0 := by omega
  rw [this]; simp [cnt]

def evenB (len r : Int) : Bool := inB len 0 1000000 && inB r 0 10 && decide (len < max 2 (enough r + 1))
theorem alike_next {k r : Int} : alikeB k (k + 1) r = decide (enough r ≤ k) := by
  rw [Bool.eq_iff_iff]
  simp only [alikeB, Bool.or_eq_true, Bool.and_eq_true, decide_eq_true_eq]
  omega
theorem enough_bound {r : Int} (h : 0 ≤ r) (h' : r ≤ 10) : 0 ≤ enough r ∧ enough r ≤ 1023 := by
  rcases rounds_cases h h' with rfl | rfl | rfl | rfl | rfl | rfl | rfl | rfl | rfl | rfl | rfl <;> decide
theorem even_yes {len r : Int} (k : Nat) (hr : readyB len len r = true) (h : ¬ ((k : Int) + 1 ≤ len)) (hk : (k : Int) ≤ max 1 (enough r)) : evenB len r = true := by
  simp only [readyB, Bool.and_eq_true] at hr
  simp only [evenB, hr.1.1, hr.2, Bool.true_and, decide_eq_true_eq]
  omega
theorem even_no {len r : Int} (k : Nat) (h1 : 1 ≤ k) (h : (k : Int) + 1 ≤ len) (ha : alikeB k ((k : Int) + 1) r = true) : evenB len r = false := by
  rw [alike_next, decide_eq_true_eq] at ha
  simp only [evenB, Bool.and_eq_false_iff, decide_eq_false_iff_not]
  right; omega
theorem even_step {r : Int} (k : Nat) (ha : alikeB k ((k : Int) + 1) r = false) : ((k + 1 : Nat) : Int) ≤ max 1 (enough r) := by
  rw [alike_next, decide_eq_false_iff_not] at ha
  omega
theorem even_none {len r : Int} (h : readyB len len r = false) : evenB len r = false := by
  cases e : inB len 0 1000000
  · simp [evenB, e]
  · cases e' : inB r 0 10
    · simp [evenB, e']
    · simp [readyB, e, e'] at h
theorem even_far {r : Int} (k : Nat) (h0 : 0 ≤ r) (h1 : r ≤ 10) (hk : (k : Int) ≤ max 1 (enough r)) : (k : Int) < 2000 := by
  have := enough_bound h0 h1
  omega

end Go.Proofs.YtnhlhjehocngcaaDoor

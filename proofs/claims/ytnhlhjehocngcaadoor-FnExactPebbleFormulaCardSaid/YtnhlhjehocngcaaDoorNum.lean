/- Small numbers: whether a number lies between two others, and whether two orders are alike. Plain functions and the contracts of the functions that compute them; no condition but that the rounds lie from 0 to 10. -/
import Derived.Test.YtnhlhjehocngcaaDoorBase
namespace Go.Proofs.YtnhlhjehocngcaaDoor
open Go.RowKit

def inB (n lo hi : Int) : Bool := decide (lo ≤ n) && decide (n ≤ hi)
theorem inB_true {n lo hi : Int} (h : lo ≤ n) (h' : n ≤ hi) : inB n lo hi = true := by simp [inB, h, h']
theorem inB_lo {n lo hi : Int} (h : ¬ lo ≤ n) : inB n lo hi = false := by simp [inB, h]
theorem inB_hi {n lo hi : Int} (h : ¬ n ≤ hi) : inB n lo hi = false := by simp [inB, h]
theorem inB_iff {n lo hi : Int} : inB n lo hi = true ↔ lo ≤ n ∧ n ≤ hi := by simp [inB]

theorem l1In_any (n lo hi : Int) (w : World) :
    Calls Tryd.prog 23 #[.int .i64 n, .int .i64 lo, .int .i64 hi] w fun e w' => e = .returned (.bool (inB n lo hi)) ∧ w = w' := by
  by_cases h : lo ≤ n
  · by_cases h' : n ≤ hi
    · have H := Lib.hid (inB_true h h')
      go_enter Tryd.func23, Tryd.ntmps23
      go_wp2
      go_ret
      exact ⟨ret_bool H.out.symm, rfl⟩
    · have H := Lib.hid (inB_hi (lo := lo) h')
      go_enter Tryd.func23, Tryd.ntmps23
      go_wp2
      go_ret
      exact ⟨ret_bool H.out.symm, rfl⟩
  · have H := Lib.hid (inB_lo (hi := hi) h)
    go_enter Tryd.func23, Tryd.ntmps23
    go_wp2
    go_ret
    exact ⟨ret_bool H.out.symm, rfl⟩

/-- Two to the power of the rounds, minus 1. -/
def enough (r : Int) : Int := 2 ^ r.toNat - 1
def alikeB (n m r : Int) : Bool := decide (n = m) || (decide (enough r ≤ n) && decide (enough r ≤ m))

theorem alike_eq {n m r : Int} (h : n = m) : alikeB n m r = true := by simp [alikeB, h]
theorem alike_yes {n m r : Int} (h : enough r ≤ n) (h' : enough r ≤ m) : alikeB n m r = true := by simp [alikeB, h, h']
theorem alike_no1 {n m r : Int} (h0 : ¬ n = m) (h : ¬ enough r ≤ n) : alikeB n m r = false := by simp [alikeB, h, h0]
theorem alike_no2 {n m r : Int} (h0 : ¬ n = m) (h' : ¬ enough r ≤ m) : alikeB n m r = false := by simp [alikeB, h', h0]

theorem rounds_cases {r : Int} (h : 0 ≤ r) (h' : r ≤ 10) : r = 0 ∨ r = 1 ∨ r = 2 ∨ r = 3 ∨ r = 4 ∨ r = 5 ∨ r = 6 ∨ r = 7 ∨ r = 8 ∨ r = 9 ∨ r = 10 := by omega

end Go.Proofs.YtnhlhjehocngcaaDoor

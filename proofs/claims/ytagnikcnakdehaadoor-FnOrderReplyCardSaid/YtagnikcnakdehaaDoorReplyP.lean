/- Replies in orders, plainly: there is one in alike orders, and what follows of one. No condition. -/
import Derived.Test.YtagnikcnakdehaaDoorReply
import Derived.Test.YtagnikcnakdehaaDoorGame4
import Derived.Test.YtagnikcnakdehaaDoorNew
import Derived.Test.YtagnikcnakdehaaDoorCircle
namespace Go.Proofs.YtagnikcnakdehaaDoor
open Go.RowKit
set_option linter.unusedVariables false

theorem fits_iff {n m r x y : Int} : fitsB n m r x y = true ↔ (0 ≤ y ∧ y ≤ m - 1) ∧ (x = y ∨ enough (r - 1) ≤ x ∧ enough (r - 1) ≤ y) ∧ (n - 1 - x = m - 1 - y ∨ enough (r - 1) ≤ n - 1 - x ∧ enough (r - 1) ≤ m - 1 - y) := by
  simp only [fitsB, bothB, alikeB, Bool.and_eq_true, Bool.or_eq_true, decide_eq_true_eq, inB_iff]
theorem enough_pred {r : Int} (h : 1 ≤ r) : enough r = 2 * enough (r - 1) + 1 := by
  unfold enough
  obtain ⟨k, hk⟩ := Int.eq_ofNat_of_zero_le (show 0 ≤ r - 1 by omega)
  have e1 : r.toNat = k + 1 := by omega
  have e2 : (r - 1).toNat = k := by omega
  rw [e1, e2, Int.pow_succ]
  omega
theorem enough_nn {r : Int} : 0 ≤ enough r := by
  unfold enough
  have : (1 : Nat) ≤ 2 ^ r.toNat := Nat.one_le_two_pow
  have h2 : ((2 ^ r.toNat : Nat) : Int) = 2 ^ r.toNat := by simp
  omega
theorem reply_no {n m r x y : Int} (h : ReplyIs n m r x y false) (hr : 1 ≤ r) (hx : 0 ≤ x) (hx2 : x < n) : alikeB n m r = false := by
  rcases h with ⟨h, _⟩ | ⟨h1, h2⟩
  · cases h
  · rcases h2 with ⟨h, _⟩ | ⟨_, _, h2⟩
    · cases h
    · rw [← Bool.not_eq_true]
      intro ha
      simp only [alikeB, Bool.or_eq_true, Bool.and_eq_true, decide_eq_true_eq] at ha
      have e := enough_pred hr
      have e0 := enough_nn (r := r - 1)
      have no : ∀ z, 0 ≤ z → z ≤ enough (r - 1) → ¬ fitsB n m r x z = true := fun z a b => by rw [h1 z a b]; simp
      rw [fits_iff] at h2
      generalize hE : enough (r - 1) = E at *
      by_cases c1 : x ≤ E
      · have := no x hx c1
        rw [fits_iff, hE] at this
        have c2 := no E e0 (Int.le_refl _)
        rw [fits_iff, hE] at c2
        omega
      · have c2 := no E e0 (Int.le_refl _)
        rw [fits_iff, hE] at c2
        omega
theorem reply_yes {n m r x y : Int} (h : ReplyIs n m r x y true) : fitsB n m r x y = true := by
  rcases h with ⟨_, _, _, h, _⟩ | ⟨_, h⟩
  · exact h
  · rcases h with ⟨_, _, _, h⟩ | ⟨h, _⟩
    · exact h
    · cases h
/-- The structure of an order. -/
def oSt (n : Nat) : Gs.St := wSt (rep ⟨#[121]⟩ n)
theorem alike_nat {k n m : Nat} (h : (n : Int) = m ∨ enough (k : Int) ≤ n ∧ enough (k : Int) ≤ m) : Gs.alike k n m := by
  have e : enough (k : Int) = ((2 ^ k - 1 : Nat) : Int) := by
    unfold enough
    have : (1 : Nat) ≤ 2 ^ k := Nat.one_le_two_pow
    rw [Int.toNat_natCast, Int.natCast_sub this]
    simp
  rw [e] at h
  unfold Gs.alike
  generalize 2 ^ k - 1 = E at *
  omega
end Go.Proofs.YtagnikcnakdehaaDoor

/- The laws FnOrdersAlike and FnOrderRounds: plain facts on when orders are alike, and the walks: each returns true. Condition: the bytes are readable. -/
import Derived.Test.YtagnikcnakdehaaDoorOrd
import Derived.Test.YtagnikcnakdehaaDoorRd
namespace Go.Proofs.YtagnikcnakdehaaDoor
open Go.RowKit

theorem alike_iff {n m r : Int} : alikeB n m r = true ↔ n = m ∨ (enough r ≤ n ∧ enough r ≤ m) := by
  simp only [alikeB, Bool.or_eq_true, Bool.and_eq_true, decide_eq_true_eq]
theorem alike_symm (n m r : Int) : alikeB m n r = alikeB n m r := by
  rw [Bool.eq_iff_iff, alike_iff, alike_iff]; omega
theorem alike_third {n m p r : Int} (h : alikeB n m r = true) : alikeB n p r = alikeB m p r := by
  rw [alike_iff] at h
  rw [Bool.eq_iff_iff, alike_iff, alike_iff]; omega
theorem enough_mono {r s : Int} (h : r ≤ s) : enough r ≤ enough s := by
  unfold enough
  have h1 : (2 : Nat) ^ r.toNat ≤ 2 ^ s.toNat := Nat.pow_le_pow_right (by decide) (by omega)
  have h2 : ((2 ^ r.toNat : Nat) : Int) ≤ ((2 ^ s.toNat : Nat) : Int) := by exact_mod_cast h1
  simpa using h2
theorem cnt_spec (p : Nat → Bool) : ∀ f k, k ≤ cnt p f k ∧ cnt p f k ≤ k + f ∧ (∀ j, k ≤ j → j < cnt p f k → p j = true) ∧ (cnt p f k = k + f ∨ p (cnt p f k) = false)
  | 0, k => by simp [cnt]; omega
  | f + 1, k => by
    cases h : p k
    · simp [cnt, h]; omega
    · have ih := cnt_spec p f (k + 1)
      have e : cnt p (f + 1) k = cnt p f (k + 1) := by simp [cnt, h]
      rw [e]
      obtain ⟨i1, i2, i3, i4⟩ := ih
      refine ⟨by omega, by omega, fun j hj hj' => ?_, ?_⟩
      · by_cases hk : j = k
        · rw [hk]; exact h
        · exact i3 j (by omega) hj'
      · rcases i4 with i4 | i4
        · left; omega
        · right; exact i4
theorem rounds_spec {n m : Int} (n0 : 0 ≤ n) (n1 : n ≤ 1000000) (m0 : 0 ≤ m) (m1 : m ≤ 1000000) :
    ∃ K : Int, roundsOf n m = K ∧ 0 ≤ K ∧ K ≤ 10 ∧ alikeB n m K = true ∧ (K = 10 ∨ alikeB n m (K + 1) = false) := by
  have h := cnt_spec (fun k => alikeB n m ((k : Int) + 1)) 10 0
  obtain ⟨_, h2, h3, h4⟩ := h
  generalize hK : cnt (fun k => alikeB n m ((k : Int) + 1)) 10 0 = K at *
  refine ⟨K, ?_, by omega, by omega, ?_, ?_⟩
  · simp [roundsOf, inB_true n0 n1, inB_true m0 m1, hK]
  · by_cases h0 : K = 0
    · subst h0
      rw [alike_iff]
      right
      have : enough ((0 : Nat) : Int) = 0 := rfl
      rw [this]
      exact ⟨n0, m0⟩
    · have := h3 (K - 1) (by omega) (by omega)
      have e : (((K - 1 : Nat) : Int) + 1) = K := by omega
      simpa [e] using this
  · rcases h4 with h4 | h4
    · left; omega
    · right; exact h4
theorem rounds_le {n m r K : Int} (h : alikeB n m K = true) (h' : K = 10 ∨ alikeB n m (K + 1) = false) (r1 : r ≤ 10) : alikeB n m r = decide (r ≤ K) := by
  rw [alike_iff] at h
  by_cases hr : r ≤ K
  · have := enough_mono hr
    rw [decide_eq_true hr, alike_iff]
    omega
  · rw [decide_eq_false hr]
    rcases h' with h' | h'
    · omega
    · have := enough_mono (show K + 1 ≤ r by omega)
      rw [← Bool.not_eq_true, alike_iff] at h'
      rw [← Bool.not_eq_true, alike_iff]
      omega
theorem implOrdersAlike_is {b : Bool} {n m r : Int} (w : World) (h : ordersB n m r = b) :
    Calls Tryd.prog 34 #[.int .i64 n, .int .i64 m, .int .i64 r] w fun e w' => e = .returned (.bool b) ∧ w = w' := by
  subst h; exact implOrdersAlike_any _ _ _ _
theorem orders_ready {n m r : Int} (n0 : 0 ≤ n) (n1 : n ≤ 1000000) (m0 : 0 ≤ m) (m1 : m ≤ 1000000) (r0 : 0 ≤ r) (r1 : r ≤ 10) : ordersB n m r = alikeB n m r := by
  simp [ordersB, readyB, inB_true n0 n1, inB_true m0 m1, inB_true r0 r1]

theorem IsRow.len_le {k : IntKind} {w : World} {a : Option Addr} {len cap : Nat} {zs : List Int} (h : IsRow k w a len cap zs) : len ≤ maxLen := by
  rcases h with ⟨rfl, rfl, rfl, rfl⟩ | ⟨x, rfl, h2, h3, h4, h5, h6⟩ <;> omega

theorem rounds_not {n m : Int} (h : inB n 0 1000000 = false ∨ inB m 0 1000000 = false) : roundsOf n m = -1 := by
  rcases h with h | h <;> simp [roundsOf, h]

end Go.Proofs.YtagnikcnakdehaaDoor

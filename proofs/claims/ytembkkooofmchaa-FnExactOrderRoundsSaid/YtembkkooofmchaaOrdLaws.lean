/- The walks of FnExactOrdersAlike, FnExactOrderRounds and FnExactEvenSentence: each returns true. No condition but that the integers fit their kind. -/
import Derived.Test.YtembkkooofmchaaOrd
namespace Go.Proofs.Ytembkkooofmchaa
open Go.RowKit

theorem fnExactOrdersAlike_walk (a0 a1 a2 : Int) (w : World) (_w0 : (Lit.int .i64 a0).wf = true) (_w1 : (Lit.int .i64 a1).wf = true) (_w2 : (Lit.int .i64 a2).wf = true) :
    Calls Try.prog 3 #[.int .i64 a0, .int .i64 a1, .int .i64 a2] w fun e w' => e = .returned (.bool true) ∧ Below w.heap.size w w' := by
  go_enter Try.func3, Try.ntmps3
  go_wp2_with fail
  refine (specOrdersAlike_any _ _ _ _).mono ?_; rintro e w' ⟨rfl, rfl⟩
  go_wp2_with fail
  refine (implOrdersAlike_any _ _ _ _).mono ?_; rintro e w' ⟨rfl, rfl⟩
  generalize ordersB a0 a1 a2 = b
  go_wp2
  go_ret
  exact ⟨rfl, Below.refl _ _⟩

theorem fnExactOrderRounds_walk (a0 a1 : Int) (w : World) (_w0 : (Lit.int .i64 a0).wf = true) (_w1 : (Lit.int .i64 a1).wf = true) :
    Calls Try.prog 4 #[.int .i64 a0, .int .i64 a1] w fun e w' => e = .returned (.bool true) ∧ Below w.heap.size w w' := by
  go_enter Try.func4, Try.ntmps4
  go_wp2_with fail
  refine (specOrderRounds_any _ _ _).mono ?_; rintro e w' ⟨rfl, rfl⟩
  go_wp2_with fail
  refine (implOrderRounds_any _ _ _).mono ?_; rintro e w' ⟨rfl, rfl⟩
  generalize roundsOf a0 a1 = b
  go_wp2
  go_ret
  exact ⟨rfl, Below.refl _ _⟩

theorem fnExactEvenSentence_walk (a0 a1 : Int) (w : World) (_w0 : (Lit.int .i64 a0).wf = true) (_w1 : (Lit.int .i64 a1).wf = true) :
    Calls Try.prog 5 #[.int .i64 a0, .int .i64 a1] w fun e w' => e = .returned (.bool true) ∧ Below w.heap.size w w' := by
  go_enter Try.func5, Try.ntmps5
  go_wp2_with fail
  refine (specEvenSentence_any _ _ _).mono ?_; rintro e w' ⟨rfl, rfl⟩
  go_wp2_with fail
  refine (implEvenSentence_any _ _ _).mono ?_; rintro e w' ⟨rfl, rfl⟩
  generalize evenB a0 a1 = b
  go_wp2
  go_ret
  exact ⟨rfl, Below.refl _ _⟩
end Go.Proofs.Ytembkkooofmchaa

/- The sum of two valid structures of the reference: l10Sum. Conditions: the structures are valid, and together small. -/
import Derived.Test.YtagnikcnakdehaaDoorSum
namespace Go.Proofs.YtagnikcnakdehaaDoor
open Go.RowKit
set_option linter.unusedVariables false

theorem sum_bit (o : Bool) (n : Nat) (R : ByteArray) (m : Nat) (R2 : ByteArray) (x y : Nat) (hy : y < n + m) :
    bitsOf (fun k => sumRel o n R m R2 (k / (n + m)) (k % (n + m))) (x * (n + m) + (y + 1)) = bitsOf (fun k => sumRel o n R m R2 (k / (n + m)) (k % (n + m))) (x * (n + m) + y) ++ bitS (sumRel o n R m R2 x y) := by
  show bitsOf (fun k => sumRel o n R m R2 (k / (n + m)) (k % (n + m))) (x * (n + m) + y + 1) = _
  rw [bitsOf_succ]
  exact congrArg (fun b => bitsOf (fun k => sumRel o n R m R2 (k / (n + m)) (k % (n + m))) (x * (n + m) + y) ++ bitS b) (grid_at (r := sumRel o n R m R2) (x := x) hy)
theorem l1Bit_calm (b : Bool) (w : World) : Calls Tryd.prog 125 #[.bool b] w fun e w' => e = .returned (.string (bitS b)) ∧ w' = w :=
  (l1Bit_any b w).mono fun _ _ h => ⟨h.1, h.2.symm⟩

end Go.Proofs.YtagnikcnakdehaaDoor

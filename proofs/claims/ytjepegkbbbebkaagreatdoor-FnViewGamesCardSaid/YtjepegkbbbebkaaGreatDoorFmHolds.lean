/- The reference's l2Holds, l2True: when a formula is true of elements. Conditions: the text is not long, the structure is valid, the elements are its own. -/
import Derived.Test.YtjepegkbbbebkaaGreatDoorFmEnd
import Derived.Test.YtjepegkbbbebkaaGreatDoorStill
import Derived.Test.YtjepegkbbbebkaaGreatDoorMapP
import Derived.Deep.DeepCutAuto
namespace Go.Proofs.YtjepegkbbbebkaaGreatDoor
open Go.RowKit
set_option linter.unusedVariables false
set_option maxHeartbeats 2000000
set_option maxRecDepth 100000

theorem l1Set_bel (n : Int) (S R : ByteArray) (x : Nat) (w : World) (hx : x < S.size) (hS : S.size ≤ 9223372036854775807) :
    Calls Tryz.prog 136 #[strV n S R, .int .i64 (x : Int)] w fun e w' => e = .returned (.bool (oneAt S x)) ∧ Below w.heap.size w w' :=
  (l1Set_any n S R x w hx hS).mono fun _ _ ⟨h1, h2⟩ => ⟨h1, by rw [h2]; exact boxS_below _ _ _ _⟩
theorem l1Rel_bel (n : Nat) (S R : ByteArray) (x y : Nat) (w : World) (hx : x < n) (hy : y < n) (hn : n ≤ 8) (hR : R.size = n * n) :
    Calls Tryz.prog 137 #[strV n S R, .int .i64 (x : Int), .int .i64 (y : Int)] w fun e w' => e = .returned (.bool (relAt n R x y)) ∧ Below w.heap.size w w' :=
  (l1Rel_any n S R x y w hx hy hn hR).mono fun _ _ ⟨h1, h2⟩ => ⟨h1, by rw [h2]; exact boxS_below _ _ _ _⟩
theorem ret_bi {b c : Bool} {x y : Int} (h : b = c) (h2 : x = y) : Ending.returned (.tuple #[.bool b, .int .i64 x]) = .returned (.tuple #[.bool c, .int .i64 y]) := by rw [h, h2]
theorem cnt_mono (p : Nat → Bool) (k n : Nat) (h : k ≤ n) : Fm.cnt p k ≤ Fm.cnt p n ∧ Fm.cnt p n ≤ Fm.cnt p k + (n - k) := by
  induction n with
  | zero => have : k = 0 := by omega
            subst this; exact ⟨Nat.le_refl _, by omega⟩
  | succ n ih =>
    rcases Nat.lt_or_ge n k with h1 | h1
    · have : k = n + 1 := by omega
      subst this; exact ⟨Nat.le_refl _, by omega⟩
    · have := ih h1
      rw [show Fm.cnt p (n + 1) = Fm.cnt p n + (if p n then 1 else 0) from rfl]
      constructor
      · omega
      · split <;> omega
end Go.Proofs.YtjepegkbbbebkaaGreatDoor

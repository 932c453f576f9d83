/- The reference's l2True, HoldsIn: whether a formula without free variables is true in a structure. Conditions: the structure is valid; the text's length fits an integer. -/
import Derived.Test.YtjepegkbbbebkaaGreatDoorFmHolds
import Derived.Test.YtjepegkbbbebkaaGreatDoorSum
namespace Go.Proofs.YtjepegkbbbebkaaGreatDoor
open Go.RowKit
set_option linter.unusedVariables false
set_option maxRecDepth 100000

/-- Whether a text is a formula without free variables that is true, and whether it is such a formula. -/
def hin (f : ByteArray) (a : Gs.St) : Bool × Bool :=
  match readB f with
  | none => (false, false)
  | some φ => if Fm.free φ = 0 then (Fm.holds a φ (fun _ => 0), true) else (false, false)
theorem readB_at {f : ByteArray} {φ : Fm.T} (h : readB f = some φ) : Fm.At f.data.toList 0 φ ∧ f.size ≤ 4000 := by
  unfold readB at h
  obtain ⟨h1, h2⟩ := Fm.read_iff.1 h
  exact ⟨by rw [h1]; exact Fm.At.whole φ, by simpa using h2⟩
theorem ret_bb {a b c d : Bool} (h : a = c) (h2 : b = d) : Ending.returned (.tuple #[.bool a, .bool b]) = .returned (.tuple #[.bool c, .bool d]) := by rw [h, h2]
end Go.Proofs.YtjepegkbbbebkaaGreatDoor

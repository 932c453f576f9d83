/- The reference's l11View: whether a text is a formula with some first variables free alone. Condition: the text's length fits an integer. -/
import Derived.Test.YtjepegkbbbebkaaGreatDoorFmEnd
namespace Go.Proofs.YtjepegkbbbebkaaGreatDoor
open Go.RowKit
set_option linter.unusedVariables false
set_option maxRecDepth 100000

theorem readO_at {f : ByteArray} {φ : Fm.T} (h : readB f = some φ) : Fm.At f.data.toList 0 φ ∧ f.size ≤ 4000 := by
  unfold readB at h
  obtain ⟨h1, h2⟩ := Fm.read_iff.1 h
  exact ⟨by rw [h1]; exact Fm.At.whole φ, by simpa using h2⟩
/-- Whether a text is a formula whose free variables' number divides so. -/
def okV (f : ByteArray) (d : Nat) : Bool :=
  match readB f with
  | none => false
  | some φ => decide (Fm.free φ / d = 0)
theorem okV_none {f : ByteArray} {d : Nat} (h : readB f = none) : okV f d = false := by unfold okV; rw [h]
theorem okV_some {f : ByteArray} {d : Nat} {φ : Fm.T} (h : readB f = some φ) : okV f d = decide (Fm.free φ / d = 0) := by unfold okV; rw [h]
end Go.Proofs.YtjepegkbbbebkaaGreatDoor

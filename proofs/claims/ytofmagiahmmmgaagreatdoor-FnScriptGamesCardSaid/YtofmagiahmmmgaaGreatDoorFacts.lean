/- A closed fact on the whole translation: every function may be entered. No condition. -/
import Derived.Test.YtofmagiahmmmgaaGreatDoorRows
import Derived.KernelRfl
namespace Go.Proofs.YtofmagiahmmmgaaGreatDoor
theorem mayEnter_yes : Tryz.prog.mayEnter = true := by kernel_rfl
theorem and_yes {a b : Bool} (ha : a = true) (hb : b = true) : (a && b) = true := by rw [ha, hb]; rfl
end Go.Proofs.YtofmagiahmmmgaaGreatDoor

/- A closed fact on the whole translation: nothing of it was lifted. No condition. -/
import Derived.Test.YtofmagiahmmmgaaGreatDoorRows
import Derived.KernelRfl
namespace Go.Proofs.YtofmagiahmmmgaaGreatDoor
theorem lifts_yes : Tryz.prog.liftsFinal = false := by kernel_rfl
end Go.Proofs.YtofmagiahmmmgaaGreatDoor

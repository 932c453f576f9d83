/- A closed fact on the whole translation: its main function. No condition. -/
import Derived.Test.YtfhogenjpepfnaaGreatDoorRows
import Derived.KernelRfl
namespace Go.Proofs.YtfhogenjpepfnaaGreatDoor
theorem mainIs_yes : Tryz.prog.mainIs = some (true, "807131e3fe894f57aa8c51bcf82e25ef417f4f12ed693d5ef6e61a21fce91e2d".toList) := by kernel_rfl
end Go.Proofs.YtfhogenjpepfnaaGreatDoor

/- A closed fact on the whole translation: its main function. No condition. -/
import Derived.Test.YtlkemhhkcanmoaaGreatDoorRows
import Derived.KernelRfl
namespace Go.Proofs.YtlkemhhkcanmoaaGreatDoor
theorem mainIs_yes : Tryz.prog.mainIs = some (true, "fb4669ebb2b2248ea1b56b98df7ee40a86f48af88601e2d93b2cdeb5996d742d".toList) := by kernel_rfl
end Go.Proofs.YtlkemhhkcanmoaaGreatDoor

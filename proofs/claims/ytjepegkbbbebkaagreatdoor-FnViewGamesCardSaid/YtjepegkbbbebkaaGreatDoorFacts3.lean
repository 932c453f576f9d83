/- A closed fact on the whole translation: its main function. No condition. -/
import Derived.Test.YtjepegkbbbebkaaGreatDoorRows
import Derived.KernelRfl
namespace Go.Proofs.YtjepegkbbbebkaaGreatDoor
theorem mainIs_yes : Tryz.prog.mainIs = some (true, "a4c69395cf4ef431ca59f8a7c20cd3ec838d1e3525a143ef6870c0b11698ef88".toList) := by kernel_rfl
end Go.Proofs.YtjepegkbbbebkaaGreatDoor

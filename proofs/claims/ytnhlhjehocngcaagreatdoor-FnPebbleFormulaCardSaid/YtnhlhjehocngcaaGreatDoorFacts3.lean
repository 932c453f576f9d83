/- A closed fact on the whole translation: its main function. No condition. -/
import Derived.Test.YtnhlhjehocngcaaGreatDoorRows
import Derived.KernelRfl
namespace Go.Proofs.YtnhlhjehocngcaaGreatDoor
theorem mainIs_yes : Tryz.prog.mainIs = some (true, "c3da5c9b6f033a2e555ef872215679d309fda3e13d06f6de81f3ffdbd0ae64a2".toList) := by kernel_rfl
end Go.Proofs.YtnhlhjehocngcaaGreatDoor

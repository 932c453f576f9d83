/- A closed fact on the whole translation: its main function. No condition. -/
import Derived.Test.YtihomcedaaiidaaGreatDoorRows
import Derived.KernelRfl
namespace Go.Proofs.YtihomcedaaiidaaGreatDoor
theorem mainIs_yes : Tryz.prog.mainIs = some (true, "7ae0fd063f8665d80e393bd3b6c4873f0c71155a011e51043cebc6b5137cb6be".toList) := by kernel_rfl
end Go.Proofs.YtihomcedaaiidaaGreatDoor

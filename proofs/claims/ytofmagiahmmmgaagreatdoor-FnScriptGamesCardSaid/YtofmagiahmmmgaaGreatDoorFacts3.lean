/- A closed fact on the whole translation: its main function. No condition. -/
import Derived.Test.YtofmagiahmmmgaaGreatDoorRows
import Derived.KernelRfl
namespace Go.Proofs.YtofmagiahmmmgaaGreatDoor
theorem mainIs_yes : Tryz.prog.mainIs = some (true, "8425f45cdb3536ca4ca4a6b6b971e81b46adcd85c03271fb98766305d9efa9fc".toList) := by kernel_rfl
end Go.Proofs.YtofmagiahmmmgaaGreatDoor

/- A closed fact on the whole translation: its main function. No condition. -/
import Derived.Test.YtdcnpjekmnlgjaaGreatDoorRows
import Derived.KernelRfl
namespace Go.Proofs.YtdcnpjekmnlgjaaGreatDoor
theorem mainIs_yes : Tryz.prog.mainIs = some (true, "7ce2e8d24539948438c84fe9f236251d02d7c500f1b7a7d3b4b7cd5e3435da9d".toList) := by kernel_rfl
end Go.Proofs.YtdcnpjekmnlgjaaGreatDoor

/- A closed fact on the whole translation: its main function. No condition. -/
import Derived.Test.YthmhjihppbeodaaGreatDoorRows
import Derived.KernelRfl
namespace Go.Proofs.YthmhjihppbeodaaGreatDoor
theorem mainIs_yes : Tryz.prog.mainIs = some (true, "0fae261d622575da9de2f72155360ff4c19d342de23c625690cf61710929f8fd".toList) := by kernel_rfl
end Go.Proofs.YthmhjihppbeodaaGreatDoor

/- A closed fact on the whole translation: its main function. No condition. -/
import Derived.Test.YtdonjgjkhndfcaaGreatDoorRows
import Derived.KernelRfl
namespace Go.Proofs.YtdonjgjkhndfcaaGreatDoor
theorem mainIs_yes : Tryz.prog.mainIs = some (true, "717f8c33ef3896623527e4a3c3eb6b808a16547cc6c2dd22c2d3137c7cb9d23c".toList) := by kernel_rfl
end Go.Proofs.YtdonjgjkhndfcaaGreatDoor

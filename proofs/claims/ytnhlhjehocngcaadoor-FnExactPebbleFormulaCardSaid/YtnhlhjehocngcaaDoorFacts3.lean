/- A closed fact on the whole translation: its main function. No condition. -/
import Derived.Test.YtnhlhjehocngcaaDoorRows
import Derived.KernelRfl
namespace Go.Proofs.YtnhlhjehocngcaaDoor
theorem mainIs_yes : Tryd.prog.mainIs = some (true, "9d613e525f986f105557f4849e5997f65fcb0bc20530fbaa0fc1e0fd016cc14e".toList) := by kernel_rfl
end Go.Proofs.YtnhlhjehocngcaaDoor

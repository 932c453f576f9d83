/- A closed fact on the whole translation: its main function. No condition. -/
import Derived.Test.YtagnikcnakdehaaDoorRows
import Derived.KernelRfl
namespace Go.Proofs.YtagnikcnakdehaaDoor
theorem mainIs_yes : Tryd.prog.mainIs = some (true, "365d1d00283f439058443a42570fa1de1062e0a32af63d889c4cad29205af609".toList) := by kernel_rfl
end Go.Proofs.YtagnikcnakdehaaDoor

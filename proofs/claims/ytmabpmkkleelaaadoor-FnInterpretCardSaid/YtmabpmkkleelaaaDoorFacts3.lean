/- A closed fact on the whole translation: its main function. No condition. -/
import Derived.Test.YtmabpmkkleelaaaDoorRows
import Derived.KernelRfl
namespace Go.Proofs.YtmabpmkkleelaaaDoor
theorem mainIs_yes : Tryd.prog.mainIs = some (true, "39a8d1931b5df37ec81e0c121472349e7a529c85a4ef88de8bfe582d59a899d8".toList) := by kernel_rfl
end Go.Proofs.YtmabpmkkleelaaaDoor

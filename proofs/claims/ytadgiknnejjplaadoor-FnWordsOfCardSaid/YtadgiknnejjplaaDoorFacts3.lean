/- A closed fact on the whole translation: its main function. No condition. -/
import Derived.Test.YtadgiknnejjplaaDoorRows
import Derived.KernelRfl
namespace Go.Proofs.YtadgiknnejjplaaDoor
theorem mainIs_yes : Tryd.prog.mainIs = some (true, "7210484a981338b726400ab854c31a6c8e6b96cdf364c660cc757aee226f76f0".toList) := by kernel_rfl
end Go.Proofs.YtadgiknnejjplaaDoor

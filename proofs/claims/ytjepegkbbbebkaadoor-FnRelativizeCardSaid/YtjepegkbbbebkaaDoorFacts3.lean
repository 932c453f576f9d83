/- A closed fact on the whole translation: its main function. No condition. -/
import Derived.Test.YtjepegkbbbebkaaDoorRows
import Derived.KernelRfl
namespace Go.Proofs.YtjepegkbbbebkaaDoor
theorem mainIs_yes : Tryd.prog.mainIs = some (true, "1303f585724b2c601edef4b4ddb6ebfc386657129655bb9a519aaba166b573d8".toList) := by kernel_rfl
end Go.Proofs.YtjepegkbbbebkaaDoor

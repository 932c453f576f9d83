/- A closed fact on the whole translation: nothing of it was lifted. No condition. -/
import Derived.Test.YtnhlhjehocngcaaDoorRows
import Derived.KernelRfl
namespace Go.Proofs.YtnhlhjehocngcaaDoor
theorem lifts_yes : Tryd.prog.liftsFinal = false := by kernel_rfl
end Go.Proofs.YtnhlhjehocngcaaDoor

/- A closed fact on the whole translation: its main function. No condition. -/
import Derived.Test.YtenjojakjdaamaaDoorRows
import Derived.KernelRfl
namespace Go.Proofs.YtenjojakjdaamaaDoor
theorem mainIs_yes : Tryd.prog.mainIs = some (true, "6f3631b8465d82acbf45a59697f93a7a0289f1ddab4b15f617acd657ba227127".toList) := by kernel_rfl
end Go.Proofs.YtenjojakjdaamaaDoor

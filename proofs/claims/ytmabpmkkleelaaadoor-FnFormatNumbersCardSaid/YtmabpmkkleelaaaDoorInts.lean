/- Lists of numbers: toIntS and eqIntS of the laws. Condition: the list is not too long. -/
import Derived.Test.YtmabpmkkleelaaaDoorRd
import Derived.OwnWalk
import Derived.Laws.OwnMore
import Derived.Deep.QuietTactic
import Derived.BigQuiet
namespace Go.Proofs.YtmabpmkkleelaaaDoor
open Go.RowKit
set_option linter.unusedVariables false

/-- A slice of a call's own that holds numbers. -/
structure IntsOut (w w' : World) (v : Value) (ys : List Int) : Prop where
  form : v = .slice (some ⟨w.heap.size, 0, none⟩) ys.length ys.length
  lt : w.heap.size < w'.heap.size
  cells : ∀ j (h : j < ys.length), w'.cell? ⟨w.heap.size, j, none⟩ = some (.int .i64 ys[j])
  old : Below w.heap.size w w'

theorem intInfo3 : (Tryd.prog.info? 3).map (fun i => (i.zero, i.size, i.bytes)) = some (some (.int .i64 0), 1, 8) := by kernel_rfl

end Go.Proofs.YtmabpmkkleelaaaDoor

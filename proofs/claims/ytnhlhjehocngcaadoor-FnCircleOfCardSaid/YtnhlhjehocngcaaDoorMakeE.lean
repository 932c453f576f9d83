/- makeStructure with two tests that turn the holder's map and nothing else that was there. No condition but what the tests' contracts say. -/
import Derived.Test.YtnhlhjehocngcaaDoorBits
import Derived.Test.YtnhlhjehocngcaaDoorHold0
namespace Go.Proofs.YtnhlhjehocngcaaDoor
open Go.RowKit
set_option linter.unusedVariables false

section
variable {F G : Nat → Prop} {kb : Nat} {a : Gs.St} {w wr w' : World} {n : Nat} {S R : ByteArray}
end
end Go.Proofs.YtnhlhjehocngcaaDoor

/- No contract of the library's is needed at this translation. No condition. -/
import Derived.Test.YtadgiknnejjplaaProg
namespace Go.Proofs
end Go.Proofs

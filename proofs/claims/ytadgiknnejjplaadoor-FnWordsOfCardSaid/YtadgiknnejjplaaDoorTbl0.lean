/- A slice that begins its block is kept where its block is. No condition. -/
import Derived.Test.YtadgiknnejjplaaDoorBase
import Derived.OwnWalk
namespace Go.Proofs.YtadgiknnejjplaaDoor
open Go.RowKit
theorem own_block0 {w w' : World} {B : Nat} {e : TypeId} {z : Nat} {v : Value} {n : Nat} {xs : List Value} (h : w.ownsRow B e z v n xs) (hb : ∀ b, v.ownBlock = some b → w'.heap[b]? = w.heap[b]?) : w'.ownsRow B e z v n xs := by
  refine ⟨h.1, ?_⟩
  rcases h.2 with hn | ⟨g, cap, cur, rfl, hb', hgg, rest⟩
  · exact .inl hn
  · exact .inr ⟨g, cap, cur, rfl, hb', by rw [hb g rfl]; exact hgg, rest⟩
end Go.Proofs.YtadgiknnejjplaaDoor

/- Regions whose order is open and whose calls make memory: one walk in the order of the text, in every world since the one that is met. Conditions: each operation but the calls leaves the world alone, each call turns nothing that was there. -/
import Derived.Test.YtadgiknnejjplaaDoorBase
import Derived.Deep.QuietTactic
import Derived.BigQuiet
namespace Go.Proofs.YtadgiknnejjplaaDoor
open Go.RowKit
set_option linter.unusedVariables false

/-- The worlds since w: of what w had nothing has turned. -/
def Since (w : World) : Type := {w' : World // Below w.heap.size w w'}
def Since.w {w : World} (s : Since w) : World := s.1
theorem Since.below {w : World} (s : Since w) : Below w.heap.size w s.w := s.2
theorem Since.cell {w : World} {p : Addr} {v : Value} (h : w.cell? p = some v) (s : Since w) : s.w.cell? p = some v :=
  (s.below.cell (World.block_lt_of_cell? w p h)).trans h
theorem Since.heap {w : World} {b : Nat} {o : Obj} (h : w.heap[b]? = some o) (s : Since w) : s.w.heap[b]? = some o := by
  have hb : b < w.heap.size := by
    rcases Nat.lt_or_ge b w.heap.size with h' | h'
    · exact h'
    · simp [Array.getElem?_eq_none h'] at h
  exact (s.below.block b hb).trans h
def Since.refl (w : World) : Since w := ⟨w, Below.refl _ _⟩
instance since_some (w : World) : Nonempty (Since w) := ⟨Since.refl w⟩
theorem wp_region_since {P : Program} {id : Nat} {Q : Exit → Act → World → Prop} {a : Act} {w : World} {l : List Oper} (hm : P.follows .mixedOrders = true) (hB : Region.lexB .any l.toArray = true)
    (h : wpQuiet P l.toArray (fun w' => ∃ s : Since w, w' = s.w) (fun a' => ∀ w', Below w.heap.size w w' → Q .normal a' w') l a) : (Code.region id l.toArray true).wp P Q a w := by
  simp only [Region.lexB, Bool.and_eq_true] at hB
  refine wp_region_any hm (wpAny_of_quiet (C := fun w' => ∃ s : Since w, w' = s.w) (Q := fun a' => ∀ w', Below w.heap.size w w' → Q .normal a' w') (fun _ w' ⟨s, hs⟩ h => h w' (by rw [hs]; exact s.below)) _ _ _ _ ⟨⟨{ w with drawn := w.drawn + 1 }, ⟨rfl, rfl, rfl, Nat.le_refl _, fun _ _ => rfl⟩⟩, rfl⟩ ?_)
  have := wpAnyQ_lex (P := P) (C := fun w' => ∃ s : Since w, w' = s.w) (md := .any) hB.1 l 0 (Array.replicate l.toArray.size false) a (by simp) (by simpa using hB.2) h
  simpa using this
theorem Since.call {P : Program} {f : FuncId} {args : Array Value} {w : World} {s : Since w} {v : Value}
    (h : Calls P f args s.w fun e w' => e = .returned v ∧ Below s.w.heap.size s.w w') : Calls P f args s.w fun e w'' => e = .returned v ∧ ∃ s' : Since w, w'' = s'.w :=
  h.mono fun e w' ⟨he, hb⟩ => ⟨he, ⟨⟨w', s.below.trans (hb.mono s.below.size)⟩, rfl⟩⟩
theorem Since.call_same {P : Program} {f : FuncId} {args : Array Value} {w : World} {s : Since w} {v : Value}
    (h : Calls P f args s.w fun e w' => e = .returned v ∧ s.w = w') : Calls P f args s.w fun e w'' => e = .returned v ∧ ∃ s' : Since w, w'' = s'.w :=
  h.mono fun e w' ⟨he, hw⟩ => ⟨he, s, hw.symm⟩
end Go.Proofs.YtadgiknnejjplaaDoor

/- A node of a formula's tree that is being made: its variables and its parts are appended, its numbers are stored. No condition. -/
import Derived.Test.YtnhlhjehocngcaaDoorFmGo
import Derived.Deep.AppendLies
namespace Go.Proofs.YtnhlhjehocngcaaDoor
open Go.RowKit
set_option linter.unusedVariables false

/-- The blocks of a node's slices are apart from it and from one another. -/
structure Sep (p : Nat) (v u : Value) : Prop where
  nv : v.ownBlock ≠ some p
  nu : u.ownBlock ≠ some p
  vu : ∀ b, v.ownBlock = some b → u.ownBlock ≠ some b
/-- A row is kept where its block is. -/
theorem RowF.keptAt {F : Nat → Prop} {w w' : World} {e : TypeId} {v : Value} {xs : List Value} (h : RowF F w e v xs) (hb : ∀ b, v.ownBlock = some b → w'.heap[b]? = w.heap[b]?) : RowF F w' e v xs :=
  ⟨own_block0 h.own hb, h.foot⟩
theorem RowF.lt {F : Nat → Prop} {w : World} {e : TypeId} {v : Value} {xs : List Value} (h : RowF F w e v xs) : ∀ b, v.ownBlock = some b → b < w.heap.size := fun b hb => (h.own.lt b hb).2
theorem RowF.mono {F F' : Nat → Prop} {w : World} {e : TypeId} {v : Value} {xs : List Value} (h : RowF F w e v xs) (hF : ∀ b, F b → F' b) : RowF F' w e v xs := ⟨h.own, fun b hb => hF b (h.foot b hb)⟩

theorem Sep.nil (p : Nat) : Sep p (.slice none 0 0) (.slice none 0 0) := ⟨by simp [Value.ownBlock], by simp [Value.ownBlock], by simp [Value.ownBlock]⟩

section
variable {G : Nat → Prop} {w : World} {p : Nat} {op : UInt8} {vs : List (Fin 4)} {qs : List Nat} {fr al : Nat} {v u : Value}
end
end Go.Proofs.YtnhlhjehocngcaaDoor

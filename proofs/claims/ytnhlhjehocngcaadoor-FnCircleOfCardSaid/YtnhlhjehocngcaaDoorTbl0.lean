/- A slice that begins its block is kept where its block is. No condition. -/
import Derived.Test.YtnhlhjehocngcaaDoorBase
import Derived.OwnWalk
import Derived.Test.YtnhlhjehocngcaaDoorFm
namespace Go.Proofs.YtnhlhjehocngcaaDoor
open Go.RowKit
theorem own_block0 {w w' : World} {B : Nat} {e : TypeId} {z : Nat} {v : Value} {n : Nat} {xs : List Value} (h : w.ownsRow B e z v n xs) (hb : ∀ b, v.ownBlock = some b → w'.heap[b]? = w.heap[b]?) : w'.ownsRow B e z v n xs := by
  refine ⟨h.1, ?_⟩
  rcases h.2 with hn | ⟨g, cap, cur, rfl, hb', hgg, rest⟩
  · exact .inl hn
  · exact .inr ⟨g, cap, cur, rfl, hb', by rw [hb g rfl]; exact hgg, rest⟩
end Go.Proofs.YtnhlhjehocngcaaDoor
/- A formula in the program's memory. No condition. -/
namespace Go.Proofs.YtnhlhjehocngcaaDoor
open Go.RowKit
set_option linter.unusedVariables false

def Fm.T.op : Fm.T → UInt8
  | .lit b => if b then 116 else 102
  | .set _ => 80
  | .rel e _ _ => if e then 69 else 61
  | .neg _ => 33
  | .bin o _ _ => if o then 124 else 38
  | .qu q _ _ => q.byte
def Fm.T.vs : Fm.T → List (Fin 4)
  | .lit _ => []
  | .set v => [v]
  | .rel _ v w => [v, w]
  | .neg _ => []
  | .bin _ _ _ => []
  | .qu _ v _ => [v]
def Fm.T.ps : Fm.T → List Fm.T
  | .neg f => [f]
  | .bin _ f g => [f, g]
  | .qu _ _ f => [f]
  | _ => []
/-- A row of one-cell values of a slice that begins its block; its block is one of F. -/
structure RowF (F : Nat → Prop) (w : World) (e : TypeId) (v : Value) (xs : List Value) : Prop where
  own : w.ownsRow 0 e 1 v xs.length xs
  foot : ∀ b, v.ownBlock = some b → F b
theorem RowF.kept {F F' : Nat → Prop} {w w' : World} {e : TypeId} {v : Value} {xs : List Value} (h : RowF F w e v xs) (hb : ∀ b, F b → b < w.heap.size → w'.heap[b]? = w.heap[b]?) (hF : ∀ b, F b → F' b) : RowF F' w' e v xs :=
  ⟨own_block0 h.own (fun b e => hb b (h.foot b e) (h.own.lt b e).2), fun b e => hF b (h.foot b e)⟩
theorem RowF.view {F : Nat → Prop} {w : World} {e : TypeId} {v : Value} {xs : List Value} (h : RowF F w e v xs) :
    ∃ (a : Option Addr) (cap : Nat), v = .slice a xs.length cap ∧ xs.length ≤ cap ∧ cap ≤ maxLen ∧ (0 < xs.length → ∃ g, a = some ⟨g, 0, none⟩ ∧ F g ∧ g < w.heap.size ∧ ∀ j, j < xs.length → w.cell? ⟨g, j, none⟩ = xs[j]?) := by
  have ho := h.own
  rcases h.own.2 with ⟨rfl, h0⟩ | ⟨g, cap, cur, rfl, hb, hg, hnc, hcm, hcs, htake⟩
  · exact ⟨none, 0, by rw [h0], by omega, by decide, fun h => by omega⟩
  · exact ⟨_, cap, rfl, hnc, hcm, fun _ => ⟨g, rfl, h.foot g rfl, (ho.lt g rfl).2, fun j hj => ho.cellAt j (by omega)⟩⟩
def vbV (v : Fin 4) : Value := .int .u8 ((97 + v.val : Nat) : Int)
def ptrV (q : Nat) : Value := .pointer (some ⟨q, 0, none⟩)
end Go.Proofs.YtnhlhjehocngcaaDoor

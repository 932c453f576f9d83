/- Contracts of the program's functions and what they compute: part 9. Conditions: those that each theorem states. -/
import Derived.Test.YtdcnpjekmnlgjaaGreatDoorP56n1
import Derived.Test.YtdcnpjekmnlgjaaGreatDoorP56n8
import Derived.OwnWalk
namespace Go.Proofs.YtdcnpjekmnlgjaaGreatDoor
open Go.RowKit
theorem own_block0 {w w' : World} {B : Nat} {e : TypeId} {z : Nat} {v : Value} {n : Nat} {xs : List Value} (h : w.ownsRow B e z v n xs) (hb : ∀ b, v.ownBlock = some b → w'.heap[b]? = w.heap[b]?) : w'.ownsRow B e z v n xs := by
  refine ⟨h.1, ?_⟩
  rcases h.2 with hn | ⟨g, cap, cur, rfl, hb', hgg, rest⟩
  · exact .inl hn
  · exact .inr ⟨g, cap, cur, rfl, hb', by rw [hb g rfl]; exact hgg, rest⟩
end Go.Proofs.YtdcnpjekmnlgjaaGreatDoor
namespace Go.Proofs.YtdcnpjekmnlgjaaGreatDoor
open Go.RowKit
set_option linter.unusedVariables false
def Fm.T.op : Fm.T → UInt8
  | .lit b => if b then 116 else 102
  | .set _ => 80
  | .rel e _ _ => if e then 69 else 61
  | .neg _ => 33
  | .bin o _ _ => if o then 124 else 38
  | .qu q _ _ => q.byte
def Fm.T.vs : Fm.T → List (Fin 4)
  | .lit _ => []
  | .set v => [v]
  | .rel _ v w => [v, w]
  | .neg _ => []
  | .bin _ _ _ => []
  | .qu _ v _ => [v]
def Fm.T.ps : Fm.T → List Fm.T
  | .neg f => [f]
  | .bin _ f g => [f, g]
  | .qu _ _ f => [f]
  | _ => []
/-- A row of one-cell values of a slice that begins its block; its block is one of F. -/
structure RowF (F : Nat → Prop) (w : World) (e : TypeId) (v : Value) (xs : List Value) : Prop where
  own : w.ownsRow 0 e 1 v xs.length xs
  foot : ∀ b, v.ownBlock = some b → F b
theorem RowF.kept {F F' : Nat → Prop} {w w' : World} {e : TypeId} {v : Value} {xs : List Value} (h : RowF F w e v xs) (hb : ∀ b, F b → b < w.heap.size → w'.heap[b]? = w.heap[b]?) (hF : ∀ b, F b → F' b) : RowF F' w' e v xs :=
  ⟨own_block0 h.own (fun b e => hb b (h.foot b e) (h.own.lt b e).2), fun b e => hF b (h.foot b e)⟩
theorem RowF.view {F : Nat → Prop} {w : World} {e : TypeId} {v : Value} {xs : List Value} (h : RowF F w e v xs) :
    ∃ (a : Option Addr) (cap : Nat), v = .slice a xs.length cap ∧ xs.length ≤ cap ∧ cap ≤ maxLen ∧ (0 < xs.length → ∃ g, a = some ⟨g, 0, none⟩ ∧ F g ∧ g < w.heap.size ∧ ∀ j, j < xs.length → w.cell? ⟨g, j, none⟩ = xs[j]?) := by
  have ho := h.own
  rcases h.own.2 with ⟨rfl, h0⟩ | ⟨g, cap, cur, rfl, hb, hg, hnc, hcm, hcs, htake⟩
  · exact ⟨none, 0, by rw [h0], by omega, by decide, fun h => by omega⟩
  · exact ⟨_, cap, rfl, hnc, hcm, fun _ => ⟨g, rfl, h.foot g rfl, (ho.lt g rfl).2, fun j hj => ho.cellAt j (by omega)⟩⟩
def vbV (v : Fin 4) : Value := .int .u8 ((97 + v.val : Nat) : Int)
def ptrV (q : Nat) : Value := .pointer (some ⟨q, 0, none⟩)
/-- A node. -/
structure Nd (F : Nat → Prop) (w : World) (p : Nat) (op : UInt8) (vs : List (Fin 4)) (qs : List Nat) (fr al : Nat) (v u : Value) : Prop where
  foot : F p
  cell : w.heap[p]? = some (.cells #[.int .u8 (op.toNat : Int), v, u, .int .i64 (fr : Int), .int .i64 (al : Int)] 78 (0, 0))
  vars : RowF F w 5 v (vs.map vbV)
  parts : RowF F w 46 u (qs.map ptrV)
theorem Nd.lt {F : Nat → Prop} {w : World} {p : Nat} {op : UInt8} {vs : List (Fin 4)} {qs : List Nat} {fr al : Nat} {v u : Value} (h : Nd F w p op vs qs fr al v u) : p < w.heap.size := (Array.getElem?_eq_some_iff.1 h.cell).1
theorem Nd.kept {F F' : Nat → Prop} {w w' : World} {p : Nat} {op : UInt8} {vs : List (Fin 4)} {qs : List Nat} {fr al : Nat} {v u : Value} (h : Nd F w p op vs qs fr al v u) (hb : ∀ b, F b → b < w.heap.size → w'.heap[b]? = w.heap[b]?) (hF : ∀ b, F b → F' b) : Nd F' w' p op vs qs fr al v u :=
  ⟨hF p h.foot, (hb p h.foot h.lt).trans h.cell, h.vars.kept hb hF, h.parts.kept hb hF⟩
/-- A formula's tree at a place. -/
def Tree (F : Nat → Prop) (w : World) : Fm.T → Nat → Prop
  | .lit b, p => ∃ v u, Nd F w p (Fm.T.op (.lit b)) [] [] (Fm.free (.lit b)) (Fm.vars (.lit b)) v u
  | .set x, p => ∃ v u, Nd F w p (Fm.T.op (.set x)) [x] [] (Fm.free (.set x)) (Fm.vars (.set x)) v u
  | .rel e x y, p => ∃ v u, Nd F w p (Fm.T.op (.rel e x y)) [x, y] [] (Fm.free (.rel e x y)) (Fm.vars (.rel e x y)) v u
  | .neg f, p => ∃ v u q, Nd F w p (Fm.T.op (.neg f)) [] [q] (Fm.free (.neg f)) (Fm.vars (.neg f)) v u ∧ Tree F w f q
  | .bin o f g, p => ∃ v u q r, Nd F w p (Fm.T.op (.bin o f g)) [] [q, r] (Fm.free (.bin o f g)) (Fm.vars (.bin o f g)) v u ∧ Tree F w f q ∧ Tree F w g r
  | .qu k x f, p => ∃ v u q, Nd F w p (Fm.T.op (.qu k x f)) [x] [q] (Fm.free (.qu k x f)) (Fm.vars (.qu k x f)) v u ∧ Tree F w f q
/-- The trees of some formulas, in order. -/
def Trees (F : Nat → Prop) (w : World) : List Fm.T → List Nat → Prop
  | [], [] => True
  | f :: fs, q :: qs => Tree F w f q ∧ Trees F w fs qs
  | _, _ => False
theorem Tree.node {F : Nat → Prop} {w : World} : ∀ {φ : Fm.T} {p : Nat}, Tree F w φ p → ∃ v u qs, Nd F w p φ.op φ.vs qs (Fm.free φ) (Fm.vars φ) v u ∧ Trees F w φ.ps qs
  | .lit _, _, ⟨v, u, h⟩ => ⟨v, u, [], h, trivial⟩
  | .set _, _, ⟨v, u, h⟩ => ⟨v, u, [], h, trivial⟩
  | .rel _ _ _, _, ⟨v, u, h⟩ => ⟨v, u, [], h, trivial⟩
  | .neg _, _, ⟨v, u, q, h, h1⟩ => ⟨v, u, [q], h, h1, trivial⟩
  | .bin _ _ _, _, ⟨v, u, q, r, h, h1, h2⟩ => ⟨v, u, [q, r], h, h1, h2, trivial⟩
  | .qu _ _ _, _, ⟨v, u, q, h, h1⟩ => ⟨v, u, [q], h, h1, trivial⟩
theorem Tree.of_node {F : Nat → Prop} {w : World} {p : Nat} {qs : List Nat} {v u : Value} : ∀ {φ : Fm.T}, Nd F w p φ.op φ.vs qs (Fm.free φ) (Fm.vars φ) v u → Trees F w φ.ps qs → Tree F w φ p
  | .lit _, h, h1 => by
    cases qs with
    | nil => exact ⟨v, u, h⟩
    | cons q qs => exact h1.elim
  | .set _, h, h1 => by
    cases qs with
    | nil => exact ⟨v, u, h⟩
    | cons q qs => exact h1.elim
  | .rel _ _ _, h, h1 => by
    cases qs with
    | nil => exact ⟨v, u, h⟩
    | cons q qs => exact h1.elim
  | .neg _, h, h1 => by
    match qs, h1 with
    | [q], h1 => exact ⟨v, u, q, h, h1.1⟩
  | .bin _ _ _, h, h1 => by
    match qs, h1 with
    | [q, r], h1 => exact ⟨v, u, q, r, h, h1.1, h1.2.1⟩
  | .qu _ _ _, h, h1 => by
    match qs, h1 with
    | [q], h1 => exact ⟨v, u, q, h, h1.1⟩
theorem Tree.kept {F F' : Nat → Prop} {w w' : World} (hb : ∀ b, F b → b < w.heap.size → w'.heap[b]? = w.heap[b]?) (hF : ∀ b, F b → F' b) : ∀ {φ : Fm.T} {p : Nat}, Tree F w φ p → Tree F' w' φ p
  | .lit _, _, ⟨v, u, h⟩ => ⟨v, u, h.kept hb hF⟩
  | .set _, _, ⟨v, u, h⟩ => ⟨v, u, h.kept hb hF⟩
  | .rel _ _ _, _, ⟨v, u, h⟩ => ⟨v, u, h.kept hb hF⟩
  | .neg _, _, ⟨v, u, q, h, h1⟩ => ⟨v, u, q, h.kept hb hF, Tree.kept hb hF h1⟩
  | .bin _ _ _, _, ⟨v, u, q, r, h, h1, h2⟩ => ⟨v, u, q, r, h.kept hb hF, Tree.kept hb hF h1, Tree.kept hb hF h2⟩
  | .qu _ _ _, _, ⟨v, u, q, h, h1⟩ => ⟨v, u, q, h.kept hb hF, Tree.kept hb hF h1⟩
theorem Trees.kept {F F' : Nat → Prop} {w w' : World} (hb : ∀ b, F b → b < w.heap.size → w'.heap[b]? = w.heap[b]?) (hF : ∀ b, F b → F' b) : ∀ {fs : List Fm.T} {qs : List Nat}, Trees F w fs qs → Trees F' w' fs qs
  | [], [], _ => trivial
  | f :: fs, q :: qs, h => ⟨h.1.kept hb hF, Trees.kept hb hF h.2⟩
  | [], _ :: _, h => h.elim
  | _ :: _, [], h => h.elim
theorem Tree.below {F : Nat → Prop} {w w' : World} {φ : Fm.T} {p : Nat} (h : Tree F w φ p) (hb : Below w.heap.size w w') : Tree F w' φ p := h.kept (fun b _ hl => hb.block b hl) (fun _ h => h)
theorem Tree.off {F G : Nat → Prop} {w w' : World} {φ : Fm.T} {p : Nat} (h : Tree F w φ p) (hw : Off G w w') (hG : ∀ b, F b → ¬ G b) : Tree F w' φ p := h.kept (fun b hf hl => hw.block b hl (hG b hf)) (fun _ h => h)
theorem Tree.mono {F F' : Nat → Prop} {w : World} {φ : Fm.T} {p : Nat} (h : Tree F w φ p) (hF : ∀ b, F b → F' b) : Tree F' w φ p := h.kept (fun _ _ _ => rfl) hF
theorem Trees.snoc {F : Nat → Prop} {w : World} {f : Fm.T} {q : Nat} (h2 : Tree F w f q) : ∀ {fs : List Fm.T} {qs : List Nat}, Trees F w fs qs → Trees F w (fs ++ [f]) (qs ++ [q])
  | [], [], _ => ⟨h2, trivial⟩
  | _ :: _, _ :: _, h => ⟨h.1, Trees.snoc h2 h.2⟩
  | [], _ :: _, h => h.elim
  | _ :: _, [], h => h.elim
theorem Trees.length {F : Nat → Prop} {w : World} : ∀ {fs : List Fm.T} {qs : List Nat}, Trees F w fs qs → fs.length = qs.length
  | [], [], _ => rfl
  | _ :: _, _ :: _, h => by simp [Trees.length h.2]
  | [], _ :: _, h => h.elim
  | _ :: _, [], h => h.elim
end Go.Proofs.YtdcnpjekmnlgjaaGreatDoor

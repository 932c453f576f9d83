/- Contracts of the program's functions and what they compute: part 8. Conditions: those that each theorem states. -/
import Derived.Test.YtihomcedaaiidaaGreatDoorP55n1
import Derived.Test.YtihomcedaaiidaaGreatDoorP55n7
import Derived.OwnWalk
namespace Go.Proofs.YtihomcedaaiidaaGreatDoor
open Go.RowKit
theorem own_block0 {w w' : World} {B : Nat} {e : TypeId} {z : Nat} {v : Value} {n : Nat} {xs : List Value} (h : w.ownsRow B e z v n xs) (hb : ∀ b, v.ownBlock = some b → w'.heap[b]? = w.heap[b]?) : w'.ownsRow B e z v n xs := by
  refine ⟨h.1, ?_⟩
  rcases h.2 with hn | ⟨g, cap, cur, rfl, hb', hgg, rest⟩
  · exact .inl hn
  · exact .inr ⟨g, cap, cur, rfl, hb', by rw [hb g rfl]; exact hgg, rest⟩
end Go.Proofs.YtihomcedaaiidaaGreatDoor
namespace Go.Proofs.YtihomcedaaiidaaGreatDoor
open Go.RowKit
set_option linter.unusedVariables false
def Fm.T.op : Fm.T → UInt8
  | .lit b => if b then 116 else 102
  | .set _ => 80
  | .rel e _ _ => if e then 69 else 61
  | .neg _ => 33
  | .bin o _ _ => if o then 124 else 38
  | .qu q _ _ => q.byte
def Fm.T.vs : Fm.T → List (Fin 4)
  | .lit _ => []
  | .set v => [v]
  | .rel _ v w => [v, w]
  | .neg _ => []
  | .bin _ _ _ => []
  | .qu _ v _ => [v]
def Fm.T.ps : Fm.T → List Fm.T
  | .neg f => [f]
  | .bin _ f g => [f, g]
  | .qu _ _ f => [f]
  | _ => []
/-- A row of one-cell values of a slice that begins its block; its block is one of F. -/
structure RowF (F : Nat → Prop) (w : World) (e : TypeId) (v : Value) (xs : List Value) : Prop where
  own : w.ownsRow 0 e 1 v xs.length xs
  foot : ∀ b, v.ownBlock = some b → F b
theorem RowF.kept {F F' : Nat → Prop} {w w' : World} {e : TypeId} {v : Value} {xs : List Value} (h : RowF F w e v xs) (hb : ∀ b, F b → b < w.heap.size → w'.heap[b]? = w.heap[b]?) (hF : ∀ b, F b → F' b) : RowF F' w' e v xs :=
  ⟨own_block0 h.own (fun b e => hb b (h.foot b e) (h.own.lt b e).2), fun b e => hF b (h.foot b e)⟩
theorem RowF.view {F : Nat → Prop} {w : World} {e : TypeId} {v : Value} {xs : List Value} (h : RowF F w e v xs) :
    ∃ (a : Option Addr) (cap : Nat), v = .slice a xs.length cap ∧ xs.length ≤ cap ∧ cap ≤ maxLen ∧ (0 < xs.length → ∃ g, a = some ⟨g, 0, none⟩ ∧ F g ∧ g < w.heap.size ∧ ∀ j, j < xs.length → w.cell? ⟨g, j, none⟩ = xs[j]?) := by
  have ho := h.own
  rcases h.own.2 with ⟨rfl, h0⟩ | ⟨g, cap, cur, rfl, hb, hg, hnc, hcm, hcs, htake⟩
  · exact ⟨none, 0, by rw [h0], by omega, by decide, fun h => by omega⟩
  · exact ⟨_, cap, rfl, hnc, hcm, fun _ => ⟨g, rfl, h.foot g rfl, (ho.lt g rfl).2, fun j hj => ho.cellAt j (by omega)⟩⟩
def vbV (v : Fin 4) : Value := .int .u8 ((97 + v.val : Nat) : Int)
def ptrV (q : Nat) : Value := .pointer (some ⟨q, 0, none⟩)
/-- A node. -/
structure Nd (F : Nat → Prop) (w : World) (p : Nat) (op : UInt8) (vs : List (Fin 4)) (qs : List Nat) (fr al : Nat) (v u : Value) : Prop where
  foot : F p
  cell : w.heap[p]? = some (.cells #[.int .u8 (op.toNat : Int), v, u, .int .i64 (fr : Int), .int .i64 (al : Int)] 60 (0, 0))
  vars : RowF F w 5 v (vs.map vbV)
  parts : RowF F w 51 u (qs.map ptrV)
theorem Nd.lt {F : Nat → Prop} {w : World} {p : Nat} {op : UInt8} {vs : List (Fin 4)} {qs : List Nat} {fr al : Nat} {v u : Value} (h : Nd F w p op vs qs fr al v u) : p < w.heap.size := (Array.getElem?_eq_some_iff.1 h.cell).1
theorem Nd.kept {F F' : Nat → Prop} {w w' : World} {p : Nat} {op : UInt8} {vs : List (Fin 4)} {qs : List Nat} {fr al : Nat} {v u : Value} (h : Nd F w p op vs qs fr al v u) (hb : ∀ b, F b → b < w.heap.size → w'.heap[b]? = w.heap[b]?) (hF : ∀ b, F b → F' b) : Nd F' w' p op vs qs fr al v u :=
  ⟨hF p h.foot, (hb p h.foot h.lt).trans h.cell, h.vars.kept hb hF, h.parts.kept hb hF⟩
/-- A formula's tree at a place. -/
def Tree (F : Nat → Prop) (w : World) : Fm.T → Nat → Prop
  | .lit b, p => ∃ v u, Nd F w p (Fm.T.op (.lit b)) [] [] (Fm.free (.lit b)) (Fm.vars (.lit b)) v u
  | .set x, p => ∃ v u, Nd F w p (Fm.T.op (.set x)) [x] [] (Fm.free (.set x)) (Fm.vars (.set x)) v u
  | .rel e x y, p => ∃ v u, Nd F w p (Fm.T.op (.rel e x y)) [x, y] [] (Fm.free (.rel e x y)) (Fm.vars (.rel e x y)) v u
  | .neg f, p => ∃ v u q, Nd F w p (Fm.T.op (.neg f)) [] [q] (Fm.free (.neg f)) (Fm.vars (.neg f)) v u ∧ Tree F w f q
  | .bin o f g, p => ∃ v u q r, Nd F w p (Fm.T.op (.bin o f g)) [] [q, r] (Fm.free (.bin o f g)) (Fm.vars (.bin o f g)) v u ∧ Tree F w f q ∧ Tree F w g r
  | .qu k x f, p => ∃ v u q, Nd F w p (Fm.T.op (.qu k x f)) [x] [q] (Fm.free (.qu k x f)) (Fm.vars (.qu k x f)) v u ∧ Tree F w f q
/-- The trees of some formulas, in order. -/
def Trees (F : Nat → Prop) (w : World) : List Fm.T → List Nat → Prop
  | [], [] => True
  | f :: fs, q :: qs => Tree F w f q ∧ Trees F w fs qs
  | _, _ => False
theorem Tree.node {F : Nat → Prop} {w : World} : ∀ {φ : Fm.T} {p : Nat}, Tree F w φ p → ∃ v u qs, Nd F w p φ.op φ.vs qs (Fm.free φ) (Fm.vars φ) v u ∧ Trees F w φ.ps qs
  | .lit _, _, ⟨v, u, h⟩ => ⟨v, u, [], h, trivial⟩
  | .set _, _, ⟨v, u, h⟩ => ⟨v, u, [], h, trivial⟩
  | .rel _ _ _, _, ⟨v, u, h⟩ => ⟨v, u, [], h, trivial⟩
  | .neg _, _, ⟨v, u, q, h, h1⟩ => ⟨v, u, [q], h, h1, trivial⟩
  | .bin _ _ _, _, ⟨v, u, q, r, h, h1, h2⟩ => ⟨v, u, [q, r], h, h1, h2, trivial⟩
  | .qu _ _ _, _, ⟨v, u, q, h, h1⟩ => ⟨v, u, [q], h, h1, trivial⟩
theorem Tree.of_node {F : Nat → Prop} {w : World} {p : Nat} {qs : List Nat} {v u : Value} : ∀ {φ : Fm.T}, Nd F w p φ.op φ.vs qs (Fm.free φ) (Fm.vars φ) v u → Trees F w φ.ps qs → Tree F w φ p
  | .lit _, h, h1 => by
    cases qs with
    | nil => exact ⟨v, u, h⟩
    | cons q qs => exact h1.elim
  | .set _, h, h1 => by
    cases qs with
    | nil => exact ⟨v, u, h⟩
    | cons q qs => exact h1.elim
  | .rel _ _ _, h, h1 => by
    cases qs with
    | nil => exact ⟨v, u, h⟩
    | cons q qs => exact h1.elim
  | .neg _, h, h1 => by
    match qs, h1 with
    | [q], h1 => exact ⟨v, u, q, h, h1.1⟩
  | .bin _ _ _, h, h1 => by
    match qs, h1 with
    | [q, r], h1 => exact ⟨v, u, q, r, h, h1.1, h1.2.1⟩
  | .qu _ _ _, h, h1 => by
    match qs, h1 with
    | [q], h1 => exact ⟨v, u, q, h, h1.1⟩
theorem Tree.kept {F F' : Nat → Prop} {w w' : World} (hb : ∀ b, F b → b < w.heap.size → w'.heap[b]? = w.heap[b]?) (hF : ∀ b, F b → F' b) : ∀ {φ : Fm.T} {p : Nat}, Tree F w φ p → Tree F' w' φ p
  | .lit _, _, ⟨v, u, h⟩ => ⟨v, u, h.kept hb hF⟩
  | .set _, _, ⟨v, u, h⟩ => ⟨v, u, h.kept hb hF⟩
  | .rel _ _ _, _, ⟨v, u, h⟩ => ⟨v, u, h.kept hb hF⟩
  | .neg _, _, ⟨v, u, q, h, h1⟩ => ⟨v, u, q, h.kept hb hF, Tree.kept hb hF h1⟩
  | .bin _ _ _, _, ⟨v, u, q, r, h, h1, h2⟩ => ⟨v, u, q, r, h.kept hb hF, Tree.kept hb hF h1, Tree.kept hb hF h2⟩
  | .qu _ _ _, _, ⟨v, u, q, h, h1⟩ => ⟨v, u, q, h.kept hb hF, Tree.kept hb hF h1⟩
theorem Trees.kept {F F' : Nat → Prop} {w w' : World} (hb : ∀ b, F b → b < w.heap.size → w'.heap[b]? = w.heap[b]?) (hF : ∀ b, F b → F' b) : ∀ {fs : List Fm.T} {qs : List Nat}, Trees F w fs qs → Trees F' w' fs qs
  | [], [], _ => trivial
  | f :: fs, q :: qs, h => ⟨h.1.kept hb hF, Trees.kept hb hF h.2⟩
  | [], _ :: _, h => h.elim
  | _ :: _, [], h => h.elim
theorem Tree.below {F : Nat → Prop} {w w' : World} {φ : Fm.T} {p : Nat} (h : Tree F w φ p) (hb : Below w.heap.size w w') : Tree F w' φ p := h.kept (fun b _ hl => hb.block b hl) (fun _ h => h)
theorem Tree.off {F G : Nat → Prop} {w w' : World} {φ : Fm.T} {p : Nat} (h : Tree F w φ p) (hw : Off G w w') (hG : ∀ b, F b → ¬ G b) : Tree F w' φ p := h.kept (fun b hf hl => hw.block b hl (hG b hf)) (fun _ h => h)
theorem Tree.mono {F F' : Nat → Prop} {w : World} {φ : Fm.T} {p : Nat} (h : Tree F w φ p) (hF : ∀ b, F b → F' b) : Tree F' w φ p := h.kept (fun _ _ _ => rfl) hF
theorem Trees.snoc {F : Nat → Prop} {w : World} {f : Fm.T} {q : Nat} (h2 : Tree F w f q) : ∀ {fs : List Fm.T} {qs : List Nat}, Trees F w fs qs → Trees F w (fs ++ [f]) (qs ++ [q])
  | [], [], _ => ⟨h2, trivial⟩
  | _ :: _, _ :: _, h => ⟨h.1, Trees.snoc h2 h.2⟩
  | [], _ :: _, h => h.elim
  | _ :: _, [], h => h.elim
theorem Trees.length {F : Nat → Prop} {w : World} : ∀ {fs : List Fm.T} {qs : List Nat}, Trees F w fs qs → fs.length = qs.length
  | [], [], _ => rfl
  | _ :: _, _ :: _, h => by simp [Trees.length h.2]
  | [], _ :: _, h => h.elim
  | _ :: _, [], h => h.elim
end Go.Proofs.YtihomcedaaiidaaGreatDoor

namespace Go.Proofs.YtihomcedaaiidaaGreatDoor.Fm
set_option linter.unusedVariables false
/-- How many variables and parts are behind a first letter. -/
def shape (c : UInt8) : Option (Nat × Nat) :=
  if c = 116 then some (0, 0) else if c = 102 then some (0, 0) else if c = 80 then some (1, 0) else if c = 61 then some (2, 0) else if c = 69 then some (2, 0)
  else if c = 33 then some (0, 1) else if c = 38 then some (0, 2) else if c = 124 then some (0, 2) else (quOf c).map fun _ => (1, 1)
/-- The formula of a first letter, variables and parts. -/
def build (c : UInt8) : List (Fin 4) → List T → T
  | [], [] => .lit (c = 116)
  | [v], [] => .set v
  | [v, w], [] => .rel (c = 69) v w
  | [], [f] => .neg f
  | [], [f, g] => .bin (c = 124) f g
  | v :: _, f :: _ => .qu ((quOf c).getD .all) v f
  | _, _ => .lit false
def goP (n : Nat) (c : UInt8) : Nat → List (Fin 4) → List T → List UInt8 → Option (T × List UInt8)
  | 0, vs, ps, s => some (build c vs ps, s)
  | k + 1, vs, ps, s => (parse n s).bind fun p => goP n c k vs (ps ++ [p.1]) p.2
def goV (n : Nat) (c : UInt8) (np : Nat) : Nat → List (Fin 4) → List UInt8 → Option (T × List UInt8)
  | 0, vs, s => goP n c np vs [] s
  | k + 1, vs, s => (pvar s).bind fun p => goV n c np k (vs ++ [p.1]) p.2
theorem shape_qu {c : UInt8} (h1 : c ≠ 116) (h2 : c ≠ 102) (h3 : c ≠ 80) (h4 : c ≠ 61) (h5 : c ≠ 69) (h6 : c ≠ 33) (h7 : c ≠ 38) (h8 : c ≠ 124) : shape c = (quOf c).map fun _ => (1, 1) := by
  unfold shape
  rw [if_neg h1, if_neg h2, if_neg h3, if_neg h4, if_neg h5, if_neg h6, if_neg h7, if_neg h8]
theorem parse_go (n : Nat) (c : UInt8) (s : List UInt8) : parse (n + 1) (c :: s) = (shape c).bind fun k => goV n c k.2 k.1 [] s := by
  by_cases h1 : c = 116
  · subst h1; rfl
  by_cases h2 : c = 102
  · subst h2; rfl
  by_cases h3 : c = 80
  · subst h3; rfl
  by_cases h4 : c = 61
  · subst h4; rfl
  by_cases h5 : c = 69
  · subst h5; rfl
  by_cases h6 : c = 33
  · subst h6; rfl
  by_cases h7 : c = 38
  · subst h7; rfl
  by_cases h8 : c = 124
  · subst h8; rfl
  rw [shape_qu h1 h2 h3 h4 h5 h6 h7 h8]
  cases hq : quOf c with
  | none => simp only [parse, if_neg h1, if_neg h2, if_neg h3, if_neg h4, if_neg h5, if_neg h6, if_neg h7, if_neg h8, hq]; rfl
  | some q =>
    obtain rfl := quOf_some hq
    rw [parse_qu]
    show _ = (pvar s).bind fun p => goV n q.byte 1 0 ([] ++ [p.1]) p.2
    cases pvar s with
    | none => rfl
    | some p =>
      show (parse n p.2).bind _ = goP n q.byte 1 [p.1] [] p.2
      show _ = (parse n p.2).bind fun r => some (build q.byte [p.1] ([] ++ [r.1]), r.2)
      congr 1
      funext r
      show _ = some (T.qu ((quOf q.byte).getD .all) p.1 r.1, r.2)
      rw [quOf_byte]; rfl
/-- Whether a first letter is a quantifier. -/
def isQu (c : UInt8) : Bool := (quOf c).isSome
def orV (vs : List (Fin 4)) : Nat := vs.foldl (fun a v => a ||| 1 <<< v.val) 0
def orF (ps : List T) : Nat := ps.foldl (fun a f => a ||| free f) 0
def orA (a : Nat) (ps : List T) : Nat := ps.foldl (fun a f => a ||| vars f) a
theorem orV_snoc (vs : List (Fin 4)) (v : Fin 4) : orV (vs ++ [v]) = orV vs ||| 1 <<< v.val := by simp [orV, List.foldl_append]
theorem orF_snoc (ps : List T) (f : T) : orF (ps ++ [f]) = orF ps ||| free f := by simp [orF, List.foldl_append]
theorem orA_snoc (a : Nat) (ps : List T) (f : T) : orA a (ps ++ [f]) = orA a ps ||| vars f := by simp [orA, List.foldl_append]
theorem orV_lt (vs : List (Fin 4)) : orV vs < 16 := by
  have h : ∀ (l : List (Fin 4)) (a : Nat), a < 16 → l.foldl (fun a v => a ||| 1 <<< v.val) a < 16 := by
    intro l
    induction l with
    | nil => intro a h; exact h
    | cons v l ih => intro a h; exact ih _ (or_lt h (bit_lt v))
  exact h vs 0 (by decide)
theorem orF_lt (ps : List T) : orF ps < 16 := by
  have h : ∀ (l : List T) (a : Nat), a < 16 → l.foldl (fun a f => a ||| free f) a < 16 := by
    intro l
    induction l with
    | nil => intro a h; exact h
    | cons v l ih => intro a h; exact ih _ (or_lt h (free_lt v))
  exact h ps 0 (by decide)
theorem orA_lt (a : Nat) (ha : a < 16) (ps : List T) : orA a ps < 16 := by
  have h : ∀ (l : List T) (a : Nat), a < 16 → l.foldl (fun a f => a ||| vars f) a < 16 := by
    intro l
    induction l with
    | nil => intro a h; exact h
    | cons v l ih => intro a h; exact ih _ (or_lt h (vars_lt v))
  exact h ps a ha
/-- What a node of a first letter, its variables and parts must hold. -/
theorem build_node {c : UInt8} {vs : List (Fin 4)} {ps : List T} (h : shape c = some (vs.length, ps.length)) :
    (build c vs ps).op = c ∧ (build c vs ps).vs = vs ∧ (build c vs ps).ps = ps ∧ vars (build c vs ps) = orA (orV vs) ps ∧
    free (build c vs ps) = if ps.length = 0 then orV vs else if isQu c then orF ps &&& (15 ^^^ 1 <<< (vs.getD 0 0).val) else orF ps := by
  have z (a : Nat) : 0 ||| a = a := Nat.zero_or a
  by_cases h1 : c = 116
  · subst h1
    have h : some (0, 0) = some (vs.length, ps.length) := h
    simp at h
    obtain ⟨rfl, rfl⟩ : vs = [] ∧ ps = [] := ⟨List.eq_nil_of_length_eq_zero h.1.symm, List.eq_nil_of_length_eq_zero h.2.symm⟩
    exact ⟨rfl, rfl, rfl, rfl, rfl⟩
  by_cases h2 : c = 102
  · subst h2
    have h : some (0, 0) = some (vs.length, ps.length) := h
    simp at h
    obtain ⟨rfl, rfl⟩ : vs = [] ∧ ps = [] := ⟨List.eq_nil_of_length_eq_zero h.1.symm, List.eq_nil_of_length_eq_zero h.2.symm⟩
    exact ⟨rfl, rfl, rfl, rfl, rfl⟩
  by_cases h3 : c = 80
  · subst h3
    have h : some (1, 0) = some (vs.length, ps.length) := h
    simp at h
    obtain rfl := List.eq_nil_of_length_eq_zero h.2.symm
    match vs, h.1 with
    | [v], _ => exact ⟨rfl, rfl, rfl, (z _).symm, (z _).symm⟩
  by_cases h4 : c = 61
  · subst h4
    have h : some (2, 0) = some (vs.length, ps.length) := h
    simp at h
    obtain rfl := List.eq_nil_of_length_eq_zero h.2.symm
    match vs, h.1 with
    | [v, w], _ => exact ⟨rfl, rfl, rfl, by show _ = (0 ||| _) ||| _; rw [z]; rfl, by show _ = (0 ||| _) ||| _; rw [z]; rfl⟩
  by_cases h5 : c = 69
  · subst h5
    have h : some (2, 0) = some (vs.length, ps.length) := h
    simp at h
    obtain rfl := List.eq_nil_of_length_eq_zero h.2.symm
    match vs, h.1 with
    | [v, w], _ => exact ⟨rfl, rfl, rfl, by show _ = (0 ||| _) ||| _; rw [z]; rfl, by show _ = (0 ||| _) ||| _; rw [z]; rfl⟩
  by_cases h6 : c = 33
  · subst h6
    have h : some (0, 1) = some (vs.length, ps.length) := h
    simp at h
    obtain rfl := List.eq_nil_of_length_eq_zero h.1.symm
    match ps, h.2 with
    | [f], _ => exact ⟨rfl, rfl, rfl, (z _).symm, (z _).symm⟩
  by_cases h7 : c = 38
  · subst h7
    have h : some (0, 2) = some (vs.length, ps.length) := h
    simp at h
    obtain rfl := List.eq_nil_of_length_eq_zero h.1.symm
    match ps, h.2 with
    | [f, g], _ => exact ⟨rfl, rfl, rfl, by show _ = (0 ||| _) ||| _; rw [z]; rfl, by show _ = (0 ||| _) ||| _; rw [z]; rfl⟩
  by_cases h8 : c = 124
  · subst h8
    have h : some (0, 2) = some (vs.length, ps.length) := h
    simp at h
    obtain rfl := List.eq_nil_of_length_eq_zero h.1.symm
    match ps, h.2 with
    | [f, g], _ => exact ⟨rfl, rfl, rfl, by show _ = (0 ||| _) ||| _; rw [z]; rfl, by show _ = (0 ||| _) ||| _; rw [z]; rfl⟩
  rw [shape_qu h1 h2 h3 h4 h5 h6 h7 h8] at h
  cases hq : quOf c with
  | none => rw [hq] at h; cases h
  | some q =>
    rw [hq] at h
    obtain rfl := quOf_some hq
    have h : some (1, 1) = some (vs.length, ps.length) := h
    simp at h
    match vs, ps, h.1, h.2 with
    | [v], [f], _, _ =>
      have e : build q.byte [v] [f] = .qu q v f := by
        show T.qu ((quOf q.byte).getD .all) v f = _
        rw [quOf_byte]; rfl
      rw [e]
      have e2 : isQu q.byte = true := by unfold isQu; rw [quOf_byte]; rfl
      rw [e2]
      refine ⟨rfl, rfl, rfl, ?_, ?_⟩
      · show 1 <<< v.val ||| vars f = (0 ||| 1 <<< v.val) ||| vars f
        rw [z]
      · show free f &&& _ = (0 ||| free f) &&& _
        rw [z]
        rfl
theorem shape_le {c : UInt8} {k : Nat × Nat} (h : shape c = some k) : k.1 ≤ 2 ∧ k.2 ≤ 2 := by
  unfold shape at h
  repeat' split at h
  all_goals first | (have := Option.some.inj h; subst this; decide) | (cases hq : quOf c with | none => (rw [hq] at h; cases h) | some q => (rw [hq] at h; have := Option.some.inj h; subst this; exact ⟨Nat.le_succ 1, Nat.le_succ 1⟩))
end Go.Proofs.YtihomcedaaiidaaGreatDoor.Fm

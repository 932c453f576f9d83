/- Contracts of the program's functions and what they compute: part 8. Conditions: those that each theorem states. -/
import Derived.Test.YtdonjgjkhndfcaaGreatDoorP52n1
import Derived.Test.YtdonjgjkhndfcaaGreatDoorP52n6
import Derived.Lib.ItoaNum
import Derived.OwnWalk
namespace Go.Proofs.YtdonjgjkhndfcaaGreatDoor.Gs
/-- A structure: how many elements, which are in the set, which are related. -/
structure St where
  n : Nat
  s : Nat → Bool
  r : Nat → Nat → Bool
/-- One more element on each side, in the same way. -/
def still (a : St) (asL : List Nat) (b : St) (bs : List Nat) (x y : Nat) : Bool :=
  (a.s x == b.s y) && (a.r x x == b.r y y) && (asL.zip bs).all fun p => ((decide (p.1 = x)) == (decide (p.2 = y))) && (a.r p.1 x == b.r p.2 y) && (a.r x p.1 == b.r y p.2)
def same (a : St) (asL : List Nat) (b : St) (bs : List Nat) : Bool :=
  (List.range asL.length).all fun i => still a (asL.take i) b (bs.take i) (asL.getD i 0) (bs.getD i 0)
/-- The second player wins asL many rounds. -/
def goes : Nat → (a : St) → List Nat → (b : St) → List Nat → Bool
  | 0, _, _, _, _ => true
  | k + 1, a, asL, b, bs =>
    ((List.range a.n).all fun x => (List.range b.n).any fun y => still a asL b bs x y && goes k a (asL ++ [x]) b (bs ++ [y])) &&
    ((List.range b.n).all fun y => (List.range a.n).any fun x => still b bs a asL y x && goes k b (bs ++ [y]) a (asL ++ [x]))
def wins (k : Nat) (a : St) (asL : List Nat) (b : St) (bs : List Nat) : Bool := same a asL b bs && goes k a asL b bs
end Go.Proofs.YtdonjgjkhndfcaaGreatDoor.Gs
namespace Go.Proofs.YtdonjgjkhndfcaaGreatDoor.Gs
set_option linter.unusedVariables false
/-- A number put into a list of numbers that goes up, once. -/
def ins : List Nat → Nat → List Nat
  | [], n => [n]
  | x :: L, n => if x = n then x :: L else if n < x then n :: x :: L else x :: ins L n
theorem mem_ins {L : List Nat} {n x : Nat} : x ∈ ins L n ↔ x = n ∨ x ∈ L := by
  induction L with
  | nil => simp [ins]
  | cons y L ih =>
    unfold ins
    split
    · rename_i h; subst h; simp
    · split
      · simp
      · simp only [List.mem_cons, ih]
        constructor
        · rintro (h | h | h) <;> simp [h]
        · rintro (h | h | h) <;> simp [h]
end Go.Proofs.YtdonjgjkhndfcaaGreatDoor.Gs
namespace Go.Proofs.YtdonjgjkhndfcaaGreatDoor.Gs
set_option linter.unusedVariables false
/-- Alike lengths. -/
def alike (k n m : Nat) : Prop := n = m ∨ 2 ^ k - 1 ≤ n ∧ 2 ^ k - 1 ≤ m
end Go.Proofs.YtdonjgjkhndfcaaGreatDoor.Gs

namespace Go.Proofs.YtdonjgjkhndfcaaGreatDoor.Fm
set_option linter.unusedVariables false
/-- Quantifiers: all, some, at least two, three, four. -/
inductive Q | all | some | two | three | four
def Q.byte : Q → UInt8
  | .all => 65 | .some => 83 | .two => 50 | .three => 51 | .four => 52
/-- Of how many elements the formula must be true. -/
def Q.need (n : Nat) : Q → Nat
  | .all => n | .some => 1 | .two => 2 | .three => 3 | .four => 4
inductive T
  | lit (b : Bool)
  | set (v : Fin 4)
  | rel (e : Bool) (v w : Fin 4)
  | neg (f : T)
  | bin (o : Bool) (f g : T)
  | qu (q : Q) (v : Fin 4) (f : T)
/-- The letter of a variable. -/
def vb (v : Fin 4) : UInt8 := UInt8.ofNat (97 + v.val)
def text : T → List UInt8
  | .lit b => [if b then 116 else 102]
  | .set v => [80, vb v]
  | .rel e v w => [if e then 69 else 61, vb v, vb w]
  | .neg f => 33 :: text f
  | .bin o f g => (if o then 124 else 38) :: (text f ++ text g)
  | .qu q v f => q.byte :: vb v :: text f
def pvar : List UInt8 → Option (Fin 4 × List UInt8)
  | [] => none
  | c :: s => if c = 97 then some (0, s) else if c = 98 then some (1, s) else if c = 99 then some (2, s) else if c = 100 then some (3, s) else none
def quOf (c : UInt8) : Option Q :=
  if c = 65 then some .all else if c = 83 then some .some else if c = 50 then some .two else if c = 51 then some .three else if c = 52 then some .four else none
/-- The formula with which a text begins, and what is behind it. -/
def parse : Nat → List UInt8 → Option (T × List UInt8)
  | 0, _ => none
  | _ + 1, [] => none
  | n + 1, c :: s =>
    if c = 116 then some (.lit true, s)
    else if c = 102 then some (.lit false, s)
    else if c = 80 then (pvar s).bind fun p => some (.set p.1, p.2)
    else if c = 61 then (pvar s).bind fun p => (pvar p.2).bind fun q => some (.rel false p.1 q.1, q.2)
    else if c = 69 then (pvar s).bind fun p => (pvar p.2).bind fun q => some (.rel true p.1 q.1, q.2)
    else if c = 33 then (parse n s).bind fun p => some (.neg p.1, p.2)
    else if c = 38 then (parse n s).bind fun p => (parse n p.2).bind fun q => some (.bin false p.1 q.1, q.2)
    else if c = 124 then (parse n s).bind fun p => (parse n p.2).bind fun q => some (.bin true p.1 q.1, q.2)
    else (quOf c).bind fun k => (pvar s).bind fun p => (parse n p.2).bind fun q => some (.qu k p.1 q.1, q.2)
/-- The formula that a text is. -/
def read (s : List UInt8) : Option T := if 4000 < s.length then none else (parse s.length s).bind fun p => if p.2 = [] then some p.1 else none
/-- The free variables, as bits. -/
def free : T → Nat
  | .lit _ => 0
  | .set v => 1 <<< v.val
  | .rel _ v w => 1 <<< v.val ||| 1 <<< w.val
  | .neg f => free f
  | .bin _ f g => free f ||| free g
  | .qu _ v f => free f &&& (15 ^^^ 1 <<< v.val)
/-- Elements for the variables. -/
abbrev Env := Fin 4 → Nat
def upd (e : Env) (v : Fin 4) (x : Nat) : Env := fun u => if u = v then x else e u
/-- How many of the first numbers there are. -/
def cnt (p : Nat → Bool) : Nat → Nat
  | 0 => 0
  | n + 1 => cnt p n + (if p n then 1 else 0)
/-- When a formula is true. -/
def holds (a : Gs.St) : T → Env → Bool
  | .lit b, _ => b
  | .set v, e => a.s (e v)
  | .rel true v w, e => a.r (e v) (e w)
  | .rel false v w, e => decide (e v = e w)
  | .neg f, e => !holds a f e
  | .bin true f g, e => holds a f e || holds a g e
  | .bin false f g, e => holds a f e && holds a g e
  | .qu q v f, e => decide (q.need a.n ≤ cnt (fun x => holds a f (upd e v x)) a.n)
end Go.Proofs.YtdonjgjkhndfcaaGreatDoor.Fm
namespace Go.Proofs.YtdonjgjkhndfcaaGreatDoor.Fm
set_option linter.unusedVariables false
/-- Which variable stands in place of each one. -/
abbrev M := Fin 4 → Fin 4
def taken (s : Nat) (m : M) (v w : Fin 4) : Bool :=
  (s.testBit 0 && decide ((0 : Fin 4) ≠ v) && decide (m 0 = w)) || (s.testBit 1 && decide ((1 : Fin 4) ≠ v) && decide (m 1 = w)) || (s.testBit 2 && decide ((2 : Fin 4) ≠ v) && decide (m 2 = w)) || (s.testBit 3 && decide ((3 : Fin 4) ≠ v) && decide (m 3 = w))
/-- The variable that a quantifier binds. -/
def fresh (v : Fin 4) (s : Nat) (m : M) : Option (Fin 4) :=
  if taken s m v v then
    if taken s m v 0 then if taken s m v 1 then if taken s m v 2 then if taken s m v 3 then none else some 3 else some 2 else some 1 else some 0
  else some v
def fput (m : M) (v u : Fin 4) : M := fun x => if x = v then u else m x
/-- Other variables in place of the free ones. -/
def put : T → M → Option T
  | .lit b, _ => some (.lit b)
  | .set v, m => some (.set (m v))
  | .rel e v w, m => some (.rel e (m v) (m w))
  | .neg f, m => (put f m).map .neg
  | .bin o f g, m => (put f m).bind fun a => (put g m).map fun b => .bin o a b
  | .qu q v f, m => (fresh v (free f) m).bind fun u => (put f (fput m v u)).map (.qu q u)
end Go.Proofs.YtdonjgjkhndfcaaGreatDoor.Fm
namespace Go.Proofs.YtdonjgjkhndfcaaGreatDoor.Fm
set_option linter.unusedVariables false
def len (φ : T) : Nat := (text φ).length
end Go.Proofs.YtdonjgjkhndfcaaGreatDoor.Fm
namespace Go.Proofs.YtdonjgjkhndfcaaGreatDoor.Fm
set_option linter.unusedVariables false
/-- The elements of the first variables, none for the others. -/
def env1 (x : Nat) : Env := fun u => if u = 0 then x else 0
def env2 (x y : Nat) : Env := fun u => if u = 0 then x else if u = 1 then y else 0
/-- The structure that two formulas define. -/
def view (a : Gs.St) (ps pr : T) : Gs.St := ⟨a.n, fun x => holds a ps (env1 x), fun x y => holds a pr (env2 x y)⟩
end Go.Proofs.YtdonjgjkhndfcaaGreatDoor.Fm

namespace Go.Proofs.YtdonjgjkhndfcaaGreatDoor
open Go.RowKit
set_option linter.unusedVariables false
def Fm.T.op : Fm.T → UInt8
  | .lit b => if b then 116 else 102
  | .set _ => 80
  | .rel e _ _ => if e then 69 else 61
  | .neg _ => 33
  | .bin o _ _ => if o then 124 else 38
  | .qu q _ _ => q.byte
def Fm.T.vs : Fm.T → List (Fin 4)
  | .lit _ => []
  | .set v => [v]
  | .rel _ v w => [v, w]
  | .neg _ => []
  | .bin _ _ _ => []
  | .qu _ v _ => [v]
def Fm.T.ps : Fm.T → List Fm.T
  | .neg f => [f]
  | .bin _ f g => [f, g]
  | .qu _ _ f => [f]
  | _ => []
end Go.Proofs.YtdonjgjkhndfcaaGreatDoor

namespace Go.Proofs.YtdonjgjkhndfcaaGreatDoor.Fm
set_option linter.unusedVariables false
/-- How many variables and parts are behind a first letter. -/
def shape (c : UInt8) : Option (Nat × Nat) :=
  if c = 116 then some (0, 0) else if c = 102 then some (0, 0) else if c = 80 then some (1, 0) else if c = 61 then some (2, 0) else if c = 69 then some (2, 0)
  else if c = 33 then some (0, 1) else if c = 38 then some (0, 2) else if c = 124 then some (0, 2) else (quOf c).map fun _ => (1, 1)
end Go.Proofs.YtdonjgjkhndfcaaGreatDoor.Fm

namespace Go.Proofs.YtdonjgjkhndfcaaGreatDoor
open Go.RowKit
set_option linter.unusedVariables false
/-- Whether a text is a formula. -/
def readB (f : ByteArray) : Option Fm.T := Fm.read f.data.toList
end Go.Proofs.YtdonjgjkhndfcaaGreatDoor

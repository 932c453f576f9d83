/- Contracts of the program's functions and what they compute: part 38. Conditions: those that each theorem states. -/
import Derived.Test.YtfhogenjpepfnaaGreatDoorP51n1
import Derived.Test.YtfhogenjpepfnaaGreatDoorP51n3
import Derived.Test.YtfhogenjpepfnaaGreatDoorP51n5
import Derived.Test.YtfhogenjpepfnaaGreatDoorP51n17
import Derived.Test.YtfhogenjpepfnaaGreatDoorP51n20
import Derived.OwnWalk
import Derived.Laws.IdiomCopy
import Derived.Deep.DeepCutAuto
import Derived.Maps.Own
import Derived.LaidEqlPtr
import Derived.Deep.AppendLies
import Derived.Deep.RegionLaw
import Derived.Deep.CutBlock
import Derived.Lib.Strings
import Derived.Lib.Slices
import Derived.Lib.Walk
import Derived.Lib.Bytealg
namespace Go.Proofs.YtfhogenjpepfnaaGreatDoor.Fm
set_option linter.unusedVariables false
/-- Quantifiers: all, some, at least two, three, four. -/
inductive Q | all | some | two | three | four
def Q.byte : Q → UInt8
  | .all => 65 | .some => 83 | .two => 50 | .three => 51 | .four => 52
/-- Of how many elements the formula must be true. -/
def Q.need (n : Nat) : Q → Nat
  | .all => n | .some => 1 | .two => 2 | .three => 3 | .four => 4
inductive T
  | lit (b : Bool)
  | set (v : Fin 4)
  | rel (e : Bool) (v w : Fin 4)
  | neg (f : T)
  | bin (o : Bool) (f g : T)
  | qu (q : Q) (v : Fin 4) (f : T)
/-- The letter of a variable. -/
def vb (v : Fin 4) : UInt8 := UInt8.ofNat (97 + v.val)
def text : T → List UInt8
  | .lit b => [if b then 116 else 102]
  | .set v => [80, vb v]
  | .rel e v w => [if e then 69 else 61, vb v, vb w]
  | .neg f => 33 :: text f
  | .bin o f g => (if o then 124 else 38) :: (text f ++ text g)
  | .qu q v f => q.byte :: vb v :: text f
def quOf (c : UInt8) : Option Q :=
  if c = 65 then some .all else if c = 83 then some .some else if c = 50 then some .two else if c = 51 then some .three else if c = 52 then some .four else none
/-- The free variables, as bits. -/
def free : T → Nat
  | .lit _ => 0
  | .set v => 1 <<< v.val
  | .rel _ v w => 1 <<< v.val ||| 1 <<< w.val
  | .neg f => free f
  | .bin _ f g => free f ||| free g
  | .qu _ v f => free f &&& (15 ^^^ 1 <<< v.val)
/-- Elements for the variables. -/
abbrev Env := Fin 4 → Nat
def upd (e : Env) (v : Fin 4) (x : Nat) : Env := fun u => if u = v then x else e u
/-- How many of the first numbers there are. -/
def cnt (p : Nat → Bool) : Nat → Nat
  | 0 => 0
  | n + 1 => cnt p n + (if p n then 1 else 0)
/-- When a formula is true. -/
def holds (a : Gs.St) : T → Env → Bool
  | .lit b, _ => b
  | .set v, e => a.s (e v)
  | .rel true v w, e => a.r (e v) (e w)
  | .rel false v w, e => decide (e v = e w)
  | .neg f, e => !holds a f e
  | .bin true f g, e => holds a f e || holds a g e
  | .bin false f g, e => holds a f e && holds a g e
  | .qu q v f, e => decide (q.need a.n ≤ cnt (fun x => holds a f (upd e v x)) a.n)
end Go.Proofs.YtfhogenjpepfnaaGreatDoor.Fm
namespace Go.Proofs.YtfhogenjpepfnaaGreatDoor.Fm
set_option linter.unusedVariables false
/-- Which variable stands in place of each one. -/
abbrev M := Fin 4 → Fin 4
def taken (s : Nat) (m : M) (v w : Fin 4) : Bool :=
  (s.testBit 0 && decide ((0 : Fin 4) ≠ v) && decide (m 0 = w)) || (s.testBit 1 && decide ((1 : Fin 4) ≠ v) && decide (m 1 = w)) || (s.testBit 2 && decide ((2 : Fin 4) ≠ v) && decide (m 2 = w)) || (s.testBit 3 && decide ((3 : Fin 4) ≠ v) && decide (m 3 = w))
/-- The variable that a quantifier binds. -/
def fresh (v : Fin 4) (s : Nat) (m : M) : Option (Fin 4) :=
  if taken s m v v then
    if taken s m v 0 then if taken s m v 1 then if taken s m v 2 then if taken s m v 3 then none else some 3 else some 2 else some 1 else some 0
  else some v
def fput (m : M) (v u : Fin 4) : M := fun x => if x = v then u else m x
/-- Other variables in place of the free ones. -/
def put : T → M → Option T
  | .lit b, _ => some (.lit b)
  | .set v, m => some (.set (m v))
  | .rel e v w, m => some (.rel e (m v) (m w))
  | .neg f, m => (put f m).map .neg
  | .bin o f g, m => (put f m).bind fun a => (put g m).map fun b => .bin o a b
  | .qu q v f, m => (fresh v (free f) m).bind fun u => (put f (fput m v u)).map (.qu q u)
end Go.Proofs.YtfhogenjpepfnaaGreatDoor.Fm
namespace Go.Proofs.YtfhogenjpepfnaaGreatDoor.Fm
set_option linter.unusedVariables false
def len (φ : T) : Nat := (text φ).length
end Go.Proofs.YtfhogenjpepfnaaGreatDoor.Fm
namespace Go.Proofs.YtfhogenjpepfnaaGreatDoor.Fm
set_option linter.unusedVariables false
/-- The elements of the first variables, none for the others. -/
def env1 (x : Nat) : Env := fun u => if u = 0 then x else 0
def env2 (x y : Nat) : Env := fun u => if u = 0 then x else if u = 1 then y else 0
/-- The structure that two formulas define. -/
def view (a : Gs.St) (ps pr : T) : Gs.St := ⟨a.n, fun x => holds a ps (env1 x), fun x y => holds a pr (env2 x y)⟩
end Go.Proofs.YtfhogenjpepfnaaGreatDoor.Fm

namespace Go.Proofs.YtfhogenjpepfnaaGreatDoor
open Go.RowKit
set_option linter.unusedVariables false
def Fm.T.op : Fm.T → UInt8
  | .lit b => if b then 116 else 102
  | .set _ => 80
  | .rel e _ _ => if e then 69 else 61
  | .neg _ => 33
  | .bin o _ _ => if o then 124 else 38
  | .qu q _ _ => q.byte
def Fm.T.vs : Fm.T → List (Fin 4)
  | .lit _ => []
  | .set v => [v]
  | .rel _ v w => [v, w]
  | .neg _ => []
  | .bin _ _ _ => []
  | .qu _ v _ => [v]
def Fm.T.ps : Fm.T → List Fm.T
  | .neg f => [f]
  | .bin _ f g => [f, g]
  | .qu _ _ f => [f]
  | _ => []
end Go.Proofs.YtfhogenjpepfnaaGreatDoor

namespace Go.Proofs.YtfhogenjpepfnaaGreatDoor.Fm
set_option linter.unusedVariables false
/-- How many variables and parts are behind a first letter. -/
def shape (c : UInt8) : Option (Nat × Nat) :=
  if c = 116 then some (0, 0) else if c = 102 then some (0, 0) else if c = 80 then some (1, 0) else if c = 61 then some (2, 0) else if c = 69 then some (2, 0)
  else if c = 33 then some (0, 1) else if c = 38 then some (0, 2) else if c = 124 then some (0, 2) else (quOf c).map fun _ => (1, 1)
end Go.Proofs.YtfhogenjpepfnaaGreatDoor.Fm

namespace Go.Proofs.YtfhogenjpepfnaaGreatDoor
open Go.RowKit
set_option linter.unusedVariables false
set_option maxRecDepth 100000
/-- The elements x and y for the first two variables. -/
def env2 (x y : Nat) : Fm.Env := fun i => if i = 0 then x else if i = 1 then y else 0
end Go.Proofs.YtfhogenjpepfnaaGreatDoor

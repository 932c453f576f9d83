/- Contracts of the program's functions and what they compute: part 19. Conditions: those that each theorem states. -/
import Derived.Test.YthmhjihppbeodaaGreatDoorP7n18
import Derived.Test.YthmhjihppbeodaaGreatDoorP7n2
import Derived.Test.YthmhjihppbeodaaGreatDoorP7n1
import Derived.Test.YthmhjihppbeodaaGreatDoorP7n14
import Derived.Test.YthmhjihppbeodaaGreatDoorP7n8
import Derived.Test.YthmhjihppbeodaaGreatDoorP7n15
import Derived.Test.YthmhjihppbeodaaGreatDoorP7n17
import Derived.Test.YthmhjihppbeodaaGreatDoorP7n4
import Derived.Test.YthmhjihppbeodaaGreatDoorP7n5
import Derived.Test.YthmhjihppbeodaaGreatDoorShelf3
import Derived.OwnWalk
import Derived.Deep.RegionLaw
import Derived.Deep.DeepCutAuto
import Derived.Deep.CutBlock
import Derived.Deep.AppendLies
import Derived.IntWalk
import Derived.Deep.QuietTactic
import Derived.BigQuiet
namespace Go.Proofs.YthmhjihppbeodaaGreatDoor
open Go.RowKit
set_option linter.unusedVariables false
set_option maxRecDepth 100000
theorem digit_is {k : Nat} (hk : k ≤ 9) : Lib.itoa (k : Int) = [UInt8.ofNat (48 + k)] := by
  rcases (show k = 0 ∨ k = 1 ∨ k = 2 ∨ k = 3 ∨ k = 4 ∨ k = 5 ∨ k = 6 ∨ k = 7 ∨ k = 8 ∨ k = 9 by omega) with rfl | rfl | rfl | rfl | rfl | rfl | rfl | rfl | rfl | rfl <;> simp [Lib.itoa, Lib.decDigits]
theorem itoS_digit {k : Nat} (hk : k ≤ 9) : itoS (k : Int) = ⟨#[UInt8.ofNat (48 + k)]⟩ := by
  unfold itoS
  rw [digit_is hk]
theorem atoi_digit {k : Nat} (hk : k ≤ 9) : Lib.atoi (itoS (k : Int)).data.toList = some (k : Int) := by
  rw [itoS_digit hk]
  rcases (show k = 0 ∨ k = 1 ∨ k = 2 ∨ k = 3 ∨ k = 4 ∨ k = 5 ∨ k = 6 ∨ k = 7 ∨ k = 8 ∨ k = 9 by omega) with rfl | rfl | rfl | rfl | rfl | rfl | rfl | rfl | rfl | rfl <;> rfl
theorem trim_digit {k : Nat} (hk : k ≤ 9) : (⟨(Lib.trimPrefix (itoS (k : Int)).data.toList (⟨#[45]⟩ : ByteArray).data.toList).toArray⟩ : ByteArray) = itoS (k : Int) := by
  rw [itoS_digit hk]
  rcases (show k = 0 ∨ k = 1 ∨ k = 2 ∨ k = 3 ∨ k = 4 ∨ k = 5 ∨ k = 6 ∨ k = 7 ∨ k = 8 ∨ k = 9 by omega) with rfl | rfl | rfl | rfl | rfl | rfl | rfl | rfl | rfl | rfl <;> rfl
theorem bytesW_below (w : World) (e : TypeId) (s : ByteArray) : Below w.heap.size w (Lib.bytesWorld w e s) :=
  Lib.below_freeze ((Below.refl _ _).drew.alloc (Nat.le_refl _) _) (Nat.le_refl _) _
set_option maxHeartbeats 1000000 in
theorem numberOf_digit (k : Nat) (hk : k ≤ 9) (w : World) (ht : Tab w) :
    Calls Tryz.prog 115 #[.string (itoS (k : Int))] w fun e w' => e = .returned (.tuple #[.int .i64 (k : Int), .bool true]) ∧ Below w.heap.size w w' := by
  have hz : (itoS (k : Int)).size = 1 := by rw [itoS_digit hk]; rfl
  have HA : Hid (∀ w, Calls Tryz.prog 176 #[.string (itoS (k : Int))] w fun e w' => e = .returned (.tuple #[.int .i64 (k : Int), .nilIface]) ∧ Below w.heap.size w w') := fun w =>
    (Any.strconv_Atoi Tryz.lays172 (itoS (k : Int)) k (by omega) (atoi_digit hk) w).mono fun e w' ⟨he, t, hw⟩ => ⟨he, by rw [hw]; exact bytesW_below _ _ _⟩
  have HTP : Hid (∀ w, Calls Tryz.prog 177 #[.string (itoS (k : Int)), .string ⟨#[45]⟩] w fun e w' => e = .returned (.string (itoS (k : Int))) ∧ Below w.heap.size w w') := fun w =>
    (Any.strings_TrimPrefix Tryz.lays101 (itoS (k : Int)) ⟨#[45]⟩ w).mono fun e w' ⟨he, hw⟩ => ⟨by rw [he, trim_digit hk], by rw [hw]; exact Below.refl _ _⟩
  have HI := Lib.hid (fun w ht => itoa_any (k : Int) w (by omega) (by omega) ht)
  have HT := Lib.hid ht
  have hzI : ((itoS (k : Int)).size : Int) ≤ 17 := by omega
  clear hz ht
  generalize itoS (k : Int) = s at *
  have hss : (s.toList == s.toList) = true := by simp
  go_enter Tryz.func115, Tryz.ntmps115
  go_wp2_with fail
  refine (HA.out _).mono ?_; rintro e w1 ⟨rfl, hb⟩
  have HB1 := Lib.hid hb
  have HJ := Lib.hid (HI.out w1 (HT.out.below hb (Nat.le_refl _)))
  clear hb
  go_wp2_with fail
  refine HJ.out.mono ?_; rintro e w3 ⟨rfl, hb⟩
  have HB3 := Lib.hid (HB1.out.trans (hb.mono HB1.out.size))
  clear hb
  go_wp2_with fail
  refine (HTP.out _).mono ?_; rintro e w2 ⟨rfl, hb⟩
  have HB2 := Lib.hid (HB3.out.trans (hb.mono HB3.out.size))
  clear hb
  go_wp2_with fail
  go_ret2
  exact ⟨rfl, HB2.out⟩
end Go.Proofs.YthmhjihppbeodaaGreatDoor

namespace Go.Proofs.YthmhjihppbeodaaGreatDoor.Fm
set_option linter.unusedVariables false
/-- Quantifiers: all, some, at least two, three, four. -/
inductive Q | all | some | two | three | four
def Q.byte : Q → UInt8
  | .all => 65 | .some => 83 | .two => 50 | .three => 51 | .four => 52
/-- Of how many elements the formula must be true. -/
def Q.need (n : Nat) : Q → Nat
  | .all => n | .some => 1 | .two => 2 | .three => 3 | .four => 4
inductive T
  | lit (b : Bool)
  | set (v : Fin 4)
  | rel (e : Bool) (v w : Fin 4)
  | neg (f : T)
  | bin (o : Bool) (f g : T)
  | qu (q : Q) (v : Fin 4) (f : T)
/-- The letter of a variable. -/
def vb (v : Fin 4) : UInt8 := UInt8.ofNat (97 + v.val)
def text : T → List UInt8
  | .lit b => [if b then 116 else 102]
  | .set v => [80, vb v]
  | .rel e v w => [if e then 69 else 61, vb v, vb w]
  | .neg f => 33 :: text f
  | .bin o f g => (if o then 124 else 38) :: (text f ++ text g)
  | .qu q v f => q.byte :: vb v :: text f
def pvar : List UInt8 → Option (Fin 4 × List UInt8)
  | [] => none
  | c :: s => if c = 97 then some (0, s) else if c = 98 then some (1, s) else if c = 99 then some (2, s) else if c = 100 then some (3, s) else none
def quOf (c : UInt8) : Option Q :=
  if c = 65 then some .all else if c = 83 then some .some else if c = 50 then some .two else if c = 51 then some .three else if c = 52 then some .four else none
/-- The formula with which a text begins, and what is behind it. -/
def parse : Nat → List UInt8 → Option (T × List UInt8)
  | 0, _ => none
  | _ + 1, [] => none
  | n + 1, c :: s =>
    if c = 116 then some (.lit true, s)
    else if c = 102 then some (.lit false, s)
    else if c = 80 then (pvar s).bind fun p => some (.set p.1, p.2)
    else if c = 61 then (pvar s).bind fun p => (pvar p.2).bind fun q => some (.rel false p.1 q.1, q.2)
    else if c = 69 then (pvar s).bind fun p => (pvar p.2).bind fun q => some (.rel true p.1 q.1, q.2)
    else if c = 33 then (parse n s).bind fun p => some (.neg p.1, p.2)
    else if c = 38 then (parse n s).bind fun p => (parse n p.2).bind fun q => some (.bin false p.1 q.1, q.2)
    else if c = 124 then (parse n s).bind fun p => (parse n p.2).bind fun q => some (.bin true p.1 q.1, q.2)
    else (quOf c).bind fun k => (pvar s).bind fun p => (parse n p.2).bind fun q => some (.qu k p.1 q.1, q.2)
/-- The formula that a text is. -/
def read (s : List UInt8) : Option T := if 4000 < s.length then none else (parse s.length s).bind fun p => if p.2 = [] then some p.1 else none
/-- The free variables, as bits. -/
def free : T → Nat
  | .lit _ => 0
  | .set v => 1 <<< v.val
  | .rel _ v w => 1 <<< v.val ||| 1 <<< w.val
  | .neg f => free f
  | .bin _ f g => free f ||| free g
  | .qu _ v f => free f &&& (15 ^^^ 1 <<< v.val)
/-- Elements for the variables. -/
abbrev Env := Fin 4 → Nat
def upd (e : Env) (v : Fin 4) (x : Nat) : Env := fun u => if u = v then x else e u
/-- How many of the first numbers there are. -/
def cnt (p : Nat → Bool) : Nat → Nat
  | 0 => 0
  | n + 1 => cnt p n + (if p n then 1 else 0)
/-- When a formula is true. -/
def holds (a : Gs.St) : T → Env → Bool
  | .lit b, _ => b
  | .set v, e => a.s (e v)
  | .rel true v w, e => a.r (e v) (e w)
  | .rel false v w, e => decide (e v = e w)
  | .neg f, e => !holds a f e
  | .bin true f g, e => holds a f e || holds a g e
  | .bin false f g, e => holds a f e && holds a g e
  | .qu q v f, e => decide (q.need a.n ≤ cnt (fun x => holds a f (upd e v x)) a.n)
end Go.Proofs.YthmhjihppbeodaaGreatDoor.Fm
namespace Go.Proofs.YthmhjihppbeodaaGreatDoor.Fm
set_option linter.unusedVariables false
/-- Which variable stands in place of each one. -/
abbrev M := Fin 4 → Fin 4
def taken (s : Nat) (m : M) (v w : Fin 4) : Bool :=
  (s.testBit 0 && decide ((0 : Fin 4) ≠ v) && decide (m 0 = w)) || (s.testBit 1 && decide ((1 : Fin 4) ≠ v) && decide (m 1 = w)) || (s.testBit 2 && decide ((2 : Fin 4) ≠ v) && decide (m 2 = w)) || (s.testBit 3 && decide ((3 : Fin 4) ≠ v) && decide (m 3 = w))
/-- The variable that a quantifier binds. -/
def fresh (v : Fin 4) (s : Nat) (m : M) : Option (Fin 4) :=
  if taken s m v v then
    if taken s m v 0 then if taken s m v 1 then if taken s m v 2 then if taken s m v 3 then none else some 3 else some 2 else some 1 else some 0
  else some v
def fput (m : M) (v u : Fin 4) : M := fun x => if x = v then u else m x
/-- Other variables in place of the free ones. -/
def put : T → M → Option T
  | .lit b, _ => some (.lit b)
  | .set v, m => some (.set (m v))
  | .rel e v w, m => some (.rel e (m v) (m w))
  | .neg f, m => (put f m).map .neg
  | .bin o f g, m => (put f m).bind fun a => (put g m).map fun b => .bin o a b
  | .qu q v f, m => (fresh v (free f) m).bind fun u => (put f (fput m v u)).map (.qu q u)
end Go.Proofs.YthmhjihppbeodaaGreatDoor.Fm
namespace Go.Proofs.YthmhjihppbeodaaGreatDoor.Fm
set_option linter.unusedVariables false
def len (φ : T) : Nat := (text φ).length
end Go.Proofs.YthmhjihppbeodaaGreatDoor.Fm
namespace Go.Proofs.YthmhjihppbeodaaGreatDoor.Fm
set_option linter.unusedVariables false
/-- The elements of the first variables, none for the others. -/
def env1 (x : Nat) : Env := fun u => if u = 0 then x else 0
def env2 (x y : Nat) : Env := fun u => if u = 0 then x else if u = 1 then y else 0
/-- The structure that two formulas define. -/
def view (a : Gs.St) (ps pr : T) : Gs.St := ⟨a.n, fun x => holds a ps (env1 x), fun x y => holds a pr (env2 x y)⟩
end Go.Proofs.YthmhjihppbeodaaGreatDoor.Fm

namespace Go.Proofs.YthmhjihppbeodaaGreatDoor
open Go.RowKit
set_option linter.unusedVariables false
def Fm.T.op : Fm.T → UInt8
  | .lit b => if b then 116 else 102
  | .set _ => 80
  | .rel e _ _ => if e then 69 else 61
  | .neg _ => 33
  | .bin o _ _ => if o then 124 else 38
  | .qu q _ _ => q.byte
def Fm.T.vs : Fm.T → List (Fin 4)
  | .lit _ => []
  | .set v => [v]
  | .rel _ v w => [v, w]
  | .neg _ => []
  | .bin _ _ _ => []
  | .qu _ v _ => [v]
def Fm.T.ps : Fm.T → List Fm.T
  | .neg f => [f]
  | .bin _ f g => [f, g]
  | .qu _ _ f => [f]
  | _ => []
end Go.Proofs.YthmhjihppbeodaaGreatDoor

namespace Go.Proofs.YthmhjihppbeodaaGreatDoor
open Go.RowKit
set_option linter.unusedVariables false
/-- Whether a text is a formula. -/
def readB (f : ByteArray) : Option Fm.T := Fm.read f.data.toList
end Go.Proofs.YthmhjihppbeodaaGreatDoor

namespace Go.Proofs.YthmhjihppbeodaaGreatDoor
open Go.RowKit
set_option linter.unusedVariables false
set_option maxRecDepth 100000
/-- The text of a structure. -/
def fmtS (S R : ByteArray) : ByteArray := S ++ ⟨#[58]⟩ ++ R
theorem FormatStructure_any (n : Nat) (S R : ByteArray) (hv : validB n S R = true) (w : World) :
    Calls Tryz.prog 10 #[strV n S R] w fun e w' => e = .returned (.string (fmtS S R)) ∧ Below w.heap.size w w' := by
  obtain ⟨h1, h8, hS, hR, _, _⟩ := valid_is hv
  have hnn : n * n ≤ 64 := Nat.mul_le_mul h8 h8
  have HIS : Hid (∀ w, Calls Tryz.prog 20 #[strV n S R] w fun e w' => e = .returned (.bool true) ∧ Below w.heap.size w w') := fun w => by
    have := isStructure_any n S R w (by omega) (by rw [hR]; omega)
    rw [hv] at this
    exact this
  have HB : Hid (SBlk (boxS w n S R) w.heap.size n S R ∧ Below w.heap.size w (boxS w n S R)) := ⟨boxS_SBlk _ _ _ _, boxS_below _ _ _ _⟩
  unfold boxS at HB
  obtain ⟨s0, s1, s2, _, _, _, hl⟩ := HB.out.1.cells
  have h58 : (⟨#[58]⟩ : ByteArray).size = 1 := rfl
  have hSI : S.size ≤ 8 := by omega
  have hRI : R.size ≤ 64 := by omega
  have hz1 : (S ++ (⟨#[58]⟩ : ByteArray)).size ≤ 9 := by rw [ByteArray.size_append, h58]; omega
  clear hv hS hR
  unfold strV at HIS
  unfold strV
  go_enter Tryz.func10, Tryz.ntmps10
  go_wp2_with fail
  refine (HIS.out _).mono ?_; rintro e w1 ⟨rfl, hb⟩
  have HB1 : Hid (SBlk w1 w.heap.size n S R ∧ Below w.heap.size w w1) := ⟨HB.out.1.below hb HB.out.1.cells.2.2.2.2.2.2, HB.out.2.trans (hb.mono HB.out.2.size)⟩
  clear s0 s1 s2 hl hb HB
  obtain ⟨s0, s1, s2, _, _, _, hl⟩ := HB1.out.1.cells
  go_wp2_with fail
  go_ret
  exact ⟨rfl, HB1.out.2⟩
theorem DeskAt.cells {w : World} {d : Nat} {a : DS} (h : DeskAt w d a) : w.cell? ⟨d, 0, none⟩ = some (.int .i64 a.n) ∧ w.cell? ⟨d, 1, none⟩ = some (.string a.S) ∧ w.cell? ⟨d, 2, none⟩ = some (.string a.R) ∧ w.cell? ⟨d, 3, none⟩ = some (.int .i64 a.m) ∧ w.cell? ⟨d, 4, none⟩ = some (.string a.T) ∧ w.cell? ⟨d, 5, none⟩ = some (.string a.U) ∧ w.cell? ⟨d, 6, none⟩ = some (.string a.f) ∧ ∀ j, w.frozen? ⟨d, j, none⟩ = false := by
  have hb := h.blk
  refine ⟨?_, ?_, ?_, ?_, ?_, ?_, ?_, fun j => ?_⟩
  all_goals first | (unfold World.cell?; rw [hb]; rfl) | (unfold World.frozen?; rw [hb]; simp)
theorem DeskAt.setA {w : World} {d : Nat} {a : DS} (h : DeskAt w d a) (n : Int) (S R : ByteArray) : DeskAt (((w.setCell ⟨d, 0, none⟩ (.int .i64 n)).setCell ⟨d, 1, none⟩ (.string S)).setCell ⟨d, 2, none⟩ (.string R)) d { a with n := n, S := S, R := R } := ⟨by
  have hb := h.blk
  simp [World.setCell, Array.getElem?_modify, hb]⟩
theorem off_setD3 {w : World} {d : Nat} {x y z : Value} : Off (fun b => b = d) w (((w.setCell ⟨d, 0, none⟩ x).setCell ⟨d, 1, none⟩ y).setCell ⟨d, 2, none⟩ z) :=
  ⟨rfl, rfl, rfl, by simp [World.setCell], fun k _ hk => by rw [Below.heap_setCell _ _ _ _ hk, Below.heap_setCell _ _ _ _ hk, Below.heap_setCell _ _ _ _ hk]⟩
end Go.Proofs.YthmhjihppbeodaaGreatDoor

namespace Go.Proofs.YthmhjihppbeodaaGreatDoor
open Go.RowKit
set_option linter.unusedVariables false
theorem text_is (s : ByteArray) (l : List UInt8) : s.toList = l ↔ s = ⟨l.toArray⟩ := by
  rw [ByteArray.toList_eq]
  constructor
  · intro h
    apply ByteArray.ext
    show s.data = l.toArray
    rw [← h]
  · intro h
    rw [h]
end Go.Proofs.YthmhjihppbeodaaGreatDoor

namespace Go.Proofs.YthmhjihppbeodaaGreatDoor
open Go.RowKit
set_option linter.unusedVariables false
set_option maxRecDepth 100000
/-- The first of some. -/
def fsO {α : Type} (g : Nat → Option α) : Nat → Option α
  | 0 => none
  | k + 1 => match fsO g k with
    | some s => some s
    | none => g k
/-- A variable's name; a fact with its sign. -/
def vnB (i : Nat) : ByteArray := ⟨#[UInt8.ofNat (97 + i)]⟩
def sgB (s : ByteArray) (is : Bool) : ByteArray := if is then s else ⟨#[33]⟩ ++ s
def elB (L : List Int) (i : Nat) : Nat := (L.getD i 0).toNat
def fa3 (a b : Gs.St) (L M : List Int) (i k : Nat) : Option ByteArray :=
  if L.getD k 0 < 0 then none
  else if decide (L.getD k 0 = L.getD i 0) != decide (M.getD k 0 = M.getD i 0) then some (sgB (⟨#[61]⟩ ++ vnB k ++ vnB i) (decide (L.getD k 0 = L.getD i 0)))
  else if a.r (elB L k) (elB L i) != b.r (elB M k) (elB M i) then some (sgB (⟨#[69]⟩ ++ vnB k ++ vnB i) (a.r (elB L k) (elB L i)))
  else if a.r (elB L i) (elB L k) != b.r (elB M i) (elB M k) then some (sgB (⟨#[69]⟩ ++ vnB i ++ vnB k) (a.r (elB L i) (elB L k)))
  else none
def fa1 (a b : Gs.St) (L M : List Int) (i : Nat) : Option ByteArray :=
  if L.getD i 0 < 0 then none
  else if a.s (elB L i) != b.s (elB M i) then some (sgB (⟨#[80]⟩ ++ vnB i) (a.s (elB L i)))
  else fsO (fa3 a b L M i) (i + 1)
/-- Texts, each once. -/
def hasB (out : List ByteArray) (f : ByteArray) : Bool := out.any fun g => decide (g = f)
end Go.Proofs.YthmhjihppbeodaaGreatDoor

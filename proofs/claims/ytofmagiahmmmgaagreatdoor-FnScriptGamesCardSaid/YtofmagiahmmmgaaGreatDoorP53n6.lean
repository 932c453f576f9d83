/- Contracts of the program's functions and what they compute: part 6. Conditions: those that each theorem states. -/
import Derived.Test.YtofmagiahmmmgaaGreatDoorP53n5
import Derived.Test.YtofmagiahmmmgaaGreatDoorP53n1
import Derived.Test.YtofmagiahmmmgaaGreatDoorP53n4
import Derived.Test.YtofmagiahmmmgaaGreatDoorP53n2
import Derived.Test.YtofmagiahmmmgaaGreatDoorP53n3
import Derived.OwnWalk
import Derived.Deep.RegionLaw
import Derived.Deep.DeepCutAuto
import Derived.Deep.CutBlock
import Derived.Deep.AppendLies
import Derived.Lib.ItoaLen
import Derived.Lib.ItoaMem
import Derived.IntWalk
import Derived.Laws.IdiomStrings
import Derived.Test.YtofmagiahmmmgaaGreatDoorShelf2
import Derived.Lib.AppendIntMem
import Derived.Lib.LaidTab
import Derived.Lib.Join
import Derived.Test.YtofmagiahmmmgaaGreatDoorShelf3
namespace Go.Proofs.YtofmagiahmmmgaaGreatDoor.Fm
set_option linter.unusedVariables false
/-- Quantifiers: all, some, at least two, three, four. -/
inductive Q | all | some | two | three | four
def Q.byte : Q → UInt8
  | .all => 65 | .some => 83 | .two => 50 | .three => 51 | .four => 52
/-- Of how many elements the formula must be true. -/
def Q.need (n : Nat) : Q → Nat
  | .all => n | .some => 1 | .two => 2 | .three => 3 | .four => 4
inductive T
  | lit (b : Bool)
  | set (v : Fin 4)
  | rel (e : Bool) (v w : Fin 4)
  | neg (f : T)
  | bin (o : Bool) (f g : T)
  | qu (q : Q) (v : Fin 4) (f : T)
/-- The letter of a variable. -/
def vb (v : Fin 4) : UInt8 := UInt8.ofNat (97 + v.val)
def text : T → List UInt8
  | .lit b => [if b then 116 else 102]
  | .set v => [80, vb v]
  | .rel e v w => [if e then 69 else 61, vb v, vb w]
  | .neg f => 33 :: text f
  | .bin o f g => (if o then 124 else 38) :: (text f ++ text g)
  | .qu q v f => q.byte :: vb v :: text f
def pvar : List UInt8 → Option (Fin 4 × List UInt8)
  | [] => none
  | c :: s => if c = 97 then some (0, s) else if c = 98 then some (1, s) else if c = 99 then some (2, s) else if c = 100 then some (3, s) else none
def quOf (c : UInt8) : Option Q :=
  if c = 65 then some .all else if c = 83 then some .some else if c = 50 then some .two else if c = 51 then some .three else if c = 52 then some .four else none
/-- The formula with which a text begins, and what is behind it. -/
def parse : Nat → List UInt8 → Option (T × List UInt8)
  | 0, _ => none
  | _ + 1, [] => none
  | n + 1, c :: s =>
    if c = 116 then some (.lit true, s)
    else if c = 102 then some (.lit false, s)
    else if c = 80 then (pvar s).bind fun p => some (.set p.1, p.2)
    else if c = 61 then (pvar s).bind fun p => (pvar p.2).bind fun q => some (.rel false p.1 q.1, q.2)
    else if c = 69 then (pvar s).bind fun p => (pvar p.2).bind fun q => some (.rel true p.1 q.1, q.2)
    else if c = 33 then (parse n s).bind fun p => some (.neg p.1, p.2)
    else if c = 38 then (parse n s).bind fun p => (parse n p.2).bind fun q => some (.bin false p.1 q.1, q.2)
    else if c = 124 then (parse n s).bind fun p => (parse n p.2).bind fun q => some (.bin true p.1 q.1, q.2)
    else (quOf c).bind fun k => (pvar s).bind fun p => (parse n p.2).bind fun q => some (.qu k p.1 q.1, q.2)
/-- The formula that a text is. -/
def read (s : List UInt8) : Option T := if 4000 < s.length then none else (parse s.length s).bind fun p => if p.2 = [] then some p.1 else none
/-- The free variables, as bits. -/
def free : T → Nat
  | .lit _ => 0
  | .set v => 1 <<< v.val
  | .rel _ v w => 1 <<< v.val ||| 1 <<< w.val
  | .neg f => free f
  | .bin _ f g => free f ||| free g
  | .qu _ v f => free f &&& (15 ^^^ 1 <<< v.val)
/-- Elements for the variables. -/
abbrev Env := Fin 4 → Nat
def upd (e : Env) (v : Fin 4) (x : Nat) : Env := fun u => if u = v then x else e u
/-- How many of the first numbers there are. -/
def cnt (p : Nat → Bool) : Nat → Nat
  | 0 => 0
  | n + 1 => cnt p n + (if p n then 1 else 0)
/-- When a formula is true. -/
def holds (a : Gs.St) : T → Env → Bool
  | .lit b, _ => b
  | .set v, e => a.s (e v)
  | .rel true v w, e => a.r (e v) (e w)
  | .rel false v w, e => decide (e v = e w)
  | .neg f, e => !holds a f e
  | .bin true f g, e => holds a f e || holds a g e
  | .bin false f g, e => holds a f e && holds a g e
  | .qu q v f, e => decide (q.need a.n ≤ cnt (fun x => holds a f (upd e v x)) a.n)
end Go.Proofs.YtofmagiahmmmgaaGreatDoor.Fm
namespace Go.Proofs.YtofmagiahmmmgaaGreatDoor.Fm
set_option linter.unusedVariables false
/-- Which variable stands in place of each one. -/
abbrev M := Fin 4 → Fin 4
def taken (s : Nat) (m : M) (v w : Fin 4) : Bool :=
  (s.testBit 0 && decide ((0 : Fin 4) ≠ v) && decide (m 0 = w)) || (s.testBit 1 && decide ((1 : Fin 4) ≠ v) && decide (m 1 = w)) || (s.testBit 2 && decide ((2 : Fin 4) ≠ v) && decide (m 2 = w)) || (s.testBit 3 && decide ((3 : Fin 4) ≠ v) && decide (m 3 = w))
/-- The variable that a quantifier binds. -/
def fresh (v : Fin 4) (s : Nat) (m : M) : Option (Fin 4) :=
  if taken s m v v then
    if taken s m v 0 then if taken s m v 1 then if taken s m v 2 then if taken s m v 3 then none else some 3 else some 2 else some 1 else some 0
  else some v
def fput (m : M) (v u : Fin 4) : M := fun x => if x = v then u else m x
/-- Other variables in place of the free ones. -/
def put : T → M → Option T
  | .lit b, _ => some (.lit b)
  | .set v, m => some (.set (m v))
  | .rel e v w, m => some (.rel e (m v) (m w))
  | .neg f, m => (put f m).map .neg
  | .bin o f g, m => (put f m).bind fun a => (put g m).map fun b => .bin o a b
  | .qu q v f, m => (fresh v (free f) m).bind fun u => (put f (fput m v u)).map (.qu q u)
end Go.Proofs.YtofmagiahmmmgaaGreatDoor.Fm
namespace Go.Proofs.YtofmagiahmmmgaaGreatDoor.Fm
set_option linter.unusedVariables false
def len (φ : T) : Nat := (text φ).length
end Go.Proofs.YtofmagiahmmmgaaGreatDoor.Fm
namespace Go.Proofs.YtofmagiahmmmgaaGreatDoor.Fm
set_option linter.unusedVariables false
/-- The elements of the first variables, none for the others. -/
def env1 (x : Nat) : Env := fun u => if u = 0 then x else 0
def env2 (x y : Nat) : Env := fun u => if u = 0 then x else if u = 1 then y else 0
/-- The structure that two formulas define. -/
def view (a : Gs.St) (ps pr : T) : Gs.St := ⟨a.n, fun x => holds a ps (env1 x), fun x y => holds a pr (env2 x y)⟩
end Go.Proofs.YtofmagiahmmmgaaGreatDoor.Fm

namespace Go.Proofs.YtofmagiahmmmgaaGreatDoor
open Go.RowKit
set_option linter.unusedVariables false
def Fm.T.op : Fm.T → UInt8
  | .lit b => if b then 116 else 102
  | .set _ => 80
  | .rel e _ _ => if e then 69 else 61
  | .neg _ => 33
  | .bin o _ _ => if o then 124 else 38
  | .qu q _ _ => q.byte
def Fm.T.vs : Fm.T → List (Fin 4)
  | .lit _ => []
  | .set v => [v]
  | .rel _ v w => [v, w]
  | .neg _ => []
  | .bin _ _ _ => []
  | .qu _ v _ => [v]
def Fm.T.ps : Fm.T → List Fm.T
  | .neg f => [f]
  | .bin _ f g => [f, g]
  | .qu _ _ f => [f]
  | _ => []
end Go.Proofs.YtofmagiahmmmgaaGreatDoor

namespace Go.Proofs.YtofmagiahmmmgaaGreatDoor
open Go.RowKit
set_option linter.unusedVariables false
/-- Whether a text is a formula. -/
def readB (f : ByteArray) : Option Fm.T := Fm.read f.data.toList
end Go.Proofs.YtofmagiahmmmgaaGreatDoor

namespace Go.Proofs.YtofmagiahmmmgaaGreatDoor
open Go.RowKit
set_option linter.unusedVariables false
set_option maxRecDepth 100000
/-- The text of a structure. -/
def fmtS (S R : ByteArray) : ByteArray := S ++ ⟨#[58]⟩ ++ R
theorem FormatStructure_any (n : Nat) (S R : ByteArray) (hv : validB n S R = true) (w : World) :
    Calls Tryz.prog 12 #[strV n S R] w fun e w' => e = .returned (.string (fmtS S R)) ∧ Below w.heap.size w w' := by
  obtain ⟨h1, h8, hS, hR, _, _⟩ := valid_is hv
  have hnn : n * n ≤ 64 := Nat.mul_le_mul h8 h8
  have HIS : Hid (∀ w, Calls Tryz.prog 23 #[strV n S R] w fun e w' => e = .returned (.bool true) ∧ Below w.heap.size w w') := fun w => by
    have := isStructure_any n S R w (by omega) (by rw [hR]; omega)
    rw [hv] at this
    exact this
  have HB : Hid (SBlk (boxS w n S R) w.heap.size n S R ∧ Below w.heap.size w (boxS w n S R)) := ⟨boxS_SBlk _ _ _ _, boxS_below _ _ _ _⟩
  unfold boxS at HB
  obtain ⟨s0, s1, s2, _, _, _, hl⟩ := HB.out.1.cells
  have h58 : (⟨#[58]⟩ : ByteArray).size = 1 := rfl
  have hSI : S.size ≤ 8 := by omega
  have hRI : R.size ≤ 64 := by omega
  have hz1 : (S ++ (⟨#[58]⟩ : ByteArray)).size ≤ 9 := by rw [ByteArray.size_append, h58]; omega
  clear hv hS hR
  unfold strV at HIS
  unfold strV
  go_enter Tryz.func12, Tryz.ntmps12
  go_wp2_with fail
  refine (HIS.out _).mono ?_; rintro e w1 ⟨rfl, hb⟩
  have HB1 : Hid (SBlk w1 w.heap.size n S R ∧ Below w.heap.size w w1) := ⟨HB.out.1.below hb HB.out.1.cells.2.2.2.2.2.2, HB.out.2.trans (hb.mono HB.out.2.size)⟩
  clear s0 s1 s2 hl hb HB
  obtain ⟨s0, s1, s2, _, _, _, hl⟩ := HB1.out.1.cells
  go_wp2_with fail
  go_ret
  exact ⟨rfl, HB1.out.2⟩
theorem DeskAt.cells {w : World} {d : Nat} {a : DS} (h : DeskAt w d a) : w.cell? ⟨d, 0, none⟩ = some (.int .i64 a.n) ∧ w.cell? ⟨d, 1, none⟩ = some (.string a.S) ∧ w.cell? ⟨d, 2, none⟩ = some (.string a.R) ∧ w.cell? ⟨d, 3, none⟩ = some (.int .i64 a.m) ∧ w.cell? ⟨d, 4, none⟩ = some (.string a.T) ∧ w.cell? ⟨d, 5, none⟩ = some (.string a.U) ∧ w.cell? ⟨d, 6, none⟩ = some (.string a.f) ∧ ∀ j, w.frozen? ⟨d, j, none⟩ = false := by
  have hb := h.blk
  refine ⟨?_, ?_, ?_, ?_, ?_, ?_, ?_, fun j => ?_⟩
  all_goals first | (unfold World.cell?; rw [hb]; rfl) | (unfold World.frozen?; rw [hb]; simp)
theorem DeskAt.setF {w : World} {d : Nat} {a : DS} (h : DeskAt w d a) (f : ByteArray) : DeskAt (w.setCell ⟨d, 6, none⟩ (.string f)) d { a with f := f } := ⟨by
  have hb := h.blk
  simp [World.setCell, Array.getElem?_modify, hb]⟩
theorem off_setD {w : World} {d i : Nat} {x : Value} : Off (fun b => b = d) w (w.setCell ⟨d, i, none⟩ x) := ⟨rfl, rfl, rfl, by simp [World.setCell], fun k _ hk => Below.heap_setCell _ _ _ _ hk⟩
theorem DeskAt.setA {w : World} {d : Nat} {a : DS} (h : DeskAt w d a) (n : Int) (S R : ByteArray) : DeskAt (((w.setCell ⟨d, 0, none⟩ (.int .i64 n)).setCell ⟨d, 1, none⟩ (.string S)).setCell ⟨d, 2, none⟩ (.string R)) d { a with n := n, S := S, R := R } := ⟨by
  have hb := h.blk
  simp [World.setCell, Array.getElem?_modify, hb]⟩
theorem off_setD3 {w : World} {d : Nat} {x y z : Value} : Off (fun b => b = d) w (((w.setCell ⟨d, 0, none⟩ x).setCell ⟨d, 1, none⟩ y).setCell ⟨d, 2, none⟩ z) :=
  ⟨rfl, rfl, rfl, by simp [World.setCell], fun k _ hk => by rw [Below.heap_setCell _ _ _ _ hk, Below.heap_setCell _ _ _ _ hk, Below.heap_setCell _ _ _ _ hk]⟩
end Go.Proofs.YtofmagiahmmmgaaGreatDoor

namespace Go.Proofs.YtofmagiahmmmgaaGreatDoor
open Go.RowKit
set_option linter.unusedVariables false
set_option maxRecDepth 100000
/-- A word is answered by (*desk).told; nothing turns. -/
def ToldOK (w0 : World) (l : ByteArray) (a : DS) (o : ByteArray) : Prop := ∀ (W : World) (d : Nat), w0.heap.size ≤ d → Below w0.heap.size w0 W → DeskAt W d a →
  Calls Tryz.prog 122 #[.pointer (some ⟨d, 0, none⟩), .string l] W fun e w' => e = .returned (.string o) ∧ DeskAt w' d a ∧ Off (fun x => x = d) W w'
/-- A word is answered by (*desk).plain. -/
def PlainOK (w0 : World) (l : ByteArray) (a b : DS) (o : ByteArray) : Prop := ∀ (W : World) (d : Nat), w0.heap.size ≤ d → Below w0.heap.size w0 W → DeskAt W d a →
  Calls Tryz.prog 69 #[.pointer (some ⟨d, 0, none⟩), .string l] W fun e w' => e = .returned (.string o) ∧ DeskAt w' d b ∧ Off (fun x => x = d) W w'
/-- A line of one word is what (*desk).plain answers. -/
theorem run_plain (w0 : World) (l : ByteArray) (hl : (32 : UInt8) ∉ l.data.toList) (a b : DS) (s : ByteArray) (HP0 : PlainOK w0 l a b s) : RunOK w0 l a b s := by
  intro W d hd hB hD
  have HCU := Lib.hid (fun w => cut_word l hl w)
  have HP := Lib.hid (fun W hB hD => HP0 W d hd hB hD)
  have HD : Hid (DeskAt W d a ∧ Off (fun x => x = d) W W ∧ Below w0.heap.size w0 W) := ⟨hD, Off.of_below (Below.refl _ _), hB⟩
  clear hD hB HP0
  go_enter Tryz.func34, Tryz.ntmps34
  go_wp2_with fail
  refine (HCU.out _).mono ?_; rintro e w1 ⟨rfl, hb⟩
  have HD1 : Hid (DeskAt w1 d a ∧ Off (fun x => x = d) W w1 ∧ Below w0.heap.size w0 w1) := ⟨HD.out.1.below hb, Off.of_below hb, HD.out.2.2.trans (hb.mono HD.out.2.2.size)⟩
  clear hb HD
  go_wp2_with fail
  refine (HP.out _ HD1.out.2.2 HD1.out.1).mono ?_; rintro e w2 ⟨rfl, hd2, ho2⟩
  have HD2 : Hid (DeskAt w2 d b ∧ Off (fun x => x = d) W w2) := ⟨hd2, HD1.out.2.1.trans ho2 (fun _ h => .inl h)⟩
  clear hd2 ho2
  go_wp2_with fail
  go_ret
  exact ⟨rfl, HD2.out⟩
theorem plain_rounds (w0 : World) (a : DS) (s : ByteArray) (HT0 : ToldOK w0 ⟨#[114, 111, 117, 110, 100, 115]⟩ a s) : PlainOK w0 ⟨#[114, 111, 117, 110, 100, 115]⟩ a a s := by
  intro W d hd hB hD
  have HT := Lib.hid (HT0 W d hd hB hD)
  clear hD hB HT0
  go_enter Tryz.func69, Tryz.ntmps69
  go_wp2_with fail
  refine HT.out.mono ?_; rintro e w2 ⟨rfl, hd2, ho2⟩
  have HD2 : Hid (DeskAt w2 d a ∧ Off (fun x => x = d) W w2) := ⟨hd2, ho2⟩
  clear hd2 ho2
  go_wp2_with fail
  go_ret
  exact ⟨rfl, HD2.out⟩
theorem plain_coloured (w0 : World) (a : DS) (s : ByteArray) (HT0 : ToldOK w0 ⟨#[99, 111, 108, 111, 117, 114, 101, 100]⟩ a s) : PlainOK w0 ⟨#[99, 111, 108, 111, 117, 114, 101, 100]⟩ a a s := by
  intro W d hd hB hD
  have HT := Lib.hid (HT0 W d hd hB hD)
  clear hD hB HT0
  go_enter Tryz.func69, Tryz.ntmps69
  go_wp2_with fail
  refine HT.out.mono ?_; rintro e w2 ⟨rfl, hd2, ho2⟩
  have HD2 : Hid (DeskAt w2 d a ∧ Off (fun x => x = d) W w2) := ⟨hd2, ho2⟩
  clear hd2 ho2
  go_wp2_with fail
  go_ret
  exact ⟨rfl, HD2.out⟩
end Go.Proofs.YtofmagiahmmmgaaGreatDoor

namespace Go.Proofs.YtofmagiahmmmgaaGreatDoor
open Go.RowKit
set_option linter.unusedVariables false
def decS (u : Nat) : ByteArray := ⟨(Lib.decDigits u).toArray⟩
def digS (d : Nat) : ByteArray := ⟨#[UInt8.ofNat (48 + d)]⟩
theorem decS_big (u : Nat) (h : ¬ u < 10) : decS u = decS (u / 10) ++ digS (u % 10) := by
  apply ByteArray.ext
  show (Lib.decDigits u).toArray = (decS (u / 10) ++ digS (u % 10)).data
  rw [ByteArray.data_append, Lib.decDigits, dif_neg h]
  simp [decS, digS]
theorem decS_small (u : Nat) (h : u < 10) : decS u = digS u := by
  unfold decS digS
  rw [Lib.decDigits, dif_pos h]
theorem decS_size (u : Nat) (h : u ≤ 9223372036854775808) : (decS u).size ≤ 20 := by
  show (Lib.decDigits u).toArray.size ≤ 20
  rw [List.size_toArray, Lib.decDigits_length]
  exact Lib.nDigits_le20 u (by omega)
theorem dig_conv (d : Nat) (hd : d < 10) (i : Int) (hi : i = 48 + (d : Int)) (w : World) :
    (convert 22 9 (.slice (some ⟨w.heap.size, 0, none⟩) 1 1)).run Tryz.prog (w.alloc (.cells #[.int .u8 i] 5)) = .ok (.string (digS d)) (w.alloc (.cells #[.int .u8 i] 5)) := by
  refine run_convert_bytes_back _ 22 9 5 ⟨w.heap.size, 0, none⟩ 1 [UInt8.ofNat (48 + d)] Tryz.underlying22 Tryz.underlying5 Tryz.underlying9 ?_
  intro j hj
  have hj0 : j = 0 := by simpa using hj
  subst hj0
  subst hi
  simp [Addr.add]
  omega
set_option maxRecDepth 100000 in
theorem dec_any (u : Nat) (w : World) (hu : (u : Int) ≤ 9223372036854775807) :
    Calls Tryz.prog 148 #[.int .i64 (u : Int)] w fun e w' => e = .returned (.string (decS u)) ∧ Below w.heap.size w w' := by
  have hz := decS_size u (by omega)
  have HZ := Lib.hid hz; clear hz
  go_enter Tryz.func148, Tryz.ntmps148
  go_wp2_with fail
  go_loopw [0, 3] (fun a o wr => ∃ (t : Nat) (out : ByteArray), a = .int .i64 t ∧ o = .string out ∧ (t : Int) ≤ 9223372036854775807 ∧ out.size ≤ 20 ∧ Hid (decS t ++ out = decS u) ∧ Hid (Below w.heap.size w wr)) (fun a _ _ => (intOf a).toNat)
  case atStart => exact ⟨u, ByteArray.empty, rfl, rfl, hu, by simp, by show decS u ++ ByteArray.empty = decS u; apply ByteArray.ext; simp, Below.refl _ _⟩
  case round =>
    obtain ⟨t, out, rfl, rfl, ht, ho, HT, HB⟩ := hrel
    by_cases hlt : (9 : Int) < t
    · have HD := Lib.hid (decS_big t (by omega))
      have hc := dig_conv (t % 10) (by omega) (48 + (t : Int) % 10) (by omega) wr
      have hdz : (digS (t % 10)).size = 1 := rfl
      have HB1 : Hid (Below w.heap.size w (wr.alloc (.cells #[.int .u8 (48 + (t : Int) % 10)] 5))) := HB.out.alloc HB.out.size _
      have hoz : out.size ≤ 19 := by
        have h1 := congrArg ByteArray.size HT.out
        have h2 := HZ.out
        rw [HD.out, ByteArray.size_append, ByteArray.size_append, hdz] at h1
        omega
      have HT1 : Hid (decS (t / 10) ++ (digS (t % 10) ++ out) = decS u) := by
        show _ = _
        rw [← HT.out, HD.out]
        apply ByteArray.ext
        simp [ByteArray.data_append, Array.append_assoc]
      generalize digS (t % 10) = D at *
      go_wp2_with fail
      go_roundw
      case rel => exact ⟨t / 10, D ++ out, by go_num, rfl, by omega, by rw [ByteArray.size_append]; omega, HT1.out, HB1.out⟩
      case measure => simp [intOf]; omega
    · have HD := Lib.hid (decS_small t (by omega))
      have hc := dig_conv t (by omega) (48 + (t : Int)) rfl wr
      have hdz : (digS t).size = 1 := rfl
      have HB1 : Hid (Below w.heap.size w (wr.alloc (.cells #[.int .u8 (48 + (t : Int))] 5))) := HB.out.alloc HB.out.size _
      have HT1 : Hid (digS t ++ out = decS u) := by
        show _ = _
        rw [← HT.out, HD.out]
      generalize digS t = D at *
      go_wp2_with fail
      go_ret
      exact ⟨congrArg (fun s => Ending.returned (.string s)) HT1.out, HB1.out⟩
def itoS (n : Int) : ByteArray := ⟨(Lib.itoa n).toArray⟩
end Go.Proofs.YtofmagiahmmmgaaGreatDoor

namespace Go.Proofs.YtofmagiahmmmgaaGreatDoor
open Go.RowKit
set_option linter.unusedVariables false
/-- The table that strconv reads. -/
def Tab (w : World) : Prop := Lib.TabIs Tryz.prog w "internal/strconv.uint64pow10" .u64 Lib.pow10Tab
theorem Tab.lt {w : World} (h : Tab w) : 1 < w.heap.size := by
  have hgn : Tryz.prog.globalNamed "internal/strconv.uint64pow10" = some 1 := by kernel_rfl
  unfold Tab Lib.TabIs World.var? at h
  rw [hgn] at h
  simp only [Option.bind_some] at h
  rcases Nat.lt_or_ge 1 w.heap.size with h' | h'
  · exact h'
  · rw [Array.getElem?_eq_none h'] at h; cases h
theorem Tab.below {w w' : World} {B : Nat} (h : Tab w) (hb : Below B w w') (hB : w.heap.size ≤ B) : Tab w' := by
  have hlt := h.lt
  have hgn : Tryz.prog.globalNamed "internal/strconv.uint64pow10" = some 1 := by kernel_rfl
  unfold Tab Lib.TabIs World.var? at h ⊢
  rw [hgn] at h ⊢
  simp only [Option.bind_some] at h ⊢
  rw [hb.block 1 (by omega)]
  exact h
theorem joinExtra : Builder.Extra Tryz.prog Tryz.lays156_ren := {
  sizeBuilder := by kernel_rfl
  liesBuilder := by kernel_rfl
  t5 := Tryz.underlying5
  a5 := Tryz.isAgg5
  z5 := Tryz.sizeOf5
  v5 := Tryz.zeroValue5
  infoByte := by kernel_rfl
  cellsByte := by kernel_rfl
  sizeByte := by kernel_rfl
  neB5 := by decide }
theorem itoa_any (n : Int) (w : World) (h0 : -9223372036854775808 ≤ n) (h1 : n ≤ 9223372036854775807) (ht : Tab w) :
    Calls Tryz.prog 31 #[.int .i64 n] w fun e w' => e = .returned (.string (itoS n)) ∧ Below w.heap.size w w' :=
  (Any.strconv_Itoa Tryz.lays171 n h0 h1 w ht).mono fun e w' ⟨he, k, os, hw⟩ => ⟨he, hw ▸ Lib.below_grow _ w (Nat.le_refl _) k os⟩
/-- Numbers with blanks between them. -/
def fmtB (zs : List Int) : ByteArray := ⟨(Lib.join (zs.map Lib.itoa) [32]).toArray⟩
theorem itoS_size (n : Int) (h0 : -9223372036854775808 ≤ n) (h1 : n ≤ 9223372036854775807) : (itoS n).size ≤ 21 := by
  show (Lib.itoa n).toArray.size ≤ 21
  rw [List.size_toArray]
  exact Lib.itoa_length_le n h0 h1
def Fits (zs : List Int) : Prop := ∀ z ∈ zs, -9223372036854775808 ≤ z ∧ z ≤ 9223372036854775807
theorem lens_le (zs : List Int) (h : Fits zs) : Lib.lens (zs.map Lib.itoa) ≤ 21 * zs.length := by
  induction zs with
  | nil => simp [Lib.lens]
  | cons z zs ih =>
    have h1 := ih (fun y hy => h y (List.mem_cons_of_mem _ hy))
    have h2 := Lib.itoa_length_le z (h z (List.mem_cons_self ..)).1 (h z (List.mem_cons_self ..)).2
    simp only [Lib.lens, List.map_cons, List.sum_cons, List.length_cons] at h1 ⊢
    omega
theorem join_size (zs : List Int) (h : Fits zs) : (Lib.join (zs.map Lib.itoa) [32]).length ≤ 22 * zs.length := by
  cases zs with
  | nil => simp [Lib.join_nil]
  | cons z zs =>
    rw [List.map_cons, Lib.join_length, ← List.map_cons]
    have := lens_le (z :: zs) h
    simp only [List.length_cons, List.length_map, List.length_nil] at this ⊢
    omega
theorem implFmt_zero (a : Option Addr) (cap : Nat) (w : World) :
    Calls Tryz.prog 13 #[.slice a 0 cap] w fun e w' => e = .returned (.string ⟨#[45]⟩) ∧ Below w.heap.size w w' := by
  go_enter Tryz.func13, Tryz.ntmps13
  go_wp2_with fail
  go_ret
  exact ⟨rfl, Below.refl _ _⟩
set_option maxRecDepth 100000 in
theorem implFmt_any (g o cap : Nat) (zs : List Int) (w : World) (h0 : ¬ zs.length = 0) (hl : zs.length ≤ 1048576) (hf : Fits zs) (ht : Tab w) (hcap : zs.length ≤ cap) (hcm : cap ≤ maxLen) (hg : g < w.heap.size)
    (hc : ∀ j (h : j < zs.length), w.cell? ⟨g, o + j, none⟩ = some (.int .i64 zs[j])) :
    Calls Tryz.prog 13 #[.slice (some ⟨g, o, none⟩) zs.length cap] w fun e w' => e = .returned (.string (fmtB zs)) ∧ Below w.heap.size w w' := by
  have HC := Lib.hid hc
  have HF := Lib.hid hf
  have HT := Lib.hid ht
  clear hc hf ht
  obtain ⟨n, hn⟩ : ∃ n, zs.length = n := ⟨_, rfl⟩
  have HN := Lib.hid hn
  rw [hn] at h0 hl hcap
  rw [hn]
  clear hn
  have e1 : ((n : Int) == 0) = false := by simp; omega
  have HS0 := Lib.hid (Strs.lit0 w)
  go_enter Tryz.func13, Tryz.ntmps13
  go_wp2_with fail
  go_loopw [3, 5, 12] (fun v _ i wr => ∃ k : Nat, k ≤ n ∧ i = .int .i64 k ∧ Hid (Strs w wr v ((zs.take k).map itoS))) (fun _ _ i _ => n - (intOf i).toNat)
  case atStart => exact ⟨0, by omega, rfl, HS0.out⟩
  case round =>
    obtain ⟨k, hk, rfl, HS⟩ := hrel
    by_cases hlt : k < n
    · have hkl : k < zs.length := by rw [HN.out]; exact hlt
      obtain ⟨z, hz⟩ : ∃ z, zs[k] = z := ⟨_, rfl⟩
      have hck := (HS.out.old.cell (p := ⟨g, o + k, none⟩) hg).trans (HC.out k hkl)
      rw [hz] at hck
      have HZ : Hid (-9223372036854775808 ≤ z ∧ z ≤ 9223372036854775807) := HF.out z (by rw [← hz]; exact List.getElem_mem hkl)
      have HK : Hid ((zs.take (k + 1)).map itoS = (zs.take k).map itoS ++ [itoS z]) := by
        show _ = _
        rw [List.take_succ_eq_append_getElem hkl, List.map_append, hz]
        rfl
      have hll : ((zs.take k).map itoS).length ≤ 2000000 := by
        rw [List.length_map, List.length_take]; omega
      have HI := Lib.hid (fun w ht => itoa_any z w HZ.out.1 HZ.out.2 ht)
      have HTr : Hid (Tab wr) := HT.out.below HS.out.old (Nat.le_refl _)
      clear hz hkl
      generalize (zs.take k).map itoS = L at *
      generalize itoS z = s at *
      go_wp2_with fail
      refine (HI.out _ HTr.out).mono ?_; rintro e w1 ⟨rfl, hb⟩
      have HS1 := Lib.hid (HS.out.kept hb); clear hb
      go_wp2_with (first | (at_builtin; refine wpList_app1 HS1.out hll rfl (.tmp 16) (.tmp 19) rfl _ _ (by simp) rfl rfl ?_; intro v' w' hs'; have HS' := Lib.hid hs'; clear hs') | fail)
      go_roundw
      case rel =>
        refine ⟨k + 1, by omega, by go_num, ?_⟩
        rw [HK.out]
        exact HS'.out
      case measure => simp [intOf]; omega
    · have hkn : k = n := by omega
      have HSn : Hid (Strs w wr u3 (zs.map itoS)) := by
        have h := HS.out
        rw [hkn, ← HN.out, List.take_length] at h
        exact h
      have HJ : Hid ((⟨(Lib.join ((zs.map itoS).map (·.data.toList)) (⟨#[32]⟩ : ByteArray).data.toList).toArray⟩ : ByteArray) = fmtB zs) := by
        show _ = _
        unfold fmtB
        rw [List.map_map]
        rfl
      have hjl : (Lib.join ((zs.map itoS).map (·.data.toList)) (⟨#[32]⟩ : ByteArray).data.toList).length ≤ 140737488355328 := by
        have h1 := join_size zs HF.out
        have h2 : ((zs.map itoS).map (·.data.toList)) = zs.map Lib.itoa := by rw [List.map_map]; rfl
        rw [h2]
        have h3 := HN.out
        show (Lib.join (zs.map Lib.itoa) [32]).length ≤ _
        omega
      have hll : (zs.map itoS).length = n := by rw [List.length_map]; exact HN.out
      obtain ⟨gg, cp, rfl, hg1, hg2, hlc, hcm2, hcc⟩ := HSn.out.cells
      have hcon := Any.strings_Join Tryz.lays156 joinExtra gg 0 cp (zs.map itoS) ⟨#[32]⟩ wr (fun j x hj => by
        obtain ⟨h1, h2⟩ := List.getElem?_eq_some_iff.1 hj
        rw [Nat.zero_add, hcc j h1, h2]) hg2 (by omega) hlc hjl
      rw [HJ.out] at hcon
      have HJn := Lib.hid hcon
      clear hcon hjl hcc HJ
      have HO : Hid (Below w.heap.size w wr) := HSn.out.old
      clear HSn HS
      rw [hll] at *
      have hkn' := Lib.hid hkn; clear hkn
      have hlt' : ¬ (k : Int) < (n : Int) := by omega
      go_wp2_with fail
      refine HJn.out.mono ?_; rintro e w1 ⟨rfl, hb⟩
      have HB := Lib.hid (HO.out.trans (hb.mono HO.out.size)); clear hb
      go_wp2_with fail
      go_ret
      exact ⟨rfl, HB.out⟩
end Go.Proofs.YtofmagiahmmmgaaGreatDoor

namespace Go.Proofs.YtofmagiahmmmgaaGreatDoor
open Go.RowKit
set_option linter.unusedVariables false
set_option maxRecDepth 100000
theorem digit_is {k : Nat} (hk : k ≤ 9) : Lib.itoa (k : Int) = [UInt8.ofNat (48 + k)] := by
  rcases (show k = 0 ∨ k = 1 ∨ k = 2 ∨ k = 3 ∨ k = 4 ∨ k = 5 ∨ k = 6 ∨ k = 7 ∨ k = 8 ∨ k = 9 by omega) with rfl | rfl | rfl | rfl | rfl | rfl | rfl | rfl | rfl | rfl <;> simp [Lib.itoa, Lib.decDigits]
theorem itoS_digit {k : Nat} (hk : k ≤ 9) : itoS (k : Int) = ⟨#[UInt8.ofNat (48 + k)]⟩ := by
  unfold itoS
  rw [digit_is hk]
theorem atoi_digit {k : Nat} (hk : k ≤ 9) : Lib.atoi (itoS (k : Int)).data.toList = some (k : Int) := by
  rw [itoS_digit hk]
  rcases (show k = 0 ∨ k = 1 ∨ k = 2 ∨ k = 3 ∨ k = 4 ∨ k = 5 ∨ k = 6 ∨ k = 7 ∨ k = 8 ∨ k = 9 by omega) with rfl | rfl | rfl | rfl | rfl | rfl | rfl | rfl | rfl | rfl <;> rfl
theorem trim_digit {k : Nat} (hk : k ≤ 9) : (⟨(Lib.trimPrefix (itoS (k : Int)).data.toList (⟨#[45]⟩ : ByteArray).data.toList).toArray⟩ : ByteArray) = itoS (k : Int) := by
  rw [itoS_digit hk]
  rcases (show k = 0 ∨ k = 1 ∨ k = 2 ∨ k = 3 ∨ k = 4 ∨ k = 5 ∨ k = 6 ∨ k = 7 ∨ k = 8 ∨ k = 9 by omega) with rfl | rfl | rfl | rfl | rfl | rfl | rfl | rfl | rfl | rfl <;> rfl
theorem bytesW_below (w : World) (e : TypeId) (s : ByteArray) : Below w.heap.size w (Lib.bytesWorld w e s) :=
  Lib.below_freeze ((Below.refl _ _).drew.alloc (Nat.le_refl _) _) (Nat.le_refl _) _
set_option maxHeartbeats 1000000 in
theorem numberOf_digit (k : Nat) (hk : k ≤ 9) (w : World) (ht : Tab w) :
    Calls Tryz.prog 137 #[.string (itoS (k : Int))] w fun e w' => e = .returned (.tuple #[.int .i64 (k : Int), .bool true]) ∧ Below w.heap.size w w' := by
  have hz : (itoS (k : Int)).size = 1 := by rw [itoS_digit hk]; rfl
  have HA : Hid (∀ w, Calls Tryz.prog 216 #[.string (itoS (k : Int))] w fun e w' => e = .returned (.tuple #[.int .i64 (k : Int), .nilIface]) ∧ Below w.heap.size w w') := fun w =>
    (Any.strconv_Atoi Tryz.lays172 (itoS (k : Int)) k (by omega) (atoi_digit hk) w).mono fun e w' ⟨he, t, hw⟩ => ⟨he, by rw [hw]; exact bytesW_below _ _ _⟩
  have HTP : Hid (∀ w, Calls Tryz.prog 217 #[.string (itoS (k : Int)), .string ⟨#[45]⟩] w fun e w' => e = .returned (.string (itoS (k : Int))) ∧ Below w.heap.size w w') := fun w =>
    (Any.strings_TrimPrefix Tryz.lays101 (itoS (k : Int)) ⟨#[45]⟩ w).mono fun e w' ⟨he, hw⟩ => ⟨by rw [he, trim_digit hk], by rw [hw]; exact Below.refl _ _⟩
  have HI := Lib.hid (fun w ht => itoa_any (k : Int) w (by omega) (by omega) ht)
  have HT := Lib.hid ht
  have hzI : ((itoS (k : Int)).size : Int) ≤ 17 := by omega
  clear hz ht
  generalize itoS (k : Int) = s at *
  have hss : (s.toList == s.toList) = true := by simp
  go_enter Tryz.func137, Tryz.ntmps137
  go_wp2_with fail
  refine (HA.out _).mono ?_; rintro e w1 ⟨rfl, hb⟩
  have HB1 := Lib.hid hb
  have HJ := Lib.hid (HI.out w1 (HT.out.below hb (Nat.le_refl _)))
  clear hb
  go_wp2_with fail
  refine HJ.out.mono ?_; rintro e w3 ⟨rfl, hb⟩
  have HB3 := Lib.hid (HB1.out.trans (hb.mono HB1.out.size))
  clear hb
  go_wp2_with fail
  refine (HTP.out _).mono ?_; rintro e w2 ⟨rfl, hb⟩
  have HB2 := Lib.hid (HB3.out.trans (hb.mono HB3.out.size))
  clear hb
  go_wp2_with fail
  go_ret2
  exact ⟨rfl, HB2.out⟩
end Go.Proofs.YtofmagiahmmmgaaGreatDoor

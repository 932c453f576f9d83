/- Contracts of the program's functions and what they compute: part 23. Conditions: those that each theorem states. -/
import Derived.Test.YtdcnpjekmnlgjaaGreatDoorP56n6
import Derived.Test.YtdcnpjekmnlgjaaGreatDoorP56n7
import Derived.Test.YtdcnpjekmnlgjaaGreatDoorP56n15
import Derived.Test.YtdcnpjekmnlgjaaGreatDoorP56n22
import Derived.Test.YtdcnpjekmnlgjaaGreatDoorP56n14
import Derived.Test.YtdcnpjekmnlgjaaGreatDoorP56n1
import Derived.Test.YtdcnpjekmnlgjaaGreatDoorP56n2
import Derived.Laws.IdiomStrings
import Derived.IntWalk
import Derived.Laws.EntriesVeiled
import Derived.Deep.RegionHeld3
import Derived.Deep.DeepCutAuto
import Derived.Test.YtdcnpjekmnlgjaaGreatDoorShelf2
import Derived.Lib.AppendIntMem
import Derived.Lib.LaidTab
import Derived.Lib.Join
import Derived.Lib.ItoaLen
import Derived.Lib.ItoaMem
namespace Go.Proofs.YtdcnpjekmnlgjaaGreatDoor
open Go.RowKit
set_option linter.unusedVariables false
set_option maxRecDepth 100000
def truthB (b : Bool) : ByteArray := if b then ⟨#[116, 114, 117, 101]⟩ else ⟨#[102, 97, 108, 115, 101]⟩
theorem formatBool0_any (b : Bool) (w : World) : Calls Tryz.prog 252 #[.bool b] w fun e w' => e = .returned (.string (truthB b)) ∧ Below w.heap.size w w' := by
  cases b
  all_goals
    go_enter Tryz.func252, Tryz.ntmps252
    go_wp2_with fail
    go_ret
    exact ⟨rfl, Below.refl _ _⟩
theorem formatBool_any (b : Bool) (w : World) : Calls Tryz.prog 207 #[.bool b] w fun e w' => e = .returned (.string (truthB b)) ∧ Below w.heap.size w w' := by
  have HF := Lib.hid (fun w => formatBool0_any b w)
  go_enter Tryz.func207, Tryz.ntmps207
  go_wp2_with fail
  refine (HF.out _).mono ?_; rintro e w1 ⟨rfl, hb⟩
  go_wp2_with fail
  go_ret
  exact ⟨rfl, hb⟩
theorem truth_any (b : Bool) (w : World) : Calls Tryz.prog 146 #[.bool b] w fun e w' => e = .returned (.string (truthB b)) ∧ Below w.heap.size w w' := by
  have HF := Lib.hid (fun w => formatBool_any b w)
  go_enter Tryz.func146, Tryz.ntmps146
  go_wp2_with fail
  refine (HF.out _).mono ?_; rintro e w1 ⟨rfl, hb⟩
  go_wp2_with fail
  go_ret
  exact ⟨rfl, hb⟩
end Go.Proofs.YtdcnpjekmnlgjaaGreatDoor

namespace Go.Proofs.YtdcnpjekmnlgjaaGreatDoor
open Go.RowKit
set_option linter.unusedVariables false
set_option maxRecDepth 100000
set_option maxHeartbeats 1000000 in
theorem told_holds (a : DS) (n m : Nat) (b1 b2 : Bool) (hn : a.n = (n : Int)) (hm : a.m = (m : Int)) (hf : a.f.size ≤ 9223372036854775807) (hv : validB n a.S a.R = true) (hu : validB m a.T a.U = true)
    (h1 : hin a.f (stOf n a.S a.R) = (b1, true)) (h2 : hin a.f (stOf m a.T a.U) = (b2, true)) (W : World) (d : Nat) (hD : DeskAt W d a) :
    Calls Tryz.prog 101 #[.pointer (some ⟨d, 0, none⟩), .string ⟨#[104, 111, 108, 100, 115]⟩] W fun e w' => e = .returned (.string (truthB b1 ++ ⟨#[32]⟩ ++ truthB b2)) ∧ DeskAt w' d a ∧ Off (fun x => x = d) W w' := by
  have H1 := Lib.hid (fun w => implHoldsIn_any a.f hf n a.S a.R hv w)
  have H2 := Lib.hid (fun w => implHoldsIn_any a.f hf m a.T a.U hu w)
  have T1 := Lib.hid (fun w => truth_any b1 w)
  have T2 := Lib.hid (fun w => truth_any b2 w)
  rw [h1, ← hn] at H1
  rw [h2, ← hm] at H2
  unfold strV at H1 H2
  have z1 : (truthB b1).size ≤ 5 := by cases b1 <;> decide
  have z2 : (truthB b2).size ≤ 5 := by cases b2 <;> decide
  have z3 : (truthB b1 ++ (⟨#[32]⟩ : ByteArray)).size ≤ 6 := by rw [ByteArray.size_append]; show (truthB b1).size + 1 ≤ 6; omega
  have HD := Lib.hid hD
  obtain ⟨c0, c1, c2, c3, c4, c5, c6, cf⟩ := hD.cells
  clear cf hD hn hm hf hv hu h1 h2
  generalize truthB b1 = t1 at *
  generalize truthB b2 = t2 at *
  generalize hb : a = b at HD ⊢
  have HE : Hid (∀ w, DeskAt w d b → DeskAt w d a) := fun w h => by rw [hb]; exact h
  obtain ⟨n1, S1, R1, m1, T1', U1, fo⟩ := a
  simp only at *
  clear hb
  have C0 := fun s => Since.cell c0 s
  have C1 := fun s => Since.cell c1 s
  have C2 := fun s => Since.cell c2 s
  have C3 := fun s => Since.cell c3 s
  have C4 := fun s => Since.cell c4 s
  have C5 := fun s => Since.cell c5 s
  have C6 := fun s => Since.cell c6 s
  go_enter Tryz.func101, Tryz.ntmps101
  go_upto_region 13 with fail
  refine wp_region_since (by kernel_rfl) (by kernel_rfl) ?_
  repeat (go_big_quiet_step (first | (with_reducible exact Since.call (H1.out _)) | (with_reducible exact Since.call (H2.out _)) | (with_reducible exact C0 _) | (with_reducible exact C1 _) | (with_reducible exact C2 _) | (with_reducible exact C3 _) | (with_reducible exact C4 _) | (with_reducible exact C5 _) | (with_reducible exact C6 _)))
  refine wpQuiet_nil ?_
  intro w1 hb
  have HD1 : Hid (DeskAt w1 d b ∧ Off (fun x => x = d) W w1) := ⟨HD.out.below hb, Off.of_below hb⟩
  clear hb HD c0 c1 c2 c3 c4 c5 c6 C0 C1 C2 C3 C4 C5 C6
  obtain ⟨c0, c1, c2, c3, c4, c5, c6, cf⟩ := (HE.out _ HD1.out.1).cells
  simp only at c0 c1 c2 c3 c4 c5 c6
  clear cf
  have C0 := fun s => Since.cell c0 s
  have C1 := fun s => Since.cell c1 s
  have C2 := fun s => Since.cell c2 s
  have C3 := fun s => Since.cell c3 s
  have C4 := fun s => Since.cell c4 s
  have C5 := fun s => Since.cell c5 s
  have C6 := fun s => Since.cell c6 s
  go_upto_region 14 with fail
  refine wp_region_since (by kernel_rfl) (by kernel_rfl) ?_
  repeat (go_big_quiet_step (first | (with_reducible exact Since.call (H1.out _)) | (with_reducible exact Since.call (H2.out _)) | (with_reducible exact C0 _) | (with_reducible exact C1 _) | (with_reducible exact C2 _) | (with_reducible exact C3 _) | (with_reducible exact C4 _) | (with_reducible exact C5 _) | (with_reducible exact C6 _)))
  refine wpQuiet_nil ?_
  intro w1' hb
  have HD1' : Hid (DeskAt w1' d b ∧ Off (fun x => x = d) W w1') := ⟨HD1.out.1.below hb, HD1.out.2.trans (Off.of_below (F := fun _ => False) hb) (fun _ h => h.elim)⟩
  clear hb HD1 c0 c1 c2 c3 c4 c5 c6 C0 C1 C2 C3 C4 C5 C6
  have HD1 := HD1'
  clear HD1'
  go_wp2_with fail
  refine (T1.out _).mono ?_; rintro e w2 ⟨rfl, hb⟩
  have HD2 : Hid (DeskAt w2 d b ∧ Off (fun x => x = d) W w2) := ⟨HD1.out.1.below hb, HD1.out.2.trans (Off.of_below (F := fun _ => False) hb) (fun _ h => h.elim)⟩
  clear hb HD1
  go_wp2_with fail
  refine (T2.out _).mono ?_; rintro e w3 ⟨rfl, hb⟩
  have HD3 : Hid (DeskAt w3 d b ∧ Off (fun x => x = d) W w3) := ⟨HD2.out.1.below hb, HD2.out.2.trans (Off.of_below (F := fun _ => False) hb) (fun _ h => h.elim)⟩
  clear hb HD2
  go_wp2_with fail
  go_ret
  exact ⟨rfl, HD3.out⟩
end Go.Proofs.YtdcnpjekmnlgjaaGreatDoor

namespace Go.Proofs.YtdcnpjekmnlgjaaGreatDoor
open Go.RowKit
set_option linter.unusedVariables false
set_option maxRecDepth 100000
/-- A word is answered by (*desk).told; nothing turns. -/
def ToldOK (w0 : World) (l : ByteArray) (a : DS) (o : ByteArray) : Prop := ∀ (W : World) (d : Nat), w0.heap.size ≤ d → Below w0.heap.size w0 W → DeskAt W d a →
  Calls Tryz.prog 101 #[.pointer (some ⟨d, 0, none⟩), .string l] W fun e w' => e = .returned (.string o) ∧ DeskAt w' d a ∧ Off (fun x => x = d) W w'
/-- A word is answered by (*desk).plain. -/
def PlainOK (w0 : World) (l : ByteArray) (a b : DS) (o : ByteArray) : Prop := ∀ (W : World) (d : Nat), w0.heap.size ≤ d → Below w0.heap.size w0 W → DeskAt W d a →
  Calls Tryz.prog 60 #[.pointer (some ⟨d, 0, none⟩), .string l] W fun e w' => e = .returned (.string o) ∧ DeskAt w' d b ∧ Off (fun x => x = d) W w'
/-- A line of one word is what (*desk).plain answers. -/
theorem run_plain (w0 : World) (l : ByteArray) (hl : (32 : UInt8) ∉ l.data.toList) (a b : DS) (s : ByteArray) (HP0 : PlainOK w0 l a b s) : RunOK w0 l a b s := by
  intro W d hd hB hD
  have HCU := Lib.hid (fun w => cut_word l hl w)
  have HP := Lib.hid (fun W hB hD => HP0 W d hd hB hD)
  have HD : Hid (DeskAt W d a ∧ Off (fun x => x = d) W W ∧ Below w0.heap.size w0 W) := ⟨hD, Off.of_below (Below.refl _ _), hB⟩
  clear hD hB HP0
  go_enter Tryz.func36, Tryz.ntmps36
  go_wp2_with fail
  refine (HCU.out _).mono ?_; rintro e w1 ⟨rfl, hb⟩
  have HD1 : Hid (DeskAt w1 d a ∧ Off (fun x => x = d) W w1 ∧ Below w0.heap.size w0 w1) := ⟨HD.out.1.below hb, Off.of_below hb, HD.out.2.2.trans (hb.mono HD.out.2.2.size)⟩
  clear hb HD
  go_wp2_with fail
  refine (HP.out _ HD1.out.2.2 HD1.out.1).mono ?_; rintro e w2 ⟨rfl, hd2, ho2⟩
  have HD2 : Hid (DeskAt w2 d b ∧ Off (fun x => x = d) W w2) := ⟨hd2, HD1.out.2.1.trans ho2 (fun _ h => .inl h)⟩
  clear hd2 ho2
  go_wp2_with fail
  go_ret
  exact ⟨rfl, HD2.out⟩
theorem plain_holds (w0 : World) (a : DS) (s : ByteArray) (HT0 : ToldOK w0 ⟨#[104, 111, 108, 100, 115]⟩ a s) : PlainOK w0 ⟨#[104, 111, 108, 100, 115]⟩ a a s := by
  intro W d hd hB hD
  have HT := Lib.hid (HT0 W d hd hB hD)
  clear hD hB HT0
  go_enter Tryz.func60, Tryz.ntmps60
  go_wp2_with fail
  refine HT.out.mono ?_; rintro e w2 ⟨rfl, hd2, ho2⟩
  have HD2 : Hid (DeskAt w2 d a ∧ Off (fun x => x = d) W w2) := ⟨hd2, ho2⟩
  clear hd2 ho2
  go_wp2_with fail
  go_ret
  exact ⟨rfl, HD2.out⟩
end Go.Proofs.YtdcnpjekmnlgjaaGreatDoor

namespace Go.Proofs.YtdcnpjekmnlgjaaGreatDoor
open Go.RowKit
set_option linter.unusedVariables false
set_option maxRecDepth 100000
section
variable {w w5 wr w' w3 : World} {F : Nat → Prop} {hb kb n : Nat} {S R : ByteArray} {φ : Fm.T} {p : Nat} {v v' : Value} {L L' : List Nat}
theorem Base.far {G H : Nat → Prop} (h : Base F G wr hb kb n S R) (hw : Off H wr w') (hF : ∀ b, F b → ¬ H b) (hG : ∀ b, G b → ¬ H b) : Base F G w' hb kb n S R :=
  ⟨(hw.block hb h.hold.cells.2.2.2.2 (hF _ h.foot)).trans h.hold, h.foot, h.memo.off hw hF hG, h.hS, h.hR, h.n1, h.n8⟩
end
end Go.Proofs.YtdcnpjekmnlgjaaGreatDoor

namespace Go.Proofs.YtdcnpjekmnlgjaaGreatDoor
open Go.RowKit
set_option linter.unusedVariables false
set_option maxRecDepth 100000
/-- The line "holds". -/
theorem run_holds (w0 : World) (a : DS) (n m : Nat) (b1 b2 : Bool) (hn : a.n = (n : Int)) (hm : a.m = (m : Int)) (hf : a.f.size ≤ 9223372036854775807) (hv : validB n a.S a.R = true) (hu : validB m a.T a.U = true)
    (h1 : hin a.f (stOf n a.S a.R) = (b1, true)) (h2 : hin a.f (stOf m a.T a.U) = (b2, true)) : RunOK w0 ⟨#[104, 111, 108, 100, 115]⟩ a a (truthB b1 ++ ⟨#[32]⟩ ++ truthB b2) :=
  run_plain w0 _ (by decide) a a _ (plain_holds w0 a _ (fun W d _ _ hD => told_holds a n m b1 b2 hn hm hf hv hu h1 h2 W d hD))
end Go.Proofs.YtdcnpjekmnlgjaaGreatDoor

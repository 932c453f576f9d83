/- Contracts of the program's functions and what they compute: part 15. Conditions: those that each theorem states. -/
import Derived.Test.YtdcnpjekmnlgjaaGreatDoorP56n14
import Derived.Test.YtdcnpjekmnlgjaaGreatDoorP56n6
import Derived.Test.YtdcnpjekmnlgjaaGreatDoorP56n1
import Derived.Test.YtdcnpjekmnlgjaaGreatDoorP56n5
import Derived.Test.YtdcnpjekmnlgjaaGreatDoorP56n7
import Derived.Outline
import Derived.Deep.RegionLaw
import Derived.Maps.AppendAt
namespace Go.Proofs.YtdcnpjekmnlgjaaGreatDoor
open Go.RowKit
set_option linter.unusedVariables false
set_option maxRecDepth 100000
/-- Both structures exchanged. -/
def DS.swap (a : DS) : DS := { a with n := a.m, S := a.T, R := a.U, m := a.n, T := a.S, U := a.R }
theorem DeskAt.swap6 {w : World} {d : Nat} {a : DS} (h : DeskAt w d a) : DeskAt ((((((w.setCell ⟨d, 0, none⟩ (.int .i64 a.m)).setCell ⟨d, 1, none⟩ (.string a.T)).setCell ⟨d, 2, none⟩ (.string a.U)).setCell ⟨d, 3, none⟩ (.int .i64 a.n)).setCell ⟨d, 4, none⟩ (.string a.S)).setCell ⟨d, 5, none⟩ (.string a.R)) d a.swap := ⟨by
  have hb := h.blk
  simp [World.setCell, Array.getElem?_modify, hb, DS.swap]⟩
theorem off_set6 {w : World} {d : Nat} {x y z x2 y2 z2 : Value} : Off (fun b => b = d) w ((((((w.setCell ⟨d, 0, none⟩ x).setCell ⟨d, 1, none⟩ y).setCell ⟨d, 2, none⟩ z).setCell ⟨d, 3, none⟩ x2).setCell ⟨d, 4, none⟩ y2).setCell ⟨d, 5, none⟩ z2) :=
  ((((off_setD.trans off_setD (fun _ h => .inl h)).trans off_setD (fun _ h => .inl h)).trans off_setD (fun _ h => .inl h)).trans off_setD (fun _ h => .inl h)).trans off_setD (fun _ h => .inl h)
set_option maxHeartbeats 2000000 in
theorem plain_exchange (a : DS) (m : Nat) (hm : a.m = (m : Int)) (hv : validB m a.T a.U = true) (W : World) (d : Nat) (hD : DeskAt W d a) :
    Calls Tryz.prog 60 #[.pointer (some ⟨d, 0, none⟩), .string ⟨#[101, 120, 99, 104, 97, 110, 103, 101]⟩] W fun e w' => e = .returned (.string (fmtS a.T a.U)) ∧ DeskAt w' d a.swap ∧ Off (fun x => x = d) W w' := by
  have HFS := Lib.hid (fun w => FormatStructure_any m a.T a.U hv w)
  rw [← hm] at HFS
  obtain ⟨c0, c1, c2, c3, c4, c5, c6, cf⟩ := hD.cells
  have f0 := cf 0
  have f1 := cf 1
  have f2 := cf 2
  have f3 := cf 3
  have f4 := cf 4
  have f5 := cf 5
  have HS := Lib.hid (And.intro hD.swap6 (off_set6 (w := W) (d := d) (x := .int .i64 a.m) (y := .string a.T) (z := .string a.U) (x2 := .int .i64 a.n) (y2 := .string a.S) (z2 := .string a.R)))
  have e1 : a.swap.n = a.m := rfl
  have e2 : a.swap.S = a.T := rfl
  have e3 : a.swap.R = a.U := rfl
  clear cf hv hD hm
  unfold strV at HFS
  generalize a.swap = b at *
  obtain ⟨n1, S1, R1, m1, T1, U1, fo⟩ := a
  simp only at *
  go_enter Tryz.func60, Tryz.ntmps60
  go_upto_region 21 with fail
  go_region
  all_goals
    have HS2 := Lib.hid (And.intro (HS.out.1.below (Below.refl _ _).drew) (HS.out.2.trans (Off.of_below (F := fun _ => False) (Below.refl _ _).drew) (fun _ h => h.elim)))
    generalize ((((((W.setCell ⟨d, 0, none⟩ (.int .i64 m1)).setCell ⟨d, 1, none⟩ (.string T1)).setCell ⟨d, 2, none⟩ (.string U1)).setCell ⟨d, 3, none⟩ (.int .i64 n1)).setCell ⟨d, 4, none⟩ (.string S1)).setCell ⟨d, 5, none⟩ (.string R1)).drew = W2 at *
    clear HS c0 c1 c2 c3 c4 c5 c6 f0 f1 f2 f3 f4 f5
    obtain ⟨c0, c1, c2, c3, c4, c5, c6, cf⟩ := HS2.out.1.cells
    rw [e1] at c0
    rw [e2] at c1
    rw [e3] at c2
    clear cf e1 e2 e3
    go_wp2_with fail
    refine (HFS.out _).mono ?_; rintro e w1 ⟨rfl, hb⟩
    have HD3 : Hid (DeskAt w1 d b ∧ Off (fun x => x = d) W w1) := ⟨HS2.out.1.below hb, HS2.out.2.trans (Off.of_below (F := fun _ => False) hb) (fun _ h => h.elim)⟩
    clear hb
    go_wp2_with fail
    go_ret
    exact ⟨rfl, HD3.out⟩
end Go.Proofs.YtdcnpjekmnlgjaaGreatDoor

namespace Go.Proofs.YtdcnpjekmnlgjaaGreatDoor
open Go.RowKit
set_option linter.unusedVariables false
set_option maxRecDepth 100000
set_option maxHeartbeats 1000000 in
/-- The line "exchange". -/
theorem run_exchange (w0 : World) (a : DS) (m : Nat) (hm : a.m = (m : Int)) (hv : validB m a.T a.U = true) : RunOK w0 ⟨#[101, 120, 99, 104, 97, 110, 103, 101]⟩ a a.swap (fmtS a.T a.U) := by
  intro W d hd hB hD
  have HCU := Lib.hid (fun w => cut_word ⟨#[101, 120, 99, 104, 97, 110, 103, 101]⟩ (by decide) w)
  have HP := Lib.hid (fun W hD => plain_exchange a m hm hv W d hD)
  have HD := Lib.hid hD
  clear hD hv hm
  go_enter Tryz.func36, Tryz.ntmps36
  go_wp2_with fail
  refine (HCU.out _).mono ?_; rintro e w1 ⟨rfl, hb⟩
  have HD1 : Hid (DeskAt w1 d a ∧ Off (fun x => x = d) W w1) := ⟨HD.out.below hb, Off.of_below hb⟩
  clear hb HD
  go_wp2_with fail
  refine (HP.out _ HD1.out.1).mono ?_; rintro e w2 ⟨rfl, hd2, ho2⟩
  have HD2 : Hid (DeskAt w2 d a.swap ∧ Off (fun x => x = d) W w2) := ⟨hd2, HD1.out.2.trans ho2 (fun _ h => .inl h)⟩
  clear hd2 ho2
  go_wp2_with fail
  go_ret
  exact ⟨rfl, HD2.out⟩
end Go.Proofs.YtdcnpjekmnlgjaaGreatDoor

namespace Go.Proofs.YtdcnpjekmnlgjaaGreatDoor
open Go.RowKit
set_option linter.unusedVariables false
set_option maxRecDepth 100000
/-- The left structure laid anew. -/
def DS.left (a : DS) (n : Nat) (S R : ByteArray) : DS := { a with n := (n : Int), S := S, R := R }
end Go.Proofs.YtdcnpjekmnlgjaaGreatDoor

namespace Go.Proofs.YtdcnpjekmnlgjaaGreatDoor
open Go.RowKit
set_option linter.unusedVariables false
/-- A structure's plain form. -/
def stOf (n : Nat) (S R : ByteArray) : Gs.St := ⟨n, oneAt S, relAt n R⟩
theorem inSet_b (n : Int) (S R : ByteArray) (x : Nat) (w : World) (hx : x < S.size) (hS : S.size ≤ 9223372036854775807) :
    Calls Tryz.prog 124 #[strV n S R, .int .i64 (x : Int)] w fun e w' => e = .returned (.bool (oneAt S x)) ∧ Below w.heap.size w w' :=
  (inSet_any n S R x w hx hS).mono fun _ _ ⟨h1, h2⟩ => ⟨h1, by rw [h2]; exact boxS_below _ _ _ _⟩
theorem inRel_b (n : Nat) (S R : ByteArray) (x y : Nat) (w : World) (hx : x < n) (hy : y < n) (hn : n ≤ 8) (hR : R.size = n * n) :
    Calls Tryz.prog 125 #[strV n S R, .int .i64 (x : Int), .int .i64 (y : Int)] w fun e w' => e = .returned (.bool (relAt n R x y)) ∧ Below w.heap.size w w' :=
  (inRel_any n S R x y w hx hy hn hR).mono fun _ _ ⟨h1, h2⟩ => ⟨h1, by rw [h2]; exact boxS_below _ _ _ _⟩
/-- Two structures in the blocks B and B + 1. -/
structure Two (w wr : World) (n : Nat) (S R : ByteArray) (m : Nat) (S2 R2 : ByteArray) : Prop where
  a : SBlk wr w.heap.size n S R
  b : SBlk wr (w.heap.size + 1) m S2 R2
  old : Below w.heap.size w wr
theorem Two.below {w wr w' : World} {n m : Nat} {S R S2 R2 : ByteArray} (h : Two w wr n S R m S2 R2) (hb : Below wr.heap.size wr w') : Two w w' n S R m S2 R2 := by
  have h1 := h.b.cells.2.2.2.2.2.2
  exact ⟨h.a.below hb (by omega), h.b.below hb h1, h.old.trans (hb.mono (by omega))⟩
theorem Two.new (w : World) (n : Nat) (S R : ByteArray) (m : Nat) (S2 R2 : ByteArray) : Two w (boxS (boxS w n S R) m S2 R2) n S R m S2 R2 := by
  refine ⟨(boxS_SBlk w n S R).below (boxS_below (boxS w n S R) m S2 R2) (by rw [boxS_size]; omega), ?_, (boxS_below w n S R).trans ((boxS_below _ _ _ _).mono (by rw [boxS_size]; omega))⟩
  have h := boxS_SBlk (boxS w n S R) m S2 R2
  rw [boxS_size] at h
  exact h
end Go.Proofs.YtdcnpjekmnlgjaaGreatDoor

namespace Go.Proofs.YtdcnpjekmnlgjaaGreatDoor
open Go.RowKit
set_option linter.unusedVariables false
theorem NumsAt.one (w : World) (y : Nat) : NumsAt (w.alloc (.cells #[.int .i64 (y : Int)] 3)) (.slice (some ⟨w.heap.size, 0, none⟩) 1 1) [y] := by
  refine .inr ⟨w.heap.size, 0, 1, rfl, Nat.le_refl _, by decide, by simp, fun j hj => ?_⟩
  have hj0 : j = 0 := by simpa using hj
  subst hj0
  simp
/-- The numbers from i on. -/
theorem NumsAt.drop {w : World} {g o cap i : Nat} {L : List Nat} (h : NumsAt w (.slice (some ⟨g, o, none⟩) L.length cap) L) (hi : i < L.length) (o' : Nat) (ho' : o' = o + i) : NumsAt w (.slice (some ⟨g, o', none⟩) (L.length - i) (cap - i)) (L.drop i) := by
  subst ho'
  rcases h with ⟨_, rfl⟩ | ⟨g', o', cap', he, h1, h2, hg, hc⟩
  · simp at hi
  · injection he with e1 e2 e3
    injection e1 with e1
    injection e1 with e4 e5
    subst e4 e5 e3
    refine .inr ⟨g, o + i, cap - i, by simp, by simp; omega, by unfold maxLen at *; omega, hg, fun j hj => ?_⟩
    rw [List.length_drop] at hj
    rw [Nat.add_assoc, hc (i + j) (by omega)]
    simp
end Go.Proofs.YtdcnpjekmnlgjaaGreatDoor

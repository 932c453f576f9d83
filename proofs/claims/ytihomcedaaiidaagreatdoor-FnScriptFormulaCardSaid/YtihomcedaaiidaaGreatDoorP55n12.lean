/- Contracts of the program's functions and what they compute: part 12. Conditions: those that each theorem states. -/
import Derived.Test.YtihomcedaaiidaaGreatDoorP55n4
import Derived.Test.YtihomcedaaiidaaGreatDoorP55n6
import Derived.Test.YtihomcedaaiidaaGreatDoorP55n11
import Derived.Test.YtihomcedaaiidaaGreatDoorP55n1
import Derived.Test.YtihomcedaaiidaaGreatDoorP55n5
import Derived.Outline
import Derived.Deep.RegionLaw
import Derived.Maps.AppendAt
namespace Go.Proofs.YtihomcedaaiidaaGreatDoor
open Go.RowKit
set_option linter.unusedVariables false
set_option maxRecDepth 100000
/-- The text of a structure. -/
def fmtS (S R : ByteArray) : ByteArray := S ++ ⟨#[58]⟩ ++ R
theorem FormatStructure_any (n : Nat) (S R : ByteArray) (hv : validB n S R = true) (w : World) :
    Calls Tryz.prog 10 #[strV n S R] w fun e w' => e = .returned (.string (fmtS S R)) ∧ Below w.heap.size w w' := by
  obtain ⟨h1, h8, hS, hR, _, _⟩ := valid_is hv
  have hnn : n * n ≤ 64 := Nat.mul_le_mul h8 h8
  have HIS : Hid (∀ w, Calls Tryz.prog 30 #[strV n S R] w fun e w' => e = .returned (.bool true) ∧ Below w.heap.size w w') := fun w => by
    have := isStructure_any n S R w (by omega) (by rw [hR]; omega)
    rw [hv] at this
    exact this
  have HB : Hid (SBlk (boxS w n S R) w.heap.size n S R ∧ Below w.heap.size w (boxS w n S R)) := ⟨boxS_SBlk _ _ _ _, boxS_below _ _ _ _⟩
  unfold boxS at HB
  obtain ⟨s0, s1, s2, _, _, _, hl⟩ := HB.out.1.cells
  have h58 : (⟨#[58]⟩ : ByteArray).size = 1 := rfl
  have hSI : S.size ≤ 8 := by omega
  have hRI : R.size ≤ 64 := by omega
  have hz1 : (S ++ (⟨#[58]⟩ : ByteArray)).size ≤ 9 := by rw [ByteArray.size_append, h58]; omega
  clear hv hS hR
  unfold strV at HIS
  unfold strV
  go_enter Tryz.func10, Tryz.ntmps10
  go_wp2_with fail
  refine (HIS.out _).mono ?_; rintro e w1 ⟨rfl, hb⟩
  have HB1 : Hid (SBlk w1 w.heap.size n S R ∧ Below w.heap.size w w1) := ⟨HB.out.1.below hb HB.out.1.cells.2.2.2.2.2.2, HB.out.2.trans (hb.mono HB.out.2.size)⟩
  clear s0 s1 s2 hl hb HB
  obtain ⟨s0, s1, s2, _, _, _, hl⟩ := HB1.out.1.cells
  go_wp2_with fail
  go_ret
  exact ⟨rfl, HB1.out.2⟩
theorem DeskAt.cells {w : World} {d : Nat} {a : DS} (h : DeskAt w d a) : w.cell? ⟨d, 0, none⟩ = some (.int .i64 a.n) ∧ w.cell? ⟨d, 1, none⟩ = some (.string a.S) ∧ w.cell? ⟨d, 2, none⟩ = some (.string a.R) ∧ w.cell? ⟨d, 3, none⟩ = some (.int .i64 a.m) ∧ w.cell? ⟨d, 4, none⟩ = some (.string a.T) ∧ w.cell? ⟨d, 5, none⟩ = some (.string a.U) ∧ w.cell? ⟨d, 6, none⟩ = some (.string a.f) ∧ ∀ j, w.frozen? ⟨d, j, none⟩ = false := by
  have hb := h.blk
  refine ⟨?_, ?_, ?_, ?_, ?_, ?_, ?_, fun j => ?_⟩
  all_goals first | (unfold World.cell?; rw [hb]; rfl) | (unfold World.frozen?; rw [hb]; simp)
theorem DeskAt.setF {w : World} {d : Nat} {a : DS} (h : DeskAt w d a) (f : ByteArray) : DeskAt (w.setCell ⟨d, 6, none⟩ (.string f)) d { a with f := f } := ⟨by
  have hb := h.blk
  simp [World.setCell, Array.getElem?_modify, hb]⟩
theorem off_setD {w : World} {d i : Nat} {x : Value} : Off (fun b => b = d) w (w.setCell ⟨d, i, none⟩ x) := ⟨rfl, rfl, rfl, by simp [World.setCell], fun k _ hk => Below.heap_setCell _ _ _ _ hk⟩
set_option maxHeartbeats 1000000 in
/-- The line that lays a formula. -/
theorem run_formula (w0 : World) (f : ByteArray) (φ : Fm.T) (hr : readB f = some φ) (hf : f.size ≤ 4000) (a : DS) : RunOK w0 (⟨#[102, 111, 114, 109, 117, 108, 97]⟩ ++ ⟨#[32]⟩ ++ f) a { a with f := f } ⟨#[111, 107]⟩ := by
  intro W d hd hB hD
  have HCU := Lib.hid (fun w => cut_line ⟨#[102, 111, 114, 109, 117, 108, 97]⟩ f (by decide) (by rw [ByteArray.size_append, ByteArray.size_append]; show 7 + 1 + f.size ≤ _; omega) w)
  have HPF := Lib.hid (fun w => parseFormula_any f w (by omega))
  rw [hr] at HPF
  have HD := Lib.hid hD
  generalize (⟨#[102, 111, 114, 109, 117, 108, 97]⟩ : ByteArray) ++ ⟨#[32]⟩ ++ f = line at *
  clear hr hD
  go_enter Tryz.func42, Tryz.ntmps42
  go_wp2_with fail
  refine (HCU.out _).mono ?_; rintro e w1 ⟨rfl, hb⟩
  have HD1 : Hid (DeskAt w1 d a ∧ Off (fun x => x = d) W w1) := ⟨HD.out.below hb, Off.of_below hb⟩
  clear hb HD
  go_wp2_with fail
  refine (HPF.out _).mono ?_; rintro e w2 ⟨hb, ⟨h, _⟩ | ⟨φ', p, h, rfl, ht⟩⟩
  · cases h
  · have HD2 : Hid (DeskAt w2 d a ∧ Off (fun x => x = d) W w2) := ⟨HD1.out.1.below hb, HD1.out.2.trans (Off.of_below (F := fun _ => False) hb) (fun _ h => h.elim)⟩
    obtain ⟨c0, c1, c2, c3, c4, c5, c6, cf⟩ := HD2.out.1.cells
    have cf6 := cf 6
    have HF : Hid (DeskAt (w2.setCell ⟨d, 6, none⟩ (.string f)) d { a with f := f } ∧ Off (fun x => x = d) W (w2.setCell ⟨d, 6, none⟩ (.string f))) := ⟨HD2.out.1.setF f, HD2.out.2.trans off_setD (fun _ h => .inl h)⟩
    clear ht hb h cf
    unfold ptrV
    go_wp2_with fail
    go_ret
    exact ⟨rfl, HF.out⟩
theorem DeskAt.setA {w : World} {d : Nat} {a : DS} (h : DeskAt w d a) (n : Int) (S R : ByteArray) : DeskAt (((w.setCell ⟨d, 0, none⟩ (.int .i64 n)).setCell ⟨d, 1, none⟩ (.string S)).setCell ⟨d, 2, none⟩ (.string R)) d { a with n := n, S := S, R := R } := ⟨by
  have hb := h.blk
  simp [World.setCell, Array.getElem?_modify, hb]⟩
theorem off_setD3 {w : World} {d : Nat} {x y z : Value} : Off (fun b => b = d) w (((w.setCell ⟨d, 0, none⟩ x).setCell ⟨d, 1, none⟩ y).setCell ⟨d, 2, none⟩ z) :=
  ⟨rfl, rfl, rfl, by simp [World.setCell], fun k _ hk => by rw [Below.heap_setCell _ _ _ _ hk, Below.heap_setCell _ _ _ _ hk, Below.heap_setCell _ _ _ _ hk]⟩
end Go.Proofs.YtihomcedaaiidaaGreatDoor

namespace Go.Proofs.YtihomcedaaiidaaGreatDoor
open Go.RowKit
set_option linter.unusedVariables false
set_option maxRecDepth 100000
/-- Both structures exchanged. -/
def DS.swap (a : DS) : DS := { a with n := a.m, S := a.T, R := a.U, m := a.n, T := a.S, U := a.R }
end Go.Proofs.YtihomcedaaiidaaGreatDoor

namespace Go.Proofs.YtihomcedaaiidaaGreatDoor
open Go.RowKit
set_option linter.unusedVariables false
set_option maxRecDepth 100000
/-- The left structure laid anew. -/
def DS.left (a : DS) (n : Nat) (S R : ByteArray) : DS := { a with n := (n : Int), S := S, R := R }
end Go.Proofs.YtihomcedaaiidaaGreatDoor

namespace Go.Proofs.YtihomcedaaiidaaGreatDoor
open Go.RowKit
set_option linter.unusedVariables false
/-- A structure's plain form. -/
def stOf (n : Nat) (S R : ByteArray) : Gs.St := ⟨n, oneAt S, relAt n R⟩
theorem inSet_b (n : Int) (S R : ByteArray) (x : Nat) (w : World) (hx : x < S.size) (hS : S.size ≤ 9223372036854775807) :
    Calls Tryz.prog 32 #[strV n S R, .int .i64 (x : Int)] w fun e w' => e = .returned (.bool (oneAt S x)) ∧ Below w.heap.size w w' :=
  (inSet_any n S R x w hx hS).mono fun _ _ ⟨h1, h2⟩ => ⟨h1, by rw [h2]; exact boxS_below _ _ _ _⟩
theorem inRel_b (n : Nat) (S R : ByteArray) (x y : Nat) (w : World) (hx : x < n) (hy : y < n) (hn : n ≤ 8) (hR : R.size = n * n) :
    Calls Tryz.prog 34 #[strV n S R, .int .i64 (x : Int), .int .i64 (y : Int)] w fun e w' => e = .returned (.bool (relAt n R x y)) ∧ Below w.heap.size w w' :=
  (inRel_any n S R x y w hx hy hn hR).mono fun _ _ ⟨h1, h2⟩ => ⟨h1, by rw [h2]; exact boxS_below _ _ _ _⟩
/-- Two structures in the blocks B and B + 1. -/
structure Two (w wr : World) (n : Nat) (S R : ByteArray) (m : Nat) (S2 R2 : ByteArray) : Prop where
  a : SBlk wr w.heap.size n S R
  b : SBlk wr (w.heap.size + 1) m S2 R2
  old : Below w.heap.size w wr
theorem Two.below {w wr w' : World} {n m : Nat} {S R S2 R2 : ByteArray} (h : Two w wr n S R m S2 R2) (hb : Below wr.heap.size wr w') : Two w w' n S R m S2 R2 := by
  have h1 := h.b.cells.2.2.2.2.2.2
  exact ⟨h.a.below hb (by omega), h.b.below hb h1, h.old.trans (hb.mono (by omega))⟩
theorem Two.new (w : World) (n : Nat) (S R : ByteArray) (m : Nat) (S2 R2 : ByteArray) : Two w (boxS (boxS w n S R) m S2 R2) n S R m S2 R2 := by
  refine ⟨(boxS_SBlk w n S R).below (boxS_below (boxS w n S R) m S2 R2) (by rw [boxS_size]; omega), ?_, (boxS_below w n S R).trans ((boxS_below _ _ _ _).mono (by rw [boxS_size]; omega))⟩
  have h := boxS_SBlk (boxS w n S R) m S2 R2
  rw [boxS_size] at h
  exact h
end Go.Proofs.YtihomcedaaiidaaGreatDoor

namespace Go.Proofs.YtihomcedaaiidaaGreatDoor
open Go.RowKit
set_option linter.unusedVariables false
theorem NumsAt.one (w : World) (y : Nat) : NumsAt (w.alloc (.cells #[.int .i64 (y : Int)] 3)) (.slice (some ⟨w.heap.size, 0, none⟩) 1 1) [y] := by
  refine .inr ⟨w.heap.size, 0, 1, rfl, Nat.le_refl _, by decide, by simp, fun j hj => ?_⟩
  have hj0 : j = 0 := by simpa using hj
  subst hj0
  simp
/-- The numbers from i on. -/
theorem NumsAt.drop {w : World} {g o cap i : Nat} {L : List Nat} (h : NumsAt w (.slice (some ⟨g, o, none⟩) L.length cap) L) (hi : i < L.length) (o' : Nat) (ho' : o' = o + i) : NumsAt w (.slice (some ⟨g, o', none⟩) (L.length - i) (cap - i)) (L.drop i) := by
  subst ho'
  rcases h with ⟨_, rfl⟩ | ⟨g', o', cap', he, h1, h2, hg, hc⟩
  · simp at hi
  · injection he with e1 e2 e3
    injection e1 with e1
    injection e1 with e4 e5
    subst e4 e5 e3
    refine .inr ⟨g, o + i, cap - i, by simp, by simp; omega, by unfold maxLen at *; omega, hg, fun j hj => ?_⟩
    rw [List.length_drop] at hj
    rw [Nat.add_assoc, hc (i + j) (by omega)]
    simp
end Go.Proofs.YtihomcedaaiidaaGreatDoor

/- Contracts of the program's functions and what they compute: part 14. Conditions: those that each theorem states. -/
import Derived.Test.YtdcnpjekmnlgjaaGreatDoorP56n4
import Derived.Test.YtdcnpjekmnlgjaaGreatDoorP56n7
import Derived.Test.YtdcnpjekmnlgjaaGreatDoorP56n13
namespace Go.Proofs.YtdcnpjekmnlgjaaGreatDoor
open Go.RowKit
set_option linter.unusedVariables false
set_option maxRecDepth 100000
/-- The text of a structure. -/
def fmtS (S R : ByteArray) : ByteArray := S ++ ⟨#[58]⟩ ++ R
theorem FormatStructure_any (n : Nat) (S R : ByteArray) (hv : validB n S R = true) (w : World) :
    Calls Tryz.prog 10 #[strV n S R] w fun e w' => e = .returned (.string (fmtS S R)) ∧ Below w.heap.size w w' := by
  obtain ⟨h1, h8, hS, hR, _, _⟩ := valid_is hv
  have hnn : n * n ≤ 64 := Nat.mul_le_mul h8 h8
  have HIS : Hid (∀ w, Calls Tryz.prog 20 #[strV n S R] w fun e w' => e = .returned (.bool true) ∧ Below w.heap.size w w') := fun w => by
    have := isStructure_any n S R w (by omega) (by rw [hR]; omega)
    rw [hv] at this
    exact this
  have HB : Hid (SBlk (boxS w n S R) w.heap.size n S R ∧ Below w.heap.size w (boxS w n S R)) := ⟨boxS_SBlk _ _ _ _, boxS_below _ _ _ _⟩
  unfold boxS at HB
  obtain ⟨s0, s1, s2, _, _, _, hl⟩ := HB.out.1.cells
  have h58 : (⟨#[58]⟩ : ByteArray).size = 1 := rfl
  have hSI : S.size ≤ 8 := by omega
  have hRI : R.size ≤ 64 := by omega
  have hz1 : (S ++ (⟨#[58]⟩ : ByteArray)).size ≤ 9 := by rw [ByteArray.size_append, h58]; omega
  clear hv hS hR
  unfold strV at HIS
  unfold strV
  go_enter Tryz.func10, Tryz.ntmps10
  go_wp2_with fail
  refine (HIS.out _).mono ?_; rintro e w1 ⟨rfl, hb⟩
  have HB1 : Hid (SBlk w1 w.heap.size n S R ∧ Below w.heap.size w w1) := ⟨HB.out.1.below hb HB.out.1.cells.2.2.2.2.2.2, HB.out.2.trans (hb.mono HB.out.2.size)⟩
  clear s0 s1 s2 hl hb HB
  obtain ⟨s0, s1, s2, _, _, _, hl⟩ := HB1.out.1.cells
  go_wp2_with fail
  go_ret
  exact ⟨rfl, HB1.out.2⟩
theorem DeskAt.cells {w : World} {d : Nat} {a : DS} (h : DeskAt w d a) : w.cell? ⟨d, 0, none⟩ = some (.int .i64 a.n) ∧ w.cell? ⟨d, 1, none⟩ = some (.string a.S) ∧ w.cell? ⟨d, 2, none⟩ = some (.string a.R) ∧ w.cell? ⟨d, 3, none⟩ = some (.int .i64 a.m) ∧ w.cell? ⟨d, 4, none⟩ = some (.string a.T) ∧ w.cell? ⟨d, 5, none⟩ = some (.string a.U) ∧ w.cell? ⟨d, 6, none⟩ = some (.string a.f) ∧ ∀ j, w.frozen? ⟨d, j, none⟩ = false := by
  have hb := h.blk
  refine ⟨?_, ?_, ?_, ?_, ?_, ?_, ?_, fun j => ?_⟩
  all_goals first | (unfold World.cell?; rw [hb]; rfl) | (unfold World.frozen?; rw [hb]; simp)
theorem DeskAt.setF {w : World} {d : Nat} {a : DS} (h : DeskAt w d a) (f : ByteArray) : DeskAt (w.setCell ⟨d, 6, none⟩ (.string f)) d { a with f := f } := ⟨by
  have hb := h.blk
  simp [World.setCell, Array.getElem?_modify, hb]⟩
theorem off_setD {w : World} {d i : Nat} {x : Value} : Off (fun b => b = d) w (w.setCell ⟨d, i, none⟩ x) := ⟨rfl, rfl, rfl, by simp [World.setCell], fun k _ hk => Below.heap_setCell _ _ _ _ hk⟩
set_option maxHeartbeats 1000000 in
/-- The line that lays a formula. -/
theorem run_formula (w0 : World) (f : ByteArray) (φ : Fm.T) (hr : readB f = some φ) (hf : f.size ≤ 4000) (a : DS) : RunOK w0 (⟨#[102, 111, 114, 109, 117, 108, 97]⟩ ++ ⟨#[32]⟩ ++ f) a { a with f := f } ⟨#[111, 107]⟩ := by
  intro W d hd hB hD
  have HCU := Lib.hid (fun w => cut_line ⟨#[102, 111, 114, 109, 117, 108, 97]⟩ f (by decide) (by rw [ByteArray.size_append, ByteArray.size_append]; show 7 + 1 + f.size ≤ _; omega) w)
  have HPF := Lib.hid (fun w => parseFormula_any f w (by omega))
  rw [hr] at HPF
  have HD := Lib.hid hD
  generalize (⟨#[102, 111, 114, 109, 117, 108, 97]⟩ : ByteArray) ++ ⟨#[32]⟩ ++ f = line at *
  clear hr hD
  go_enter Tryz.func36, Tryz.ntmps36
  go_wp2_with fail
  refine (HCU.out _).mono ?_; rintro e w1 ⟨rfl, hb⟩
  have HD1 : Hid (DeskAt w1 d a ∧ Off (fun x => x = d) W w1) := ⟨HD.out.below hb, Off.of_below hb⟩
  clear hb HD
  go_wp2_with fail
  refine (HPF.out _).mono ?_; rintro e w2 ⟨hb, ⟨h, _⟩ | ⟨φ', p, h, rfl, ht⟩⟩
  · cases h
  · have HD2 : Hid (DeskAt w2 d a ∧ Off (fun x => x = d) W w2) := ⟨HD1.out.1.below hb, HD1.out.2.trans (Off.of_below (F := fun _ => False) hb) (fun _ h => h.elim)⟩
    obtain ⟨c0, c1, c2, c3, c4, c5, c6, cf⟩ := HD2.out.1.cells
    have cf6 := cf 6
    have HF : Hid (DeskAt (w2.setCell ⟨d, 6, none⟩ (.string f)) d { a with f := f } ∧ Off (fun x => x = d) W (w2.setCell ⟨d, 6, none⟩ (.string f))) := ⟨HD2.out.1.setF f, HD2.out.2.trans off_setD (fun _ h => .inl h)⟩
    clear ht hb h cf
    unfold ptrV
    go_wp2_with fail
    go_ret
    exact ⟨rfl, HF.out⟩
theorem DeskAt.setA {w : World} {d : Nat} {a : DS} (h : DeskAt w d a) (n : Int) (S R : ByteArray) : DeskAt (((w.setCell ⟨d, 0, none⟩ (.int .i64 n)).setCell ⟨d, 1, none⟩ (.string S)).setCell ⟨d, 2, none⟩ (.string R)) d { a with n := n, S := S, R := R } := ⟨by
  have hb := h.blk
  simp [World.setCell, Array.getElem?_modify, hb]⟩
theorem off_setD3 {w : World} {d : Nat} {x y z : Value} : Off (fun b => b = d) w (((w.setCell ⟨d, 0, none⟩ x).setCell ⟨d, 1, none⟩ y).setCell ⟨d, 2, none⟩ z) :=
  ⟨rfl, rfl, rfl, by simp [World.setCell], fun k _ hk => by rw [Below.heap_setCell _ _ _ _ hk, Below.heap_setCell _ _ _ _ hk, Below.heap_setCell _ _ _ _ hk]⟩
set_option maxHeartbeats 1000000 in
/-- A structure becomes the left one. -/
theorem become_yes (n : Nat) (S R : ByteArray) (hv : validB n S R = true) (a : DS) (W : World) (d : Nat) (hD : DeskAt W d a) :
    Calls Tryz.prog 66 #[.pointer (some ⟨d, 0, none⟩), strV n S R, .bool true] W fun e w' => e = .returned (.string (fmtS S R)) ∧ DeskAt w' d { a with n := (n : Int), S := S, R := R } ∧ Off (fun x => x = d) W w' := by
  have HFS := Lib.hid (fun w => FormatStructure_any n S R hv w)
  have hb1 : Below W.heap.size W (boxS W n S R) := boxS_below _ _ _ _
  have HB : Hid (SBlk (boxS W n S R) W.heap.size n S R ∧ DeskAt (boxS W n S R) d a ∧ Off (fun x => x = d) W (boxS W n S R)) := ⟨boxS_SBlk _ _ _ _, hD.below hb1, Off.of_below hb1⟩
  have hdl := hD.lt
  obtain ⟨W1, hW1⟩ : ∃ W1, boxS W n S R = W1 := ⟨_, rfl⟩
  rw [hW1] at HB
  unfold boxS at hW1
  have HW := Lib.hid hW1
  clear hb1 hD hv hW1
  obtain ⟨s0, s1, s2, _, _, _, hl⟩ := HB.out.1.cells
  obtain ⟨c0, c1, c2, c3, c4, c5, c6, cf⟩ := HB.out.2.1.cells
  have f0 := cf 0
  have f1 := cf 1
  have f2 := cf 2
  have hne : W.heap.size ≠ d := by omega
  have hne2 : d ≠ W.heap.size := by omega
  clear cf
  have HD2 : Hid (DeskAt (((W1.setCell ⟨d, 0, none⟩ (.int .i64 (n : Int))).setCell ⟨d, 1, none⟩ (.string S)).setCell ⟨d, 2, none⟩ (.string R)) d { a with n := (n : Int), S := S, R := R } ∧ Off (fun x => x = d) W (((W1.setCell ⟨d, 0, none⟩ (.int .i64 (n : Int))).setCell ⟨d, 1, none⟩ (.string S)).setCell ⟨d, 2, none⟩ (.string R)) ∧ SBlk (((W1.setCell ⟨d, 0, none⟩ (.int .i64 (n : Int))).setCell ⟨d, 1, none⟩ (.string S)).setCell ⟨d, 2, none⟩ (.string R)) W.heap.size n S R) :=
    ⟨HB.out.2.1.setA n S R, HB.out.2.2.trans off_setD3 (fun _ h => .inl h), ((HB.out.1.far (by simp; omega) _).far (by simp; omega) _).far (by simp; omega) _⟩
  unfold strV at HFS
  unfold strV
  go_enter Tryz.func66, Tryz.ntmps66
  go_upto_region 1 with fail
  rw [HW.out]
  go_upto_region 4 with fail
  clear s0 s1 s2 hl c0 c1 c2 c3 c4 c5 c6 f0 f1 f2 HB HW
  generalize ((W1.setCell ⟨d, 0, none⟩ (.int .i64 (n : Int))).setCell ⟨d, 1, none⟩ (.string S)).setCell ⟨d, 2, none⟩ (.string R) = W2 at *
  obtain ⟨s0, s1, s2, _, _, _, hl⟩ := HD2.out.2.2.cells
  go_wp2_with fail
  refine (HFS.out _).mono ?_; rintro e w1 ⟨rfl, hb⟩
  have HD3 : Hid (DeskAt w1 d { a with n := (n : Int), S := S, R := R } ∧ Off (fun x => x = d) W w1) := ⟨HD2.out.1.below hb, HD2.out.2.1.trans (Off.of_below (F := fun _ => False) hb) (fun _ h => h.elim)⟩
  clear hb
  go_wp2_with fail
  go_ret
  exact ⟨rfl, HD3.out⟩
end Go.Proofs.YtdcnpjekmnlgjaaGreatDoor

/- Contracts of the program's functions and what they compute: part 19. Conditions: those that each theorem states. -/
import Derived.Test.YtlkemhhkcanmoaaGreatDoorP54n18
import Derived.Test.YtlkemhhkcanmoaaGreatDoorP54n8
namespace Go.Proofs.YtlkemhhkcanmoaaGreatDoor
open Go.RowKit
set_option linter.unusedVariables false
set_option maxRecDepth 100000
/-- Both structures exchanged. -/
def DS.swap (a : DS) : DS := { a with n := a.m, S := a.T, R := a.U, m := a.n, T := a.S, U := a.R }
theorem DeskAt.swap6 {w : World} {d : Nat} {a : DS} (h : DeskAt w d a) : DeskAt ((((((w.setCell ⟨d, 0, none⟩ (.int .i64 a.m)).setCell ⟨d, 1, none⟩ (.string a.T)).setCell ⟨d, 2, none⟩ (.string a.U)).setCell ⟨d, 3, none⟩ (.int .i64 a.n)).setCell ⟨d, 4, none⟩ (.string a.S)).setCell ⟨d, 5, none⟩ (.string a.R)) d a.swap := ⟨by
  have hb := h.blk
  simp [World.setCell, Array.getElem?_modify, hb, DS.swap]⟩
theorem off_set6 {w : World} {d : Nat} {x y z x2 y2 z2 : Value} : Off (fun b => b = d) w ((((((w.setCell ⟨d, 0, none⟩ x).setCell ⟨d, 1, none⟩ y).setCell ⟨d, 2, none⟩ z).setCell ⟨d, 3, none⟩ x2).setCell ⟨d, 4, none⟩ y2).setCell ⟨d, 5, none⟩ z2) :=
  ((((off_setD.trans off_setD (fun _ h => .inl h)).trans off_setD (fun _ h => .inl h)).trans off_setD (fun _ h => .inl h)).trans off_setD (fun _ h => .inl h)).trans off_setD (fun _ h => .inl h)
set_option maxHeartbeats 2000000 in
theorem plain_exchange (a : DS) (m : Nat) (hm : a.m = (m : Int)) (hv : validB m a.T a.U = true) (W : World) (d : Nat) (hD : DeskAt W d a) :
    Calls Tryz.prog 59 #[.pointer (some ⟨d, 0, none⟩), .string ⟨#[101, 120, 99, 104, 97, 110, 103, 101]⟩] W fun e w' => e = .returned (.string (fmtS a.T a.U)) ∧ DeskAt w' d a.swap ∧ Off (fun x => x = d) W w' := by
  have HFS := Lib.hid (fun w => FormatStructure_any m a.T a.U hv w)
  rw [← hm] at HFS
  obtain ⟨c0, c1, c2, c3, c4, c5, c6, cf⟩ := hD.cells
  have f0 := cf 0
  have f1 := cf 1
  have f2 := cf 2
  have f3 := cf 3
  have f4 := cf 4
  have f5 := cf 5
  have HS := Lib.hid (And.intro hD.swap6 (off_set6 (w := W) (d := d) (x := .int .i64 a.m) (y := .string a.T) (z := .string a.U) (x2 := .int .i64 a.n) (y2 := .string a.S) (z2 := .string a.R)))
  have e1 : a.swap.n = a.m := rfl
  have e2 : a.swap.S = a.T := rfl
  have e3 : a.swap.R = a.U := rfl
  clear cf hv hD hm
  unfold strV at HFS
  generalize a.swap = b at *
  obtain ⟨n1, S1, R1, m1, T1, U1, fo⟩ := a
  simp only at *
  go_enter Tryz.func59, Tryz.ntmps59
  go_upto_region 21 with fail
  go_region
  all_goals
    have HS2 := Lib.hid (And.intro (HS.out.1.below (Below.refl _ _).drew) (HS.out.2.trans (Off.of_below (F := fun _ => False) (Below.refl _ _).drew) (fun _ h => h.elim)))
    generalize ((((((W.setCell ⟨d, 0, none⟩ (.int .i64 m1)).setCell ⟨d, 1, none⟩ (.string T1)).setCell ⟨d, 2, none⟩ (.string U1)).setCell ⟨d, 3, none⟩ (.int .i64 n1)).setCell ⟨d, 4, none⟩ (.string S1)).setCell ⟨d, 5, none⟩ (.string R1)).drew = W2 at *
    clear HS c0 c1 c2 c3 c4 c5 c6 f0 f1 f2 f3 f4 f5
    obtain ⟨c0, c1, c2, c3, c4, c5, c6, cf⟩ := HS2.out.1.cells
    rw [e1] at c0
    rw [e2] at c1
    rw [e3] at c2
    clear cf e1 e2 e3
    go_wp2_with fail
    refine (HFS.out _).mono ?_; rintro e w1 ⟨rfl, hb⟩
    have HD3 : Hid (DeskAt w1 d b ∧ Off (fun x => x = d) W w1) := ⟨HS2.out.1.below hb, HS2.out.2.trans (Off.of_below (F := fun _ => False) hb) (fun _ h => h.elim)⟩
    clear hb
    go_wp2_with fail
    go_ret
    exact ⟨rfl, HD3.out⟩
end Go.Proofs.YtlkemhhkcanmoaaGreatDoor

namespace Go.Proofs.YtlkemhhkcanmoaaGreatDoor
open Go.RowKit
set_option linter.unusedVariables false
set_option maxRecDepth 100000
set_option maxHeartbeats 1000000 in
/-- The line "exchange". -/
theorem run_exchange (w0 : World) (a : DS) (m : Nat) (hm : a.m = (m : Int)) (hv : validB m a.T a.U = true) : RunOK w0 ⟨#[101, 120, 99, 104, 97, 110, 103, 101]⟩ a a.swap (fmtS a.T a.U) := by
  intro W d hd hB hD
  have HCU := Lib.hid (fun w => cut_word ⟨#[101, 120, 99, 104, 97, 110, 103, 101]⟩ (by decide) w)
  have HP := Lib.hid (fun W hD => plain_exchange a m hm hv W d hD)
  have HD := Lib.hid hD
  clear hD hv hm
  go_enter Tryz.func36, Tryz.ntmps36
  go_wp2_with fail
  refine (HCU.out _).mono ?_; rintro e w1 ⟨rfl, hb⟩
  have HD1 : Hid (DeskAt w1 d a ∧ Off (fun x => x = d) W w1) := ⟨HD.out.below hb, Off.of_below hb⟩
  clear hb HD
  go_wp2_with fail
  refine (HP.out _ HD1.out.1).mono ?_; rintro e w2 ⟨rfl, hd2, ho2⟩
  have HD2 : Hid (DeskAt w2 d a.swap ∧ Off (fun x => x = d) W w2) := ⟨hd2, HD1.out.2.trans ho2 (fun _ h => .inl h)⟩
  clear hd2 ho2
  go_wp2_with fail
  go_ret
  exact ⟨rfl, HD2.out⟩
end Go.Proofs.YtlkemhhkcanmoaaGreatDoor

namespace Go.Proofs.YtlkemhhkcanmoaaGreatDoor
open Go.RowKit
set_option linter.unusedVariables false
/-- What WordStructure returns. -/
def wordRes (s : ByteArray) : Value := .tuple #[if wordB s then wordV s else strV 0 ByteArray.empty ByteArray.empty, .bool (wordB s)]
theorem wordB_size {s : ByteArray} (h : wordB s = true) : 1 ≤ s.size ∧ s.size ≤ 8 := by
  simp only [wordB, Bool.and_eq_true, inB_iff] at h
  omega
theorem implWordStructure_any (s : ByteArray) (w : World) (hs : s.size ≤ 9223372036854775807) :
    Calls Tryz.prog 7 #[.string s] w fun e w' => e = .returned (wordRes s) ∧ Below w.heap.size w w' := by
  cases hw : wordB s
  · have HW := Lib.hid hw
    have HR : Hid (wordRes s = .tuple #[strV 0 ByteArray.empty ByteArray.empty, .bool false]) := by simp [Hid, wordRes, hw]
    clear hw
    go_enter Tryz.func7, Tryz.ntmps7
    go_wp2_with fail
    refine (isWord_any s _ hs).mono ?_; rintro e w1 ⟨rfl, hb⟩
    rw [HW.out]
    have hB : Below w.heap.size w w1 := ((Below.refl _ _).alloc (Nat.le_refl _) _).trans (hb.mono (by simp))
    have hR : SBlk w1 w.heap.size 0 ByteArray.empty ByteArray.empty := (SBlk.new w 0 ByteArray.empty ByteArray.empty).below hb (by simp)
    have HB := Lib.hid hB; have HS := Lib.hid hR; clear hb hB
    obtain ⟨d0, d1, d2, g0, g1, g2, hb'⟩ := hR.cells
    clear hR
    go_wp2_with fail
    refine bodyPost_ret (v := .tuple #[strV 0 ByteArray.empty ByteArray.empty, .bool false]) ?_ rfl ⟨by rw [HR.out], ?_⟩
    · exact results_str2 rfl rfl HS.out.set3 rfl
    · exact ((HB.out.setCell (by simp) _).setCell (by simp) _).setCell (by simp) _
  · obtain ⟨h1, h8⟩ := wordB_size hw
    have HW := Lib.hid hw
    have HR : Hid (wordRes s = .tuple #[wordV s, .bool true]) := by simp [Hid, wordRes, hw]
    clear hw
    go_enter Tryz.func7, Tryz.ntmps7
    go_wp2_with fail
    refine (isWord_any s _ hs).mono ?_; rintro e w1 ⟨rfl, hb⟩
    rw [HW.out]
    have hB : Below w.heap.size w w1 := ((Below.refl _ _).alloc (Nat.le_refl _) _).trans (hb.mono (by simp))
    have hR : SBlk w1 w.heap.size 0 ByteArray.empty ByteArray.empty := (SBlk.new w 0 ByteArray.empty ByteArray.empty).below hb (by simp)
    have HB := Lib.hid hB; have HS := Lib.hid hR; clear hb hB
    clear hR
    go_wp2_with fail
    refine (implWordStr_any s _ h8).mono ?_; rintro e w2 ⟨rfl, hb⟩
    have hB : Below w.heap.size w w2 := HB.out.trans (hb.mono HB.out.size)
    have hR : SBlk w2 w.heap.size 0 ByteArray.empty ByteArray.empty := HS.out.below hb (HS.out.cells.2.2.2.2.2.2)
    have HB := Lib.hid hB; have HS := Lib.hid hR; clear hb hB
    obtain ⟨d0, d1, d2, g0, g1, g2, hb'⟩ := hR.cells
    clear hR
    unfold wordV strV
    go_wp2_with fail
    refine bodyPost_ret (v := .tuple #[wordV s, .bool true]) ?_ rfl ⟨by rw [HR.out], ?_⟩
    · exact results_str2 rfl rfl HS.out.set3 rfl
    · exact ((HB.out.setCell (by simp) _).setCell (by simp) _).setCell (by simp) _
end Go.Proofs.YtlkemhhkcanmoaaGreatDoor

namespace Go.Proofs.YtlkemhhkcanmoaaGreatDoor
open Go.RowKit
set_option linter.unusedVariables false
set_option maxRecDepth 100000
/-- The left structure laid anew. -/
def DS.left (a : DS) (n : Nat) (S R : ByteArray) : DS := { a with n := (n : Int), S := S, R := R }
set_option maxHeartbeats 1000000 in
/-- The line "word w". -/
theorem run_word (w0 : World) (a : DS) (s : ByteArray) (hw : wordB s = true) (hs : s.size ≤ 8) (hv : validB s.size (bitsOf (letB s) s.size) (gridOf ltB s.size) = true) :
    RunOK w0 (⟨#[119, 111, 114, 100]⟩ ++ ⟨#[32]⟩ ++ s) a (a.left s.size (bitsOf (letB s) s.size) (gridOf ltB s.size)) (fmtS (bitsOf (letB s) s.size) (gridOf ltB s.size)) := by
  intro W d hd hB hD
  have HCU := Lib.hid (fun w => cut_line ⟨#[119, 111, 114, 100]⟩ s (by decide) (by rw [ByteArray.size_append, ByteArray.size_append]; show 4 + 1 + s.size ≤ _; omega) w)
  have HWS := Lib.hid (fun w => implWordStructure_any s w (by omega))
  have hr : wordRes s = .tuple #[strV s.size (bitsOf (letB s) s.size) (gridOf ltB s.size), .bool true] := by simp [wordRes, hw, wordV]
  rw [hr] at HWS
  have HP := Lib.hid (fun W hD => become_yes s.size (bitsOf (letB s) s.size) (gridOf ltB s.size) hv a W d hD)
  change Hid (∀ W (hD : DeskAt W d a), Calls _ _ _ W fun e w' => e = .returned (.string (fmtS (bitsOf (letB s) s.size) (gridOf ltB s.size))) ∧ DeskAt w' d (a.left s.size (bitsOf (letB s) s.size) (gridOf ltB s.size)) ∧ Off (fun x => x = d) W w') at HP
  have HD := Lib.hid hD
  generalize (⟨#[119, 111, 114, 100]⟩ : ByteArray) ++ ⟨#[32]⟩ ++ s = line at *
  generalize bitsOf (letB s) s.size = S at *
  generalize gridOf ltB s.size = R at *
  generalize a.left s.size S R = a2 at *
  clear hD hv hr hw
  unfold strV at HWS HP
  go_enter Tryz.func36, Tryz.ntmps36
  go_wp2_with fail
  refine (HCU.out _).mono ?_; rintro e w1 ⟨rfl, hb⟩
  have HD1 : Hid (DeskAt w1 d a ∧ Off (fun x => x = d) W w1) := ⟨HD.out.below hb, Off.of_below hb⟩
  clear hb HD
  go_wp2_with fail
  refine (HWS.out _).mono ?_; rintro e w2 ⟨rfl, hb⟩
  have HD2 : Hid (DeskAt w2 d a ∧ Off (fun x => x = d) W w2) := ⟨HD1.out.1.below hb, HD1.out.2.trans (Off.of_below (F := fun _ => False) hb) (fun _ h => h.elim)⟩
  clear hb HD1
  go_wp2_with fail
  refine (HP.out _ HD2.out.1).mono ?_; rintro e w3 ⟨rfl, hd3, ho3⟩
  have HD3 : Hid (DeskAt w3 d a2 ∧ Off (fun x => x = d) W w3) := ⟨hd3, HD2.out.2.trans ho3 (fun _ h => .inl h)⟩
  clear hd3 ho3
  go_wp2_with fail
  go_ret
  exact ⟨rfl, HD3.out⟩
end Go.Proofs.YtlkemhhkcanmoaaGreatDoor

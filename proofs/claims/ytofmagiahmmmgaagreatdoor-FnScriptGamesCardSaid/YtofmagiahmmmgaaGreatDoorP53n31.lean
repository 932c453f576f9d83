/- Contracts of the program's functions and what they compute: part 31. Conditions: those that each theorem states. -/
import Derived.Test.YtofmagiahmmmgaaGreatDoorP53n6
import Derived.Test.YtofmagiahmmmgaaGreatDoorP53n14
import Derived.Test.YtofmagiahmmmgaaGreatDoorP53n16
import Derived.Test.YtofmagiahmmmgaaGreatDoorP53n17
import Derived.Test.YtofmagiahmmmgaaGreatDoorP53n24
import Derived.Test.YtofmagiahmmmgaaGreatDoorP53n30
import Derived.Test.YtofmagiahmmmgaaGreatDoorP53n2
import Derived.Test.YtofmagiahmmmgaaGreatDoorP53n3
import Derived.Test.YtofmagiahmmmgaaGreatDoorP53n4
import Derived.Test.YtofmagiahmmmgaaGreatDoorP53n1
import Derived.Test.YtofmagiahmmmgaaGreatDoorP53n29
import Derived.Test.YtofmagiahmmmgaaGreatDoorP53n25
import Derived.Deep.RegionHeld3
import Derived.Deep.RegionLaw
import Derived.Deep.DeepCutAuto
import Derived.Deep.CutBlock
import Derived.Deep.AppendLies
import Derived.IntWalk
import Derived.Laws.IdiomStrings
namespace Go.Proofs.YtofmagiahmmmgaaGreatDoor
open Go.RowKit
set_option linter.unusedVariables false
set_option maxRecDepth 100000
/-- The rounds that are won. -/
def wonN (a b : Gs.St) : Nat := (wonT a b 4).toNat
theorem wonN_is (a b : Gs.St) : ((wonN a b : Nat) : Int) = wonT a b 4 := by
  have h := won_iff a b 4 0 (by omega)
  rw [wins_zero] at h
  have h := of_decide_eq_true h.symm
  unfold wonN
  omega
theorem wonN_le (a b : Gs.St) : wonN a b ≤ 3 := by
  have := (wonT_le a b 4).2
  have := wonN_is a b
  omega
def pbAns (v : Int) : ByteArray := if v < 0 then ⟨#[110, 111, 110, 101]⟩ else itoS v
def tellAns : Option (ByteArray × Nat) → ByteArray
  | some p => itoS (p.2 : Int) ++ ⟨#[32]⟩ ++ p.1
  | none => ⟨#[110, 111, 110, 101]⟩
set_option maxHeartbeats 1000000 in
theorem asked_same (w0 : World) (a : DS) (n m k : Nat) (hn : a.n = (n : Int)) (hm : a.m = (m : Int)) (hk : k ≤ 3) (hv : validB n a.S a.R = true) (hu : validB m a.T a.U = true) : AskedOK w0 ⟨#[115, 97, 109, 101]⟩ k a (truthB (Gs.wins k (stOf n a.S a.R) [] (stOf m a.T a.U) [])) := by
  intro W d hd hB hD
  have HC := Lib.hid (fun w => SameRank_any n a.S a.R m a.T a.U k w hk hv hu)
  rw [← hn, ← hm] at HC
  unfold strV at HC
  have HTR := Lib.hid (fun b w => truth_any b w)
  have HD : Hid (DeskAt W d a) := hD
  obtain ⟨c0, c1, c2, c3, c4, c5, c6, cf⟩ := hD.cells
  have hkI : (k : Int) ≤ 3 := by omega
  have hk0 : (0 : Int) ≤ (k : Int) := by omega
  generalize Gs.wins k (stOf n a.S a.R) [] (stOf m a.T a.U) [] = r at *
  obtain ⟨K, hK⟩ : ∃ K : Int, (k : Int) = K := ⟨_, rfl⟩
  rw [hK] at hkI hk0 HC ⊢
  have hkB : decide ((0 : Int) ≤ K) = true := decide_eq_true hk0
  have hkB3 : decide (K ≤ 3) = true := decide_eq_true hkI
  clear cf hD hB hv hu hn hm hK
  generalize hb : a = b at HD ⊢
  obtain ⟨n1, S1, R1, m1, T1, U1, fo⟩ := a
  simp only at *
  clear hb
  go_enter Tryz.func143, Tryz.ntmps143
  go_upto_region 9 with fail
  have J := Lib.hid (fun s : Since W => HC.out s.w)
  have J2 := Lib.hid (fun s : Since W => HTR.out r s.w)
  have C0 := fun s => Since.cell c0 s
  have C1 := fun s => Since.cell c1 s
  have C2 := fun s => Since.cell c2 s
  have C3 := fun s => Since.cell c3 s
  have C4 := fun s => Since.cell c4 s
  have C5 := fun s => Since.cell c5 s
  refine wp_region_since (by kernel_rfl) (by kernel_rfl) ?_
  repeat (go_big_quiet_step (first | (with_reducible exact Since.call (J.out _)) | (with_reducible exact Since.call (J2.out _)) | (with_reducible exact C0 _) | (with_reducible exact C1 _) | (with_reducible exact C2 _) | (with_reducible exact C3 _) | (with_reducible exact C4 _) | (with_reducible exact C5 _)))
  refine wpQuiet_nil ?_
  intro w1 hb
  clear J J2 C0 C1 C2 C3 C4 C5
  have HD1 : Hid (DeskAt w1 d b ∧ Off (fun x => x = d) W w1) := ⟨HD.out.below hb, Off.of_below hb⟩
  clear hb
  go_wp2_with fail
  go_ret
  exact ⟨rfl, HD1.out⟩
set_option maxHeartbeats 1000000 in
theorem asked_pebbles (w0 : World) (ht : Tab w0) (a : DS) (n m k : Nat) (v : Int) (hn : a.n = (n : Int)) (hm : a.m = (m : Int)) (hk1 : 1 ≤ k) (hk : k ≤ 3) (hv : validB n a.S a.R = true) (hu : validB m a.T a.U = true) (hw : twV (stOf n a.S a.R) (stOf m a.T a.U) n m k = v) (hv1 : -1 ≤ v) (hv2 : v ≤ 1000000) : AskedOK w0 ⟨#[112, 101, 98, 98, 108, 101, 115]⟩ k a (pbAns v) := by
  intro W d hd hB hD
  obtain ⟨RES, hres⟩ : ∃ r, pbAns v = r := ⟨_, rfl⟩
  have HRE := Lib.hid hres
  rw [hres]
  clear hres
  have HC := Lib.hid (fun w => TurnsToWin_any n m k a.S a.R a.T a.U hv hu hk1 hk w)
  rw [hw, ← hn, ← hm] at HC
  unfold strV at HC
  have HD : Hid (DeskAt W d a) := hD
  have HT : Hid (Tab W) := ht.below hB (Nat.le_refl _)
  have HI := Lib.hid (fun w hb => itoa_any v w (by omega) (by omega) (HT.out.below hb (Nat.le_refl _)))
  obtain ⟨c0, c1, c2, c3, c4, c5, c6, cf⟩ := hD.cells
  have hkI : (k : Int) ≤ 3 := by omega
  have hk0 : (0 : Int) ≤ (k : Int) := by omega
  have hk1 : (1 : Int) ≤ (k : Int) := by omega
  obtain ⟨K, hK⟩ : ∃ K : Int, (k : Int) = K := ⟨_, rfl⟩
  rw [hK] at hkI hk0 hk1 HC ⊢
  have hkB : decide ((0 : Int) ≤ K) = true := decide_eq_true hk0
  have hkB3 : decide (K ≤ 3) = true := decide_eq_true hkI
  have hkB1 : decide ((1 : Int) ≤ K) = true := decide_eq_true hk1
  clear cf hD hB hv hu hn hm hK hw
  generalize hb : a = b at HD ⊢
  obtain ⟨n1, S1, R1, m1, T1, U1, fo⟩ := a
  simp only at *
  clear hb
  go_enter Tryz.func143, Tryz.ntmps143
  go_upto_region 18 with fail
  have J := Lib.hid (fun s : Since W => HC.out s.w)
  have C0 := fun s => Since.cell c0 s
  have C1 := fun s => Since.cell c1 s
  have C2 := fun s => Since.cell c2 s
  have C3 := fun s => Since.cell c3 s
  have C4 := fun s => Since.cell c4 s
  have C5 := fun s => Since.cell c5 s
  refine wp_region_since (by kernel_rfl) (by kernel_rfl) ?_
  repeat (go_big_quiet_step (first | (with_reducible exact Since.call (J.out _)) | (with_reducible exact C0 _) | (with_reducible exact C1 _) | (with_reducible exact C2 _) | (with_reducible exact C3 _) | (with_reducible exact C4 _) | (with_reducible exact C5 _)))
  refine wpQuiet_nil ?_
  intro w1 hb
  clear J C0 C1 C2 C3 C4 C5
  have HD1 : Hid (DeskAt w1 d b ∧ Off (fun x => x = d) W w1 ∧ Below W.heap.size W w1) := ⟨HD.out.below hb, Off.of_below hb, hb⟩
  clear hb
  by_cases hneg : v < 0
  · have hn0 : ¬ (0 : Int) ≤ v := by omega
    have hnB : decide ((0 : Int) ≤ v) = false := decide_eq_false hn0
    have HR : Hid (RES = ⟨#[110, 111, 110, 101]⟩) := by rw [← HRE.out]; exact if_pos hneg
    go_wp2_with fail
    go_ret
    exact ⟨congrArg (fun s => Ending.returned (.string s)) HR.out.symm, HD1.out.1, HD1.out.2.1⟩
  · have hn0 : (0 : Int) ≤ v := by omega
    have hnB : decide ((0 : Int) ≤ v) = true := decide_eq_true hn0
    have HR : Hid (RES = itoS v) := by rw [← HRE.out]; exact if_neg hneg
    go_wp2_with fail
    refine (HI.out _ HD1.out.2.2).mono ?_; rintro e w3 ⟨rfl, hb⟩
    have HD3 : Hid (DeskAt w3 d b ∧ Off (fun x => x = d) W w3) := ⟨HD1.out.1.below hb, HD1.out.2.1.trans (Off.of_below (F := fun _ => False) hb) (fun _ h => h.elim)⟩
    clear hb
    go_wp2_with fail
    go_ret
    exact ⟨congrArg (fun s => Ending.returned (.string s)) HR.out.symm, HD3.out⟩
set_option maxHeartbeats 1000000 in
theorem told_rounds (w0 : World) (ht : Tab w0) (a : DS) (n m : Nat) (hn : a.n = (n : Int)) (hm : a.m = (m : Int)) (hv : validB n a.S a.R = true) (hu : validB m a.T a.U = true) : ToldOK w0 ⟨#[114, 111, 117, 110, 100, 115]⟩ a (itoS ((wonN (stOf n a.S a.R) (stOf m a.T a.U) : Nat) : Int)) := by
  intro W d hd0 hB hD
  have HC := Lib.hid (fun w => WonRounds_any n a.S a.R m a.T a.U (.slice none 0 0) (.slice none 0 0) w hv hu (NumsAt.nil _) (NumsAt.nil _))
  rw [← wonN_is, ← hn, ← hm] at HC
  unfold strV at HC
  have HD : Hid (DeskAt W d a) := hD
  have HT : Hid (Tab W) := ht.below hB (Nat.le_refl _)
  have hle := wonN_le (stOf n a.S a.R) (stOf m a.T a.U)
  obtain ⟨c0, c1, c2, c3, c4, c5, c6, cf⟩ := hD.cells
  generalize wonN (stOf n a.S a.R) (stOf m a.T a.U) = v at *
  have HI := Lib.hid (fun w hb => itoa_any (v : Int) w (by omega) (by omega) (HT.out.below hb (Nat.le_refl _)))
  clear cf hD hB hv hu hn hm
  generalize hb : a = b at HD ⊢
  obtain ⟨n1, S1, R1, m1, T1, U1, fo⟩ := a
  simp only at *
  clear hb
  go_enter Tryz.func122, Tryz.ntmps122
  go_upto_region 36 with fail
  have J := Lib.hid (fun s : Since W => HC.out s.w)
  have J2 := Lib.hid (fun s : Since W => HI.out s.w (Since.below s))
  have C0 := fun s => Since.cell c0 s
  have C1 := fun s => Since.cell c1 s
  have C2 := fun s => Since.cell c2 s
  have C3 := fun s => Since.cell c3 s
  have C4 := fun s => Since.cell c4 s
  have C5 := fun s => Since.cell c5 s
  refine wp_region_since (by kernel_rfl) (by kernel_rfl) ?_
  repeat (go_big_quiet_step (first | (with_reducible exact Since.call (J.out _)) | (with_reducible exact Since.call (J2.out _)) | (with_reducible exact C0 _) | (with_reducible exact C1 _) | (with_reducible exact C2 _) | (with_reducible exact C3 _) | (with_reducible exact C4 _) | (with_reducible exact C5 _)))
  refine wpQuiet_nil ?_
  intro w1 hb
  clear J J2 C0 C1 C2 C3 C4 C5
  have HD1 : Hid (DeskAt w1 d b ∧ Off (fun x => x = d) W w1) := ⟨HD.out.below hb, Off.of_below hb⟩
  clear hb
  go_wp2_with fail
  go_ret
  exact ⟨rfl, HD1.out⟩
set_option maxHeartbeats 1000000 in
theorem told_coloured (w0 : World) (a : DS) (n m : Nat) (hn : a.n = (n : Int)) (hm : a.m = (m : Int)) (hv : validB n a.S a.R = true) (hu : validB m a.T a.U = true) : ToldOK w0 ⟨#[99, 111, 108, 111, 117, 114, 101, 100]⟩ a (truthB (scB (stOf n a.S a.R) (stOf m a.T a.U))) := by
  intro W d hd0 hB hD
  have HC := Lib.hid (fun w => SameColours_any n a.S a.R m a.T a.U hv hu w)
  rw [← hn, ← hm] at HC
  unfold strV at HC
  have HTR := Lib.hid (fun b w => truth_any b w)
  have HD : Hid (DeskAt W d a) := hD
  obtain ⟨c0, c1, c2, c3, c4, c5, c6, cf⟩ := hD.cells
  generalize scB (stOf n a.S a.R) (stOf m a.T a.U) = r at *
  clear cf hD hB hv hu hn hm
  generalize hb : a = b at HD ⊢
  obtain ⟨n1, S1, R1, m1, T1, U1, fo⟩ := a
  simp only at *
  clear hb
  go_enter Tryz.func122, Tryz.ntmps122
  go_upto_region 41 with fail
  have J := Lib.hid (fun s : Since W => HC.out s.w)
  have J2 := Lib.hid (fun s : Since W => HTR.out r s.w)
  have C0 := fun s => Since.cell c0 s
  have C1 := fun s => Since.cell c1 s
  have C2 := fun s => Since.cell c2 s
  have C3 := fun s => Since.cell c3 s
  have C4 := fun s => Since.cell c4 s
  have C5 := fun s => Since.cell c5 s
  refine wp_region_since (by kernel_rfl) (by kernel_rfl) ?_
  repeat (go_big_quiet_step (first | (with_reducible exact Since.call (J.out _)) | (with_reducible exact Since.call (J2.out _)) | (with_reducible exact C0 _) | (with_reducible exact C1 _) | (with_reducible exact C2 _) | (with_reducible exact C3 _) | (with_reducible exact C4 _) | (with_reducible exact C5 _)))
  refine wpQuiet_nil ?_
  intro w1 hb
  clear J J2 C0 C1 C2 C3 C4 C5
  have HD1 : Hid (DeskAt w1 d b ∧ Off (fun x => x = d) W w1) := ⟨HD.out.below hb, Off.of_below hb⟩
  clear hb
  go_wp2_with fail
  go_ret
  exact ⟨rfl, HD1.out⟩
set_option maxHeartbeats 1000000 in
theorem plain_tell_no (w0 : World) (ht : Tab w0) (a : DS) (n m : Nat) (hn : a.n = (n : Int)) (hm : a.m = (m : Int)) (hv : validB n a.S a.R = true) (hu : validB m a.T a.U = true) (hf : senF (stOf n a.S a.R) (stOf m a.T a.U) = none) : PlainOK w0 ⟨#[116, 101, 108, 108]⟩ a a ⟨#[110, 111, 110, 101]⟩ := by
  intro W d hd0 hB hD
  have HC := Lib.hid (fun w => SentenceFor_any n a.S a.R m a.T a.U w hv hu)
  rw [hf, ← hn, ← hm] at HC
  unfold strV senV at HC
  have HD : Hid (DeskAt W d a) := hD
  have HT : Hid (Tab W) := ht.below hB (Nat.le_refl _)
  have HB0 := Lib.hid hB
  obtain ⟨c0, c1, c2, c3, c4, c5, c6, cf⟩ := hD.cells
  clear cf hD hB hv hu hn hm hf
  generalize hb : a = b at HD ⊢
  obtain ⟨n1, S1, R1, m1, T1, U1, fo⟩ := a
  simp only at *
  clear hb
  go_enter Tryz.func69, Tryz.ntmps69
  go_upto_region 24 with fail
  have J := Lib.hid (fun s : Since W => HC.out s.w)
  have C0 := fun s => Since.cell c0 s
  have C1 := fun s => Since.cell c1 s
  have C2 := fun s => Since.cell c2 s
  have C3 := fun s => Since.cell c3 s
  have C4 := fun s => Since.cell c4 s
  have C5 := fun s => Since.cell c5 s
  refine wp_region_since (by kernel_rfl) (by kernel_rfl) ?_
  repeat (go_big_quiet_step (first | (with_reducible exact Since.call (J.out _)) | (with_reducible exact C0 _) | (with_reducible exact C1 _) | (with_reducible exact C2 _) | (with_reducible exact C3 _) | (with_reducible exact C4 _) | (with_reducible exact C5 _)))
  refine wpQuiet_nil ?_
  intro w1 hb
  clear J C0 C1 C2 C3 C4 C5
  have HD1 : Hid (DeskAt w1 d b ∧ Off (fun x => x = d) W w1) := ⟨HD.out.below hb, Off.of_below hb⟩
  clear hb
  go_wp2_with fail
  go_ret
  exact ⟨rfl, HD1.out⟩
set_option maxHeartbeats 1000000 in
theorem plain_tell_yes (w0 : World) (ht : Tab w0) (a : DS) (n m : Nat) (f : ByteArray) (K : Nat) (hn : a.n = (n : Int)) (hm : a.m = (m : Int)) (hv : validB n a.S a.R = true) (hu : validB m a.T a.U = true) (hf : senF (stOf n a.S a.R) (stOf m a.T a.U) = some (f, K)) (hK : K ≤ 1000) (hfs : f.size ≤ 4000) : PlainOK w0 ⟨#[116, 101, 108, 108]⟩ a { a with f := f } (itoS (K : Int) ++ ⟨#[32]⟩ ++ f) := by
  intro W d hd0 hB hD
  have HC := Lib.hid (fun w => SentenceFor_any n a.S a.R m a.T a.U w hv hu)
  rw [hf, ← hn, ← hm] at HC
  unfold strV senV at HC
  have HD : Hid (DeskAt W d a) := hD
  have HT : Hid (Tab W) := ht.below hB (Nat.le_refl _)
  have HB0 := Lib.hid hB
  obtain ⟨c0, c1, c2, c3, c4, c5, c6, cf⟩ := hD.cells
  have HI := Lib.hid (fun w ht => itoa_any (K : Int) w (by omega) (by omega) ht)
  have hz := itoS_size (K : Int) (by omega) (by omega)
  generalize itoS (K : Int) = IK at *
  have hz1 : ¬ 9223372036854775807 < IK.size + (⟨#[32]⟩ : ByteArray).size := by show ¬ _ < IK.size + 1; omega
  have hz2 : ¬ 9223372036854775807 < (IK ++ ⟨#[32]⟩ : ByteArray).size + f.size := by rw [ByteArray.size_append]; show ¬ _ < IK.size + 1 + f.size; omega
  clear cf hD hB hv hu hn hm hf
  generalize hb : a = b at HD ⊢
  obtain ⟨n1, S1, R1, m1, T1, U1, fo⟩ := a
  simp only at *
  clear hb
  go_enter Tryz.func69, Tryz.ntmps69
  go_upto_region 24 with fail
  have J := Lib.hid (fun s : Since W => HC.out s.w)
  have C0 := fun s => Since.cell c0 s
  have C1 := fun s => Since.cell c1 s
  have C2 := fun s => Since.cell c2 s
  have C3 := fun s => Since.cell c3 s
  have C4 := fun s => Since.cell c4 s
  have C5 := fun s => Since.cell c5 s
  refine wp_region_since (by kernel_rfl) (by kernel_rfl) ?_
  repeat (go_big_quiet_step (first | (with_reducible exact Since.call (J.out _)) | (with_reducible exact C0 _) | (with_reducible exact C1 _) | (with_reducible exact C2 _) | (with_reducible exact C3 _) | (with_reducible exact C4 _) | (with_reducible exact C5 _)))
  refine wpQuiet_nil ?_
  intro w1 hb
  clear J C0 C1 C2 C3 C4 C5
  have HD1 : Hid (DeskAt w1 d b ∧ Off (fun x => x = d) W w1) := ⟨HD.out.below hb, Off.of_below hb⟩
  have HT1 : Hid (Tab (w1.setCell ⟨d, 6, none⟩ (.string f))) := ht.below (below_set (HB0.out.trans (hb.mono HB0.out.size)) hd0) (Nat.le_refl _)
  have c6' := HD1.out.1.cells.2.2.2.2.2.2.1
  have f6' := HD1.out.1.cells.2.2.2.2.2.2.2 6
  have HF : Hid (DeskAt (w1.setCell ⟨d, 6, none⟩ (.string f)) d { b with f := f } ∧ Off (fun x => x = d) W (w1.setCell ⟨d, 6, none⟩ (.string f))) := ⟨HD1.out.1.setF f, HD1.out.2.trans off_setD (fun _ h => .inl h)⟩
  clear hb
  go_wp2_with fail
  refine (HI.out _ HT1.out).mono ?_; rintro e w3 ⟨rfl, hb⟩
  have HD3 : Hid (DeskAt w3 d { b with f := f } ∧ Off (fun x => x = d) W w3) := ⟨HF.out.1.below hb, HF.out.2.trans (Off.of_below (F := fun _ => False) hb) (fun _ h => h.elim)⟩
  clear hb
  go_wp2_with fail
  go_ret
  exact ⟨rfl, HD3.out⟩
end Go.Proofs.YtofmagiahmmmgaaGreatDoor

namespace Go.Proofs.YtofmagiahmmmgaaGreatDoor
open Go.RowKit
set_option linter.unusedVariables false
set_option maxRecDepth 100000
/-- The lines of the script. -/
def gamesLines (s t k : ByteArray) : List ByteArray := [(⟨#[108, 101, 102, 116, 32]⟩ : ByteArray) ++ s, (⟨#[114, 105, 103, 104, 116, 32]⟩ : ByteArray) ++ t, (⟨#[115, 97, 109, 101, 32]⟩ : ByteArray) ++ k, (⟨#[114, 111, 117, 110, 100, 115]⟩ : ByteArray), (⟨#[112, 101, 98, 98, 108, 101, 115, 32, 50]⟩ : ByteArray), (⟨#[99, 111, 108, 111, 117, 114, 101, 100]⟩ : ByteArray), (⟨#[116, 101, 108, 108]⟩ : ByteArray)]
theorem gamesScript (s t k : ByteArray) : (⟨#[108, 101, 102, 116, 32]⟩ : ByteArray) ++ s ++ (⟨#[10, 114, 105, 103, 104, 116, 32]⟩ : ByteArray) ++ t ++ (⟨#[10, 115, 97, 109, 101, 32]⟩ : ByteArray) ++ k ++ (⟨#[10, 114, 111, 117, 110, 100, 115, 10, 112, 101, 98, 98, 108, 101, 115, 32, 50, 10, 99, 111, 108, 111, 117, 114, 101, 100, 10, 116, 101, 108, 108, 10]⟩ : ByteArray) = linesB (gamesLines s t k) := by
  apply ByteArray.ext
  apply Array.toList_inj.1
  simp [linesB, gamesLines, linesL, ByteArray.data_append, Array.toList_append]
theorem gamesLines_no (s t k : ByteArray) (hs : (10 : UInt8) ∉ s.data.toList) (ht : (10 : UInt8) ∉ t.data.toList) (hk : (10 : UInt8) ∉ k.data.toList) : ∀ l ∈ gamesLines s t k, (10 : UInt8) ∉ l.data.toList := by
  intro l hl
  simp only [gamesLines, List.mem_cons, List.not_mem_nil, or_false] at hl
  rcases hl with rfl | rfl | rfl | rfl | rfl | rfl | rfl
  · simp [ByteArray.data_append, Array.toList_append, hs]
  · simp [ByteArray.data_append, Array.toList_append, ht]
  · simp [ByteArray.data_append, Array.toList_append, hk]
  · decide
  · decide
  · decide
  · decide
theorem gamesLines_ne (s t k : ByteArray) : ∀ l ∈ gamesLines s t k, l ≠ ByteArray.empty := by
  intro l hl
  simp only [gamesLines, List.mem_cons, List.not_mem_nil, or_false] at hl
  rcases hl with rfl | rfl | rfl | rfl | rfl | rfl | rfl
  · intro h; have := congrArg (fun b : ByteArray => b.data.toList.length) h; simp [ByteArray.data_append, Array.toList_append] at this
  · intro h; have := congrArg (fun b : ByteArray => b.data.toList.length) h; simp [ByteArray.data_append, Array.toList_append] at this
  · intro h; have := congrArg (fun b : ByteArray => b.data.toList.length) h; simp [ByteArray.data_append, Array.toList_append] at this
  · decide
  · decide
  · decide
  · decide
/-- The answers of the script. -/
def gamesAns (i r p c l : ByteArray) : List ByteArray := [(⟨#[111, 107]⟩ : ByteArray), (⟨#[111, 107]⟩ : ByteArray), i, r, p, c, l]
theorem gamesOut (i r p c l : ByteArray) : (⟨#[111, 107, 10, 111, 107, 10]⟩ : ByteArray) ++ (i ++ ⟨#[10]⟩) ++ r ++ (⟨#[10]⟩ : ByteArray) ++ (p ++ ⟨#[10]⟩) ++ (c ++ ⟨#[10]⟩) ++ (l ++ ⟨#[10]⟩) = outT (gamesAns i r p c l) := by
  apply ByteArray.ext
  apply Array.toList_inj.1
  simp [outT, gamesAns, ByteArray.data_append, Array.toList_append]
end Go.Proofs.YtofmagiahmmmgaaGreatDoor

namespace Go.Proofs.YtofmagiahmmmgaaGreatDoor
open Go.RowKit
set_option linter.unusedVariables false
set_option maxRecDepth 100000
/-- A text is cut at a byte that its first part lacks. -/
theorem cut_sep (c : UInt8) (p r : ByteArray) (h : c ∉ p.data.toList) (hs : (p ++ ⟨#[c]⟩ ++ r).size ≤ 9223372036854775807) (w : World) :
    Calls Tryz.prog 68 #[.string (p ++ ⟨#[c]⟩ ++ r), .string ⟨#[c]⟩] w fun e w' => e = .returned (.tuple #[.string p, .string r, .bool true]) ∧ Below w.heap.size w w' := by
  have hd : (p ++ ⟨#[c]⟩ ++ r).data.toList = p.data.toList ++ c :: r.data.toList := by simp [ByteArray.data_append, Array.toList_append]
  have hsz : (p ++ ⟨#[c]⟩ ++ r).size = p.size + 1 + r.size := by rw [ByteArray.size_append, ByteArray.size_append]; rfl
  have h1 : Lib.indexByte (p ++ ⟨#[c]⟩ ++ r).data.toList c = (p.size : Int) := by
    rw [← index_bytes, hd, index_at c r.data.toList p.data.toList h]
    simp
  have h2 := cutB_at (p ++ ⟨#[c]⟩ ++ r) c p.size h1 (by omega) hs w
  have e1 : (p ++ ⟨#[c]⟩ ++ r).extract 0 p.size = p := by
    apply ByteArray.ext
    apply Array.toList_inj.1
    rw [Lib.extract_from_zero, hd]
    simp
  have e2 : (p ++ ⟨#[c]⟩ ++ r).extract (p.size + 1) (p ++ ⟨#[c]⟩ ++ r).size = r := by
    apply ByteArray.ext
    apply Array.toList_inj.1
    rw [Lib.extract_to_end, hd]
    have : p.size = p.data.toList.length := by simp
    rw [this, List.drop_append]
    simp
  rw [e1, e2] at h2
  exact h2
theorem bits_mem {s : ByteArray} {n : Int} (h : bitsB s n = true) : ∀ c ∈ s.data.toList, c = 48 ∨ c = 49 := by
  intro c hc
  simp only [bitsB, Bool.and_eq_true, List.all_eq_true] at h
  have := h.2 c hc
  unfold is01 at this
  simpa using this
theorem fmt_mem {n : Nat} {S R : ByteArray} (hv : validB n S R = true) : ∀ c ∈ (fmtS S R).data.toList, c = 48 ∨ c = 49 ∨ c = 58 := by
  obtain ⟨_, _, _, _, hS, hR⟩ := valid_is hv
  intro c hc
  simp only [fmtS, ByteArray.data_append, Array.toList_append, List.mem_append] at hc
  rcases hc with (hc | hc) | hc
  · rcases bits_mem hS c hc with h | h <;> simp [h]
  · simp at hc; simp [hc]
  · rcases bits_mem hR c hc with h | h <;> simp [h]
theorem fmt_no {n : Nat} {S R : ByteArray} (hv : validB n S R = true) : (10 : UInt8) ∉ (fmtS S R).data.toList := by
  intro h
  rcases fmt_mem hv 10 h with h | h | h <;> exact absurd h (by decide)
theorem fmt_size {n : Nat} {S R : ByteArray} (hv : validB n S R = true) : (fmtS S R).size ≤ 73 := by
  obtain ⟨h1, h8, hS, hR, _, _⟩ := valid_is hv
  have hnn : n * n ≤ 64 := Nat.mul_le_mul h8 h8
  have h58 : (⟨#[58]⟩ : ByteArray).size = 1 := rfl
  unfold fmtS
  rw [ByteArray.size_append, ByteArray.size_append]
  omega
set_option maxHeartbeats 1000000 in
theorem ParseStructure_any (n : Nat) (S R : ByteArray) (hv : validB n S R = true) (w : World) :
    Calls Tryz.prog 70 #[.string (fmtS S R)] w fun e w' => e = .returned (.tuple #[strV n S R, .bool true]) ∧ Below w.heap.size w w' := by
  have hfz := fmt_size hv
  have HCU := Lib.hid (fun w => cut_sep 58 S R (by
    intro h
    obtain ⟨_, _, _, _, hS, _⟩ := valid_is hv
    rcases bits_mem hS 58 h with h | h <;> exact absurd h (by decide)) (by show (fmtS S R).size ≤ _; omega) w)
  change Hid (∀ w, Calls _ _ #[.string (fmtS S R), _] w _) at HCU
  obtain ⟨h1, h8, hS, hR, _, _⟩ := valid_is hv
  have hnn : n * n ≤ 64 := Nat.mul_le_mul h8 h8
  have HIS : Hid (∀ w, Calls Tryz.prog 23 #[strV n S R] w fun e w' => e = .returned (.bool true) ∧ Below w.heap.size w w') := fun w => by
    have := isStructure_any n S R w (by omega) (by rw [hR]; omega)
    rw [hv] at this
    exact this
  have hSn : (S.size : Int) = (n : Int) := by omega
  have hb0 : Below w.heap.size w (boxS w 0 ByteArray.empty ByteArray.empty) := boxS_below _ _ _ _
  have HB : Hid (SBlk (boxS w 0 ByteArray.empty ByteArray.empty) w.heap.size 0 ByteArray.empty ByteArray.empty ∧ Below w.heap.size w (boxS w 0 ByteArray.empty ByteArray.empty)) := ⟨boxS_SBlk _ _ _ _, hb0⟩
  obtain ⟨W, hW⟩ : ∃ W, boxS w 0 ByteArray.empty ByteArray.empty = W := ⟨_, rfl⟩
  rw [hW] at HB
  unfold boxS at hW
  have HW := Lib.hid hW
  generalize fmtS S R = s at *
  clear hv hS hR hW hb0
  unfold strV at HIS
  unfold strV
  go_enter Tryz.func70, Tryz.ntmps70
  go_upto_region 1 with fail
  rw [show w.alloc (.cells #[.int .i64 0, .string ⟨#[]⟩, .string ⟨#[]⟩] 24) = W from HW.out]
  go_wp2_with fail
  refine (HCU.out _).mono ?_; rintro e w1 ⟨rfl, hb⟩
  have HB1 : Hid (SBlk w1 w.heap.size 0 ByteArray.empty ByteArray.empty ∧ Below w.heap.size w w1) := ⟨HB.out.1.below hb HB.out.1.cells.2.2.2.2.2.2, HB.out.2.trans (hb.mono HB.out.2.size)⟩
  clear hb HB HW
  have HB2 : Hid (SBlk (boxS w1 n S R) w1.heap.size n S R ∧ SBlk (boxS w1 n S R) w.heap.size 0 ByteArray.empty ByteArray.empty ∧ Below w.heap.size w (boxS w1 n S R)) := ⟨boxS_SBlk _ _ _ _, HB1.out.1.below (boxS_below _ _ _ _) HB1.out.1.cells.2.2.2.2.2.2, HB1.out.2.trans ((boxS_below w1 n S R).mono HB1.out.2.size)⟩
  have hlt : w.heap.size < w1.heap.size := HB1.out.1.cells.2.2.2.2.2.2
  unfold boxS at HB2
  obtain ⟨s0, s1, s2, f0, f1, f2, hl⟩ := HB2.out.1.cells
  clear HB1
  go_wp2_with fail
  refine (HIS.out _).mono ?_; rintro e w3 ⟨rfl, hb⟩
  have HB3 : Hid (SBlk w3 w1.heap.size n S R ∧ SBlk w3 w.heap.size 0 ByteArray.empty ByteArray.empty ∧ Below w.heap.size w w3) := ⟨HB2.out.1.below hb hl, HB2.out.2.1.below hb HB2.out.2.1.cells.2.2.2.2.2.2, HB2.out.2.2.trans (hb.mono HB2.out.2.2.size)⟩
  clear s0 s1 s2 f0 f1 f2 hl hb HB2
  obtain ⟨s0, s1, s2, f0, f1, f2, hl⟩ := HB3.out.1.cells
  obtain ⟨r0, r1, r2, g0, g1, g2, hr⟩ := HB3.out.2.1.cells
  go_wp2_with fail
  refine bodyPost_ret (v := .tuple #[strV n S R, .bool true]) ?_ rfl ⟨rfl, ?_⟩
  · exact results_str2 rfl rfl HB3.out.2.1.set3 rfl
  · exact ((HB3.out.2.2.setCell (Nat.le_refl _) _).setCell (Nat.le_refl _) _).setCell (Nat.le_refl _) _
theorem DeskAt.setB {w : World} {d : Nat} {a : DS} (h : DeskAt w d a) (n : Int) (S R : ByteArray) : DeskAt (((w.setCell ⟨d, 3, none⟩ (.int .i64 n)).setCell ⟨d, 4, none⟩ (.string S)).setCell ⟨d, 5, none⟩ (.string R)) d { a with m := n, T := S, U := R } := ⟨by
  have hb := h.blk
  simp [World.setCell, Array.getElem?_modify, hb]⟩
theorem off_setB3 {w : World} {d : Nat} {x y z : Value} : Off (fun b => b = d) w (((w.setCell ⟨d, 3, none⟩ x).setCell ⟨d, 4, none⟩ y).setCell ⟨d, 5, none⟩ z) :=
  ⟨rfl, rfl, rfl, by simp [World.setCell], fun k _ hk => by rw [Below.heap_setCell _ _ _ _ hk, Below.heap_setCell _ _ _ _ hk, Below.heap_setCell _ _ _ _ hk]⟩
set_option maxHeartbeats 1000000 in
/-- The line "left s". -/
theorem run_left (w0 : World) (a : DS) (n : Nat) (S R : ByteArray) (hv : validB n S R = true) : RunOK w0 (⟨#[108, 101, 102, 116]⟩ ++ ⟨#[32]⟩ ++ fmtS S R) a { a with n := (n : Int), S := S, R := R } ⟨#[111, 107]⟩ := by
  intro W d hd hB hD
  have hfz := fmt_size hv
  have HCU := Lib.hid (fun w => cut_line ⟨#[108, 101, 102, 116]⟩ (fmtS S R) (by decide) (by rw [ByteArray.size_append, ByteArray.size_append]; show 4 + 1 + (fmtS S R).size ≤ _; omega) w)
  have HPS := Lib.hid (fun w => ParseStructure_any n S R hv w)
  have HD := Lib.hid hD
  generalize (⟨#[108, 101, 102, 116]⟩ : ByteArray) ++ ⟨#[32]⟩ ++ fmtS S R = line at *
  generalize fmtS S R = s at *
  clear hv hD hfz
  unfold strV at HPS
  go_enter Tryz.func34, Tryz.ntmps34
  go_wp2_with fail
  refine (HCU.out _).mono ?_; rintro e w1 ⟨rfl, hb⟩
  have HD1 : Hid (DeskAt w1 d a ∧ Off (fun x => x = d) W w1) := ⟨HD.out.below hb, Off.of_below hb⟩
  clear hb HD
  go_wp2_with fail
  refine (HPS.out _).mono ?_; rintro e w2 ⟨rfl, hb⟩
  have hb2 := boxS_below w2 n S R
  have HD2 : Hid (DeskAt (boxS w2 n S R) d a ∧ Off (fun x => x = d) W (boxS w2 n S R) ∧ SBlk (boxS w2 n S R) w2.heap.size n S R ∧ d < w2.heap.size) :=
    ⟨(HD1.out.1.below hb).below hb2, (HD1.out.2.trans (Off.of_below (F := fun _ => False) hb) (fun _ h => h.elim)).trans (Off.of_below (F := fun _ => False) hb2) (fun _ h => h.elim), boxS_SBlk _ _ _ _, Nat.lt_of_lt_of_le HD1.out.1.lt hb.size⟩
  clear hb hb2 HD1
  have HF : Hid (DeskAt ((((boxS w2 n S R).setCell ⟨d, 0, none⟩ (.int .i64 (n : Int))).setCell ⟨d, 1, none⟩ (.string S)).setCell ⟨d, 2, none⟩ (.string R)) d { a with n := (n : Int), S := S, R := R } ∧ Off (fun x => x = d) W ((((boxS w2 n S R).setCell ⟨d, 0, none⟩ (.int .i64 (n : Int))).setCell ⟨d, 1, none⟩ (.string S)).setCell ⟨d, 2, none⟩ (.string R))) :=
    ⟨HD2.out.1.setA n S R, HD2.out.2.1.trans off_setD3 (fun _ h => .inl h)⟩
  unfold boxS at HD2 HF
  obtain ⟨c0, c1, c2, c3, c4, c5, c6, cf⟩ := HD2.out.1.cells
  obtain ⟨s0, s1, s2, _, _, _, hl⟩ := HD2.out.2.2.1.cells
  have hne : w2.heap.size ≠ d := by have := HD2.out.2.2.2; omega
  have hne2 : d ≠ w2.heap.size := by have := HD2.out.2.2.2; omega
  have f0 := cf 0
  have f1 := cf 1
  have f2 := cf 2
  clear cf
  go_wp2_with fail
  go_ret
  exact ⟨rfl, HF.out⟩
set_option maxHeartbeats 1000000 in
/-- The line "right s". -/
theorem run_right (w0 : World) (a : DS) (n : Nat) (S R : ByteArray) (hv : validB n S R = true) : RunOK w0 (⟨#[114, 105, 103, 104, 116]⟩ ++ ⟨#[32]⟩ ++ fmtS S R) a { a with m := (n : Int), T := S, U := R } ⟨#[111, 107]⟩ := by
  intro W d hd hB hD
  have hfz := fmt_size hv
  have HCU := Lib.hid (fun w => cut_line ⟨#[114, 105, 103, 104, 116]⟩ (fmtS S R) (by decide) (by rw [ByteArray.size_append, ByteArray.size_append]; show 5 + 1 + (fmtS S R).size ≤ _; omega) w)
  have HPS := Lib.hid (fun w => ParseStructure_any n S R hv w)
  have HD := Lib.hid hD
  generalize (⟨#[114, 105, 103, 104, 116]⟩ : ByteArray) ++ ⟨#[32]⟩ ++ fmtS S R = line at *
  generalize fmtS S R = s at *
  clear hv hD hfz
  unfold strV at HPS
  go_enter Tryz.func34, Tryz.ntmps34
  go_wp2_with fail
  refine (HCU.out _).mono ?_; rintro e w1 ⟨rfl, hb⟩
  have HD1 : Hid (DeskAt w1 d a ∧ Off (fun x => x = d) W w1) := ⟨HD.out.below hb, Off.of_below hb⟩
  clear hb HD
  go_wp2_with fail
  refine (HPS.out _).mono ?_; rintro e w2 ⟨rfl, hb⟩
  have hb2 := boxS_below w2 n S R
  have HD2 : Hid (DeskAt (boxS w2 n S R) d a ∧ Off (fun x => x = d) W (boxS w2 n S R) ∧ SBlk (boxS w2 n S R) w2.heap.size n S R ∧ d < w2.heap.size) :=
    ⟨(HD1.out.1.below hb).below hb2, (HD1.out.2.trans (Off.of_below (F := fun _ => False) hb) (fun _ h => h.elim)).trans (Off.of_below (F := fun _ => False) hb2) (fun _ h => h.elim), boxS_SBlk _ _ _ _, Nat.lt_of_lt_of_le HD1.out.1.lt hb.size⟩
  clear hb hb2 HD1
  have HF : Hid (DeskAt ((((boxS w2 n S R).setCell ⟨d, 3, none⟩ (.int .i64 (n : Int))).setCell ⟨d, 4, none⟩ (.string S)).setCell ⟨d, 5, none⟩ (.string R)) d { a with m := (n : Int), T := S, U := R } ∧ Off (fun x => x = d) W ((((boxS w2 n S R).setCell ⟨d, 3, none⟩ (.int .i64 (n : Int))).setCell ⟨d, 4, none⟩ (.string S)).setCell ⟨d, 5, none⟩ (.string R))) :=
    ⟨HD2.out.1.setB n S R, HD2.out.2.1.trans off_setB3 (fun _ h => .inl h)⟩
  unfold boxS at HD2 HF
  obtain ⟨c0, c1, c2, c3, c4, c5, c6, cf⟩ := HD2.out.1.cells
  obtain ⟨s0, s1, s2, _, _, _, hl⟩ := HD2.out.2.2.1.cells
  have hne : w2.heap.size ≠ d := by have := HD2.out.2.2.2; omega
  have hne2 : d ≠ w2.heap.size := by have := HD2.out.2.2.2; omega
  have f0 := cf 3
  have f1 := cf 4
  have f2 := cf 5
  clear cf
  go_wp2_with fail
  go_ret
  exact ⟨rfl, HF.out⟩
end Go.Proofs.YtofmagiahmmmgaaGreatDoor

namespace Go.Proofs.YtofmagiahmmmgaaGreatDoor
open Go.RowKit
set_option linter.unusedVariables false
set_option maxRecDepth 100000
theorem rdB_bel {w w' : World} {b K : Nat} (h : RdB w b K) (hb : Below w.heap.size w w') : RdB w' b K := by
  have hlt := h.block
  obtain ⟨k, h1, a, len, cap, f, c0, c1, fr, short, room, row⟩ := h
  have cc : ∀ p v, w.cell? p = some v → w'.cell? p = some v := fun p v h => (hb.cell (World.block_lt_of_cell? w p h)).trans h
  refine ⟨k, h1, a, len, cap, f, cc _ _ c0, cc _ _ c1, ?_, short, room, ?_⟩
  · exact (World.frozen?_of_block (hb.block b hlt)).trans fr
  · rcases row with h | ⟨b', off, rfl, hb', hc, hf⟩
    · exact .inl h
    · exact .inr ⟨b', off, rfl, hb', fun j hj => cc _ _ (hc j hj), hf⟩
end Go.Proofs.YtofmagiahmmmgaaGreatDoor

namespace Go.Proofs.YtofmagiahmmmgaaGreatDoor
open Go.RowKit
set_option linter.unusedVariables false
set_option maxRecDepth 100000
theorem outT_foldl : ∀ (os : List ByteArray) (t : ByteArray), (os.foldl (fun t o => t ++ (o ++ ⟨#[10]⟩)) t).size = t.size + (os.map fun o => o.size + 1).sum
  | [], t => by simp
  | o :: os, t => by
    rw [List.foldl_cons, outT_foldl os, ByteArray.size_append, ByteArray.size_append, List.map_cons, List.sum_cons]
    show t.size + (o.size + 1) + _ = _
    omega
theorem outT_size (os : List ByteArray) : (outT os).size = (os.map fun o => o.size + 1).sum := by
  unfold outT
  rw [outT_foldl]
  show 0 + _ = _
  omega
theorem sum_take (l : List Nat) : ∀ j, (l.take j).sum ≤ l.sum := by
  induction l with
  | nil => intro j; simp
  | cons x l ih =>
    intro j
    cases j with
    | zero => simp
    | succ j => have := ih j; simp only [List.take_succ_cons, List.sum_cons]; omega
theorem outT_take (os : List ByteArray) (j : Nat) : (outT (os.take j)).size ≤ (outT os).size := by
  rw [outT_size, outT_size, List.map_take]
  exact sum_take _ _
theorem linesL_size : ∀ ls : List ByteArray, (linesL (ls.map fun s => s.data.toList)).length = (ls.map fun o => o.size + 1).sum
  | [] => rfl
  | l :: ls => by
    have := linesL_size ls
    simp only [List.map_cons, linesL, List.length_append, List.length_cons, List.sum_cons, this]
    have : l.data.toList.length = l.size := by simp
    omega
theorem linesB_size (ls : List ByteArray) : (linesB ls).size = (ls.map fun o => o.size + 1).sum := by
  rw [← linesL_size]
  show (linesL _).toArray.size = _
  simp
theorem truthB_size (b : Bool) : (truthB b).size ≤ 5 := by cases b <;> decide
end Go.Proofs.YtofmagiahmmmgaaGreatDoor

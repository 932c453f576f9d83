/- Contracts of the program's functions and what they compute: part 26. Conditions: those that each theorem states. -/
import Derived.Test.YtlkemhhkcanmoaaGreatDoorP54n19
import Derived.Test.YtlkemhhkcanmoaaGreatDoorP54n25
namespace Go.Proofs.YtlkemhhkcanmoaaGreatDoor
open Go.RowKit
set_option linter.unusedVariables false
set_option maxRecDepth 100000
set_option maxHeartbeats 1000000 in
theorem told_word (a : DS) (s : ByteArray) (n : Nat) (hn : a.n = (n : Int)) (hS : a.S.size ≤ 9223372036854775807) (hR : a.R.size ≤ 9223372036854775807) (hw : woB n a.S a.R = some s) (W : World) (d : Nat) (hD : DeskAt W d a) :
    Calls Tryz.prog 105 #[.pointer (some ⟨d, 0, none⟩), .string ⟨#[119, 111, 114, 100]⟩] W fun e w' => e = .returned (.string s) ∧ DeskAt w' d a ∧ Off (fun x => x = d) W w' := by
  have HW := Lib.hid (fun w => implWordOf_any n a.S a.R hS hR w)
  rw [hw, ← hn] at HW
  unfold woV strV at HW
  obtain ⟨c0, c1, c2, c3, c4, c5, c6, cf⟩ := hD.cells
  have HD := Lib.hid hD
  clear cf hD hn hS hR hw
  generalize hb : a = b at HD ⊢
  obtain ⟨n1, S1, R1, m1, T1, U1, fo⟩ := a
  simp only at *
  clear hb
  go_enter Tryz.func105, Tryz.ntmps105
  go_wp2_with fail
  refine (HW.out _).mono ?_; rintro e w1 ⟨rfl, hb⟩
  have HD1 : Hid (DeskAt w1 d b ∧ Off (fun x => x = d) W w1) := ⟨HD.out.below hb, Off.of_below hb⟩
  clear hb HD
  go_wp2_with fail
  go_ret
  exact ⟨rfl, HD1.out⟩
set_option maxHeartbeats 1000000 in
/-- The line "word". -/
theorem run_tellword (w0 : World) (a : DS) (s : ByteArray) (n : Nat) (hn : a.n = (n : Int)) (hS : a.S.size ≤ 9223372036854775807) (hR : a.R.size ≤ 9223372036854775807) (hw : woB n a.S a.R = some s) : RunOK w0 ⟨#[119, 111, 114, 100]⟩ a a s := by
  intro W d hd hB hD
  have HCU := Lib.hid (fun w => cut_word ⟨#[119, 111, 114, 100]⟩ (by decide) w)
  have HT := Lib.hid (fun W hD => told_word a s n hn hS hR hw W d hD)
  have HP : Hid (∀ W (hD : DeskAt W d a), Calls Tryz.prog 59 #[.pointer (some ⟨d, 0, none⟩), .string ⟨#[119, 111, 114, 100]⟩] W fun e w' => e = .returned (.string s) ∧ DeskAt w' d a ∧ Off (fun x => x = d) W w') := by
    intro W hD
    have HD := Lib.hid hD
    clear hB HCU hn hS hR hw hD
    go_enter Tryz.func59, Tryz.ntmps59
    go_wp2_with fail
    refine (HT.out _ HD.out).mono ?_; rintro e w2 ⟨rfl, hd2, ho2⟩
    have HD2 : Hid (DeskAt w2 d a ∧ Off (fun x => x = d) W w2) := ⟨hd2, ho2⟩
    clear hd2 ho2
    go_wp2_with fail
    go_ret
    exact ⟨rfl, HD2.out⟩
  have HD := Lib.hid hD
  clear hD hn hS hR hw HT
  go_enter Tryz.func36, Tryz.ntmps36
  go_wp2_with fail
  refine (HCU.out _).mono ?_; rintro e w1 ⟨rfl, hb⟩
  have HD1 : Hid (DeskAt w1 d a ∧ Off (fun x => x = d) W w1) := ⟨HD.out.below hb, Off.of_below hb⟩
  clear hb HD
  go_wp2_with fail
  refine (HP.out _ HD1.out.1).mono ?_; rintro e w2 ⟨rfl, hd2, ho2⟩
  have HD2 : Hid (DeskAt w2 d a ∧ Off (fun x => x = d) W w2) := ⟨hd2, HD1.out.2.trans ho2 (fun _ h => .inl h)⟩
  clear hd2 ho2
  go_wp2_with fail
  go_ret
  exact ⟨rfl, HD2.out⟩
end Go.Proofs.YtlkemhhkcanmoaaGreatDoor

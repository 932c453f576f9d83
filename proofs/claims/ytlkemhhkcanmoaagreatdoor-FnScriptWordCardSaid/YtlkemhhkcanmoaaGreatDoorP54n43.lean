/- Contracts of the program's functions and what they compute: part 43. Conditions: those that each theorem states. -/
import Derived.Test.YtlkemhhkcanmoaaGreatDoorP54n34
import Derived.Test.YtlkemhhkcanmoaaGreatDoorP54n41
import Derived.Test.YtlkemhhkcanmoaaGreatDoorP54n42
namespace Go.Proofs.YtlkemhhkcanmoaaGreatDoor
open Go.RowKit
set_option linter.unusedVariables false
set_option maxRecDepth 100000
/-- The words that a number may follow. -/
def knownL : List ByteArray := [⟨#[99, 111, 117, 110, 116]⟩, ⟨#[111, 114, 98, 105, 116]⟩, ⟨#[115, 97, 109, 101]⟩, ⟨#[109, 111, 118, 101]⟩, ⟨#[99, 108, 97, 115, 115, 101, 115]⟩, ⟨#[116, 121, 112, 101]⟩, ⟨#[112, 101, 98, 98, 108, 101, 115]⟩, ⟨#[99, 111, 108, 111, 117, 114, 115]⟩, ⟨#[98, 97, 108, 108, 115]⟩, ⟨#[110, 101, 97, 114]⟩, ⟨#[99, 111, 112, 105, 101, 115]⟩, ⟨#[111, 114, 100, 101, 114]⟩, ⟨#[99, 105, 114, 99, 108, 101]⟩, ⟨#[108, 101, 110, 103, 116, 104]⟩]
/-- A word with a number is answered by (*desk).asked; nothing turns. -/
def AskedOK (w0 : World) (l : ByteArray) (k : Nat) (a : DS) (o : ByteArray) : Prop := ∀ (W : World) (d : Nat), w0.heap.size ≤ d → Below w0.heap.size w0 W → DeskAt W d a →
  Calls Tryz.prog 122 #[.pointer (some ⟨d, 0, none⟩), .string l, .int .i64 (k : Int)] W fun e w' => e = .returned (.string o) ∧ DeskAt w' d a ∧ Off (fun x => x = d) W w'
theorem known_has (l : ByteArray) (h : hasB knownL l = true) (w : World) :
    Calls Tryz.prog 115 #[.slice (some ⟨w.heap.size, 0, none⟩) 14 14, .string l] (w.alloc (.cells #[.string ⟨#[99, 111, 117, 110, 116]⟩, .string ⟨#[111, 114, 98, 105, 116]⟩, .string ⟨#[115, 97, 109, 101]⟩, .string ⟨#[109, 111, 118, 101]⟩, .string ⟨#[99, 108, 97, 115, 115, 101, 115]⟩, .string ⟨#[116, 121, 112, 101]⟩, .string ⟨#[112, 101, 98, 98, 108, 101, 115]⟩, .string ⟨#[99, 111, 108, 111, 117, 114, 115]⟩, .string ⟨#[98, 97, 108, 108, 115]⟩, .string ⟨#[110, 101, 97, 114]⟩, .string ⟨#[99, 111, 112, 105, 101, 115]⟩, .string ⟨#[111, 114, 100, 101, 114]⟩, .string ⟨#[99, 105, 114, 99, 108, 101]⟩, .string ⟨#[108, 101, 110, 103, 116, 104]⟩] 9)) fun e w' => e = .returned (.bool true) ∧ w' = w.alloc (.cells #[.string ⟨#[99, 111, 117, 110, 116]⟩, .string ⟨#[111, 114, 98, 105, 116]⟩, .string ⟨#[115, 97, 109, 101]⟩, .string ⟨#[109, 111, 118, 101]⟩, .string ⟨#[99, 108, 97, 115, 115, 101, 115]⟩, .string ⟨#[116, 121, 112, 101]⟩, .string ⟨#[112, 101, 98, 98, 108, 101, 115]⟩, .string ⟨#[99, 111, 108, 111, 117, 114, 115]⟩, .string ⟨#[98, 97, 108, 108, 115]⟩, .string ⟨#[110, 101, 97, 114]⟩, .string ⟨#[99, 111, 112, 105, 101, 115]⟩, .string ⟨#[111, 114, 100, 101, 114]⟩, .string ⟨#[99, 105, 114, 99, 108, 101]⟩, .string ⟨#[108, 101, 110, 103, 116, 104]⟩] 9) := by
  have h1 := containsStr_any knownL l w.heap.size 14 (w.alloc (.cells (knownL.map Value.string).toArray 9)) (by decide) (by decide) (by decide) (fun j hj => by
    rw [World.cell?_alloc_new]
    simp [hj])
  rw [h] at h1
  exact h1
set_option maxHeartbeats 1000000 in
theorem numbered_classes (w0 : World) (ht : Tab w0) (a : DS) (k : Nat) (hk : k ≤ 9) (s : ByteArray) (HA0 : AskedOK w0 ⟨#[99, 108, 97, 115, 115, 101, 115]⟩ k a s) (W : World) (d : Nat) (hd : w0.heap.size ≤ d) (hB : Below w0.heap.size w0 W) (hD : DeskAt W d a) :
    Calls Tryz.prog 70 #[.pointer (some ⟨d, 0, none⟩), .string ⟨#[99, 108, 97, 115, 115, 101, 115]⟩, .string (itoS (k : Int))] W fun e w' => e = .returned (.string s) ∧ DeskAt w' d a ∧ Off (fun x => x = d) W w' := by
  have HCO := Lib.hid (fun w => known_has ⟨#[99, 108, 97, 115, 115, 101, 115]⟩ (by decide) w)
  have HNO := Lib.hid (fun w ht => numberOf_digit k hk w ht)
  have HA := Lib.hid (fun W hB hD => HA0 W d hd hB hD)
  have hb0 : Below W.heap.size W (W.alloc (.cells #[.string ⟨#[99, 111, 117, 110, 116]⟩, .string ⟨#[111, 114, 98, 105, 116]⟩, .string ⟨#[115, 97, 109, 101]⟩, .string ⟨#[109, 111, 118, 101]⟩, .string ⟨#[99, 108, 97, 115, 115, 101, 115]⟩, .string ⟨#[116, 121, 112, 101]⟩, .string ⟨#[112, 101, 98, 98, 108, 101, 115]⟩, .string ⟨#[99, 111, 108, 111, 117, 114, 115]⟩, .string ⟨#[98, 97, 108, 108, 115]⟩, .string ⟨#[110, 101, 97, 114]⟩, .string ⟨#[99, 111, 112, 105, 101, 115]⟩, .string ⟨#[111, 114, 100, 101, 114]⟩, .string ⟨#[99, 105, 114, 99, 108, 101]⟩, .string ⟨#[108, 101, 110, 103, 116, 104]⟩] 9)) := (Below.refl _ _).alloc (Nat.le_refl _) _
  have HD : Hid (DeskAt (W.alloc (.cells #[.string ⟨#[99, 111, 117, 110, 116]⟩, .string ⟨#[111, 114, 98, 105, 116]⟩, .string ⟨#[115, 97, 109, 101]⟩, .string ⟨#[109, 111, 118, 101]⟩, .string ⟨#[99, 108, 97, 115, 115, 101, 115]⟩, .string ⟨#[116, 121, 112, 101]⟩, .string ⟨#[112, 101, 98, 98, 108, 101, 115]⟩, .string ⟨#[99, 111, 108, 111, 117, 114, 115]⟩, .string ⟨#[98, 97, 108, 108, 115]⟩, .string ⟨#[110, 101, 97, 114]⟩, .string ⟨#[99, 111, 112, 105, 101, 115]⟩, .string ⟨#[111, 114, 100, 101, 114]⟩, .string ⟨#[99, 105, 114, 99, 108, 101]⟩, .string ⟨#[108, 101, 110, 103, 116, 104]⟩] 9)) d a ∧ Off (fun x => x = d) W (W.alloc (.cells #[.string ⟨#[99, 111, 117, 110, 116]⟩, .string ⟨#[111, 114, 98, 105, 116]⟩, .string ⟨#[115, 97, 109, 101]⟩, .string ⟨#[109, 111, 118, 101]⟩, .string ⟨#[99, 108, 97, 115, 115, 101, 115]⟩, .string ⟨#[116, 121, 112, 101]⟩, .string ⟨#[112, 101, 98, 98, 108, 101, 115]⟩, .string ⟨#[99, 111, 108, 111, 117, 114, 115]⟩, .string ⟨#[98, 97, 108, 108, 115]⟩, .string ⟨#[110, 101, 97, 114]⟩, .string ⟨#[99, 111, 112, 105, 101, 115]⟩, .string ⟨#[111, 114, 100, 101, 114]⟩, .string ⟨#[99, 105, 114, 99, 108, 101]⟩, .string ⟨#[108, 101, 110, 103, 116, 104]⟩] 9)) ∧ Below w0.heap.size w0 (W.alloc (.cells #[.string ⟨#[99, 111, 117, 110, 116]⟩, .string ⟨#[111, 114, 98, 105, 116]⟩, .string ⟨#[115, 97, 109, 101]⟩, .string ⟨#[109, 111, 118, 101]⟩, .string ⟨#[99, 108, 97, 115, 115, 101, 115]⟩, .string ⟨#[116, 121, 112, 101]⟩, .string ⟨#[112, 101, 98, 98, 108, 101, 115]⟩, .string ⟨#[99, 111, 108, 111, 117, 114, 115]⟩, .string ⟨#[98, 97, 108, 108, 115]⟩, .string ⟨#[110, 101, 97, 114]⟩, .string ⟨#[99, 111, 112, 105, 101, 115]⟩, .string ⟨#[111, 114, 100, 101, 114]⟩, .string ⟨#[99, 105, 114, 99, 108, 101]⟩, .string ⟨#[108, 101, 110, 103, 116, 104]⟩] 9))) := ⟨hD.below hb0, Off.of_below hb0, hB.trans (hb0.mono hB.size)⟩
  have HT := Lib.hid ht
  clear hB hD HA0 hb0 ht
  generalize itoS (k : Int) = t at *
  go_enter Tryz.func70, Tryz.ntmps70
  go_wp2_with fail
  refine (HCO.out _).mono ?_; rintro e w1 ⟨rfl, hw⟩; rw [hw]; clear hw w1
  go_wp2_with fail
  refine (HNO.out _ (HT.out.below HD.out.2.2 (Nat.le_refl _))).mono ?_; rintro e w2 ⟨rfl, hb⟩
  have HD2 : Hid (DeskAt w2 d a ∧ Off (fun x => x = d) W w2 ∧ Below w0.heap.size w0 w2) := ⟨HD.out.1.below hb, HD.out.2.1.trans (Off.of_below (F := fun _ => False) hb) (fun _ h => h.elim), HD.out.2.2.trans (hb.mono HD.out.2.2.size)⟩
  clear hb HD
  go_wp2_with fail
  refine (HA.out _ HD2.out.2.2 HD2.out.1).mono ?_; rintro e w3 ⟨rfl, hd3, ho3⟩
  have HD3 : Hid (DeskAt w3 d a ∧ Off (fun x => x = d) W w3) := ⟨hd3, HD2.out.2.1.trans ho3 (fun _ h => .inl h)⟩
  clear hd3 ho3
  go_wp2_with fail
  go_ret
  exact ⟨rfl, HD3.out⟩
set_option maxHeartbeats 1000000 in
theorem run_classes (w0 : World) (ht : Tab w0) (a : DS) (k : Nat) (hk : k ≤ 9) (s : ByteArray) (HA0 : AskedOK w0 ⟨#[99, 108, 97, 115, 115, 101, 115]⟩ k a s) : RunOK w0 (⟨#[99, 108, 97, 115, 115, 101, 115]⟩ ++ ⟨#[32]⟩ ++ itoS (k : Int)) a a s := by
  intro W d hd hB hD
  have hz : (itoS (k : Int)).size = 1 := by rw [itoS_digit hk]; rfl
  have HCU := Lib.hid (fun w => cut_line ⟨#[99, 108, 97, 115, 115, 101, 115]⟩ (itoS (k : Int)) (by decide) (by rw [ByteArray.size_append, ByteArray.size_append, hz]; decide) w)
  have HN := Lib.hid (fun W hB hD => numbered_classes w0 ht a k hk s HA0 W d hd hB hD)
  have HD : Hid (DeskAt W d a ∧ Off (fun x => x = d) W W ∧ Below w0.heap.size w0 W) := ⟨hD, Off.of_below (Below.refl _ _), hB⟩
  clear hD hB HA0 hz
  generalize (⟨#[99, 108, 97, 115, 115, 101, 115]⟩ : ByteArray) ++ ⟨#[32]⟩ ++ itoS (k : Int) = line at *
  generalize itoS (k : Int) = t at *
  go_enter Tryz.func36, Tryz.ntmps36
  go_wp2_with fail
  refine (HCU.out _).mono ?_; rintro e w1 ⟨rfl, hb⟩
  have HD1 : Hid (DeskAt w1 d a ∧ Off (fun x => x = d) W w1 ∧ Below w0.heap.size w0 w1) := ⟨HD.out.1.below hb, Off.of_below hb, HD.out.2.2.trans (hb.mono HD.out.2.2.size)⟩
  clear hb HD
  go_wp2_with fail
  refine (HN.out _ HD1.out.2.2 HD1.out.1).mono ?_; rintro e w2 ⟨rfl, hd2, ho2⟩
  have HD2 : Hid (DeskAt w2 d a ∧ Off (fun x => x = d) W w2) := ⟨hd2, HD1.out.2.1.trans ho2 (fun _ h => .inl h)⟩
  clear hd2 ho2
  go_wp2_with fail
  go_ret
  exact ⟨rfl, HD2.out⟩
end Go.Proofs.YtlkemhhkcanmoaaGreatDoor

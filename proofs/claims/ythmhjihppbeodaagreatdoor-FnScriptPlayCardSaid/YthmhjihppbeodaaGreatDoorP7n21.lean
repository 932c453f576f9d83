/- Contracts of the program's functions and what they compute: part 21. Conditions: those that each theorem states. -/
import Derived.Test.YthmhjihppbeodaaGreatDoorP7n19
import Derived.Test.YthmhjihppbeodaaGreatDoorP7n20
import Derived.Test.YthmhjihppbeodaaGreatDoorP7n18
import Derived.Test.YthmhjihppbeodaaGreatDoorP7n1
import Derived.Test.YthmhjihppbeodaaGreatDoorP7n4
import Derived.Test.YthmhjihppbeodaaGreatDoorP7n15
import Derived.Test.YthmhjihppbeodaaGreatDoorP7n8
import Derived.Test.YthmhjihppbeodaaGreatDoorP7n14
import Derived.Deep.DeepCutAuto
import Derived.Maps.Own
import Derived.LaidEqlPtr
import Derived.Laws.IdiomCopy
import Derived.Deep.AppendLies
import Derived.Deep.RegionLaw
import Derived.Deep.CutBlock
namespace Go.Proofs.YthmhjihppbeodaaGreatDoor
open Go.RowKit
set_option linter.unusedVariables false
set_option maxRecDepth 100000
/-- The words that a number may follow. -/
def knownL : List ByteArray := [⟨#[99, 111, 117, 110, 116]⟩, ⟨#[111, 114, 98, 105, 116]⟩, ⟨#[115, 97, 109, 101]⟩, ⟨#[109, 111, 118, 101]⟩, ⟨#[99, 108, 97, 115, 115, 101, 115]⟩, ⟨#[116, 121, 112, 101]⟩, ⟨#[112, 101, 98, 98, 108, 101, 115]⟩, ⟨#[99, 111, 108, 111, 117, 114, 115]⟩, ⟨#[98, 97, 108, 108, 115]⟩, ⟨#[110, 101, 97, 114]⟩, ⟨#[99, 111, 112, 105, 101, 115]⟩, ⟨#[111, 114, 100, 101, 114]⟩, ⟨#[99, 105, 114, 99, 108, 101]⟩, ⟨#[108, 101, 110, 103, 116, 104]⟩]
/-- A word with a number is answered by (*desk).asked; nothing turns. -/
def AskedOK (w0 : World) (l : ByteArray) (k : Nat) (a : DS) (o : ByteArray) : Prop := ∀ (W : World) (d : Nat), w0.heap.size ≤ d → Below w0.heap.size w0 W → DeskAt W d a →
  Calls Tryz.prog 121 #[.pointer (some ⟨d, 0, none⟩), .string l, .int .i64 (k : Int)] W fun e w' => e = .returned (.string o) ∧ DeskAt w' d a ∧ Off (fun x => x = d) W w'
theorem known_has (l : ByteArray) (h : hasB knownL l = true) (w : World) :
    Calls Tryz.prog 114 #[.slice (some ⟨w.heap.size, 0, none⟩) 14 14, .string l] (w.alloc (.cells #[.string ⟨#[99, 111, 117, 110, 116]⟩, .string ⟨#[111, 114, 98, 105, 116]⟩, .string ⟨#[115, 97, 109, 101]⟩, .string ⟨#[109, 111, 118, 101]⟩, .string ⟨#[99, 108, 97, 115, 115, 101, 115]⟩, .string ⟨#[116, 121, 112, 101]⟩, .string ⟨#[112, 101, 98, 98, 108, 101, 115]⟩, .string ⟨#[99, 111, 108, 111, 117, 114, 115]⟩, .string ⟨#[98, 97, 108, 108, 115]⟩, .string ⟨#[110, 101, 97, 114]⟩, .string ⟨#[99, 111, 112, 105, 101, 115]⟩, .string ⟨#[111, 114, 100, 101, 114]⟩, .string ⟨#[99, 105, 114, 99, 108, 101]⟩, .string ⟨#[108, 101, 110, 103, 116, 104]⟩] 9)) fun e w' => e = .returned (.bool true) ∧ w' = w.alloc (.cells #[.string ⟨#[99, 111, 117, 110, 116]⟩, .string ⟨#[111, 114, 98, 105, 116]⟩, .string ⟨#[115, 97, 109, 101]⟩, .string ⟨#[109, 111, 118, 101]⟩, .string ⟨#[99, 108, 97, 115, 115, 101, 115]⟩, .string ⟨#[116, 121, 112, 101]⟩, .string ⟨#[112, 101, 98, 98, 108, 101, 115]⟩, .string ⟨#[99, 111, 108, 111, 117, 114, 115]⟩, .string ⟨#[98, 97, 108, 108, 115]⟩, .string ⟨#[110, 101, 97, 114]⟩, .string ⟨#[99, 111, 112, 105, 101, 115]⟩, .string ⟨#[111, 114, 100, 101, 114]⟩, .string ⟨#[99, 105, 114, 99, 108, 101]⟩, .string ⟨#[108, 101, 110, 103, 116, 104]⟩] 9) := by
  have h1 := containsStr_any knownL l w.heap.size 14 (w.alloc (.cells (knownL.map Value.string).toArray 9)) (by decide) (by decide) (by decide) (fun j hj => by
    rw [World.cell?_alloc_new]
    simp [hj])
  rw [h] at h1
  exact h1
set_option maxHeartbeats 1000000 in
theorem numbered_move (w0 : World) (ht : Tab w0) (a : DS) (k : Nat) (hk : k ≤ 9) (s : ByteArray) (HA0 : AskedOK w0 ⟨#[109, 111, 118, 101]⟩ k a s) (W : World) (d : Nat) (hd : w0.heap.size ≤ d) (hB : Below w0.heap.size w0 W) (hD : DeskAt W d a) :
    Calls Tryz.prog 70 #[.pointer (some ⟨d, 0, none⟩), .string ⟨#[109, 111, 118, 101]⟩, .string (itoS (k : Int))] W fun e w' => e = .returned (.string s) ∧ DeskAt w' d a ∧ Off (fun x => x = d) W w' := by
  have HCO := Lib.hid (fun w => known_has ⟨#[109, 111, 118, 101]⟩ (by decide) w)
  have HNO := Lib.hid (fun w ht => numberOf_digit k hk w ht)
  have HA := Lib.hid (fun W hB hD => HA0 W d hd hB hD)
  have hb0 : Below W.heap.size W (W.alloc (.cells #[.string ⟨#[99, 111, 117, 110, 116]⟩, .string ⟨#[111, 114, 98, 105, 116]⟩, .string ⟨#[115, 97, 109, 101]⟩, .string ⟨#[109, 111, 118, 101]⟩, .string ⟨#[99, 108, 97, 115, 115, 101, 115]⟩, .string ⟨#[116, 121, 112, 101]⟩, .string ⟨#[112, 101, 98, 98, 108, 101, 115]⟩, .string ⟨#[99, 111, 108, 111, 117, 114, 115]⟩, .string ⟨#[98, 97, 108, 108, 115]⟩, .string ⟨#[110, 101, 97, 114]⟩, .string ⟨#[99, 111, 112, 105, 101, 115]⟩, .string ⟨#[111, 114, 100, 101, 114]⟩, .string ⟨#[99, 105, 114, 99, 108, 101]⟩, .string ⟨#[108, 101, 110, 103, 116, 104]⟩] 9)) := (Below.refl _ _).alloc (Nat.le_refl _) _
  have HD : Hid (DeskAt (W.alloc (.cells #[.string ⟨#[99, 111, 117, 110, 116]⟩, .string ⟨#[111, 114, 98, 105, 116]⟩, .string ⟨#[115, 97, 109, 101]⟩, .string ⟨#[109, 111, 118, 101]⟩, .string ⟨#[99, 108, 97, 115, 115, 101, 115]⟩, .string ⟨#[116, 121, 112, 101]⟩, .string ⟨#[112, 101, 98, 98, 108, 101, 115]⟩, .string ⟨#[99, 111, 108, 111, 117, 114, 115]⟩, .string ⟨#[98, 97, 108, 108, 115]⟩, .string ⟨#[110, 101, 97, 114]⟩, .string ⟨#[99, 111, 112, 105, 101, 115]⟩, .string ⟨#[111, 114, 100, 101, 114]⟩, .string ⟨#[99, 105, 114, 99, 108, 101]⟩, .string ⟨#[108, 101, 110, 103, 116, 104]⟩] 9)) d a ∧ Off (fun x => x = d) W (W.alloc (.cells #[.string ⟨#[99, 111, 117, 110, 116]⟩, .string ⟨#[111, 114, 98, 105, 116]⟩, .string ⟨#[115, 97, 109, 101]⟩, .string ⟨#[109, 111, 118, 101]⟩, .string ⟨#[99, 108, 97, 115, 115, 101, 115]⟩, .string ⟨#[116, 121, 112, 101]⟩, .string ⟨#[112, 101, 98, 98, 108, 101, 115]⟩, .string ⟨#[99, 111, 108, 111, 117, 114, 115]⟩, .string ⟨#[98, 97, 108, 108, 115]⟩, .string ⟨#[110, 101, 97, 114]⟩, .string ⟨#[99, 111, 112, 105, 101, 115]⟩, .string ⟨#[111, 114, 100, 101, 114]⟩, .string ⟨#[99, 105, 114, 99, 108, 101]⟩, .string ⟨#[108, 101, 110, 103, 116, 104]⟩] 9)) ∧ Below w0.heap.size w0 (W.alloc (.cells #[.string ⟨#[99, 111, 117, 110, 116]⟩, .string ⟨#[111, 114, 98, 105, 116]⟩, .string ⟨#[115, 97, 109, 101]⟩, .string ⟨#[109, 111, 118, 101]⟩, .string ⟨#[99, 108, 97, 115, 115, 101, 115]⟩, .string ⟨#[116, 121, 112, 101]⟩, .string ⟨#[112, 101, 98, 98, 108, 101, 115]⟩, .string ⟨#[99, 111, 108, 111, 117, 114, 115]⟩, .string ⟨#[98, 97, 108, 108, 115]⟩, .string ⟨#[110, 101, 97, 114]⟩, .string ⟨#[99, 111, 112, 105, 101, 115]⟩, .string ⟨#[111, 114, 100, 101, 114]⟩, .string ⟨#[99, 105, 114, 99, 108, 101]⟩, .string ⟨#[108, 101, 110, 103, 116, 104]⟩] 9))) := ⟨hD.below hb0, Off.of_below hb0, hB.trans (hb0.mono hB.size)⟩
  have HT := Lib.hid ht
  clear hB hD HA0 hb0 ht
  generalize itoS (k : Int) = t at *
  go_enter Tryz.func70, Tryz.ntmps70
  go_wp2_with fail
  refine (HCO.out _).mono ?_; rintro e w1 ⟨rfl, hw⟩; rw [hw]; clear hw w1
  go_wp2_with fail
  refine (HNO.out _ (HT.out.below HD.out.2.2 (Nat.le_refl _))).mono ?_; rintro e w2 ⟨rfl, hb⟩
  have HD2 : Hid (DeskAt w2 d a ∧ Off (fun x => x = d) W w2 ∧ Below w0.heap.size w0 w2) := ⟨HD.out.1.below hb, HD.out.2.1.trans (Off.of_below (F := fun _ => False) hb) (fun _ h => h.elim), HD.out.2.2.trans (hb.mono HD.out.2.2.size)⟩
  clear hb HD
  go_wp2_with fail
  refine (HA.out _ HD2.out.2.2 HD2.out.1).mono ?_; rintro e w3 ⟨rfl, hd3, ho3⟩
  have HD3 : Hid (DeskAt w3 d a ∧ Off (fun x => x = d) W w3) := ⟨hd3, HD2.out.2.1.trans ho3 (fun _ h => .inl h)⟩
  clear hd3 ho3
  go_wp2_with fail
  go_ret
  exact ⟨rfl, HD3.out⟩
set_option maxHeartbeats 1000000 in
theorem run_move (w0 : World) (ht : Tab w0) (a : DS) (k : Nat) (hk : k ≤ 9) (s : ByteArray) (HA0 : AskedOK w0 ⟨#[109, 111, 118, 101]⟩ k a s) : RunOK w0 (⟨#[109, 111, 118, 101]⟩ ++ ⟨#[32]⟩ ++ itoS (k : Int)) a a s := by
  intro W d hd hB hD
  have hz : (itoS (k : Int)).size = 1 := by rw [itoS_digit hk]; rfl
  have HCU := Lib.hid (fun w => cut_line ⟨#[109, 111, 118, 101]⟩ (itoS (k : Int)) (by decide) (by rw [ByteArray.size_append, ByteArray.size_append, hz]; decide) w)
  have HN := Lib.hid (fun W hB hD => numbered_move w0 ht a k hk s HA0 W d hd hB hD)
  have HD : Hid (DeskAt W d a ∧ Off (fun x => x = d) W W ∧ Below w0.heap.size w0 W) := ⟨hD, Off.of_below (Below.refl _ _), hB⟩
  clear hD hB HA0 hz
  generalize (⟨#[109, 111, 118, 101]⟩ : ByteArray) ++ ⟨#[32]⟩ ++ itoS (k : Int) = line at *
  generalize itoS (k : Int) = t at *
  go_enter Tryz.func33, Tryz.ntmps33
  go_wp2_with fail
  refine (HCU.out _).mono ?_; rintro e w1 ⟨rfl, hb⟩
  have HD1 : Hid (DeskAt w1 d a ∧ Off (fun x => x = d) W w1 ∧ Below w0.heap.size w0 w1) := ⟨HD.out.1.below hb, Off.of_below hb, HD.out.2.2.trans (hb.mono HD.out.2.2.size)⟩
  clear hb HD
  go_wp2_with fail
  refine (HN.out _ HD1.out.2.2 HD1.out.1).mono ?_; rintro e w2 ⟨rfl, hd2, ho2⟩
  have HD2 : Hid (DeskAt w2 d a ∧ Off (fun x => x = d) W w2) := ⟨hd2, HD1.out.2.1.trans ho2 (fun _ h => .inl h)⟩
  clear hd2 ho2
  go_wp2_with fail
  go_ret
  exact ⟨rfl, HD2.out⟩
end Go.Proofs.YthmhjihppbeodaaGreatDoor

namespace Go.Proofs.YthmhjihppbeodaaGreatDoor
open Go.RowKit
set_option linter.unusedVariables false
theorem fmtB_one (z : Int) : fmtB [z] = itoS z := by
  unfold fmtB itoS
  rw [List.map_cons, List.map_nil, Lib.join_one]
theorem fmtB_size (zs : List Int) (h : Fits zs) : (fmtB zs).size ≤ 22 * zs.length := by
  show (Lib.join (zs.map Lib.itoa) [32]).toArray.size ≤ _
  rw [List.size_toArray]
  exact join_size zs h
/-- What FormatNumbers returns. -/
def fmtRes (zs : List Int) : ByteArray := if zs.length = 0 then ⟨#[45]⟩ else fmtB zs
end Go.Proofs.YthmhjihppbeodaaGreatDoor

namespace Go.Proofs.YthmhjihppbeodaaGreatDoor
open Go.RowKit
set_option linter.unusedVariables false
/-- The text of natural numbers. -/
def numsB (L : List Nat) : ByteArray := fmtRes (L.map fun n : Nat => (n : Int))
theorem numsB_one (x : Nat) : numsB [x] = itoS (x : Int) := by
  unfold numsB fmtRes
  rw [if_neg (by simp)]
  exact fmtB_one _
theorem numsB_size (L : List Nat) (hb : ∀ x ∈ L, x ≤ 1000000) : (numsB L).size ≤ 22 * L.length + 1 := by
  unfold numsB fmtRes
  split
  · show 1 ≤ _; omega
  · have h := fmtB_size (L.map fun n : Nat => (n : Int)) (by
      intro z hz
      obtain ⟨x, hx, rfl⟩ := List.mem_map.1 hz
      have := hb x hx
      omega)
    rw [List.length_map] at h
    omega
theorem implFmt_nums (v : Value) (L : List Nat) (w : World) (hv : NumsAt w v L) (hl : L.length ≤ 100) (hb : ∀ x ∈ L, x ≤ 1000000) (ht : Tab w) :
    Calls Tryz.prog 12 #[v] w fun e w' => e = .returned (.string (numsB L)) ∧ Below w.heap.size w w' := by
  obtain ⟨a, cap, rfl, l1, l2, l3⟩ := hv.view
  unfold numsB fmtRes
  by_cases h0 : L.length = 0
  · rw [if_pos (by simpa using h0), h0]
    exact implFmt_zero _ _ w
  · obtain ⟨g, o, rfl, hg, hc⟩ := l3 (by omega)
    have hlm : (L.map fun n : Nat => (n : Int)).length = L.length := List.length_map ..
    rw [if_neg (by rw [hlm]; exact h0)]
    have := implFmt_any g o cap (L.map fun n : Nat => (n : Int)) w (by rw [hlm]; exact h0) (by omega) (by
      intro z hz
      obtain ⟨x, hx, rfl⟩ := List.mem_map.1 hz
      have := hb x hx
      omega) ht (by omega) l2 hg (fun j hj => by
      have hj' : j < L.length := by omega
      rw [hc j hj']
      simp [List.getD_eq_getElem?_getD, hj'])
    rw [hlm] at this
    exact this
end Go.Proofs.YthmhjihppbeodaaGreatDoor

namespace Go.Proofs.YthmhjihppbeodaaGreatDoor
open Go.RowKit
set_option linter.unusedVariables false
set_option maxRecDepth 100000
/-- Whether a text is a formula without free variables that is true, and whether it is such a formula. -/
def hin (f : ByteArray) (a : Gs.St) : Bool × Bool :=
  match readB f with
  | none => (false, false)
  | some φ => if Fm.free φ = 0 then (Fm.holds a φ (fun _ => 0), true) else (false, false)
end Go.Proofs.YthmhjihppbeodaaGreatDoor

namespace Go.Proofs.YthmhjihppbeodaaGreatDoor
open Go.RowKit
set_option linter.unusedVariables false
set_option maxRecDepth 100000
/-- The elements x and y for the first two variables. -/
def env2 (x y : Nat) : Fm.Env := fun i => if i = 0 then x else if i = 1 then y else 0
end Go.Proofs.YthmhjihppbeodaaGreatDoor

/- Contracts of the program's functions and what they compute: part 40. Conditions: those that each theorem states. -/
import Derived.Test.YtfhogenjpepfnaaGreatDoorP51n38
import Derived.Test.YtfhogenjpepfnaaGreatDoorP51n39
namespace Go.Proofs.YtfhogenjpepfnaaGreatDoor
open Go.RowKit
set_option linter.unusedVariables false
set_option maxRecDepth 100000
theorem elemNo_any (n x b : Nat) (w : World) (hx : x < n) (hn : n ≤ 8) (hc : w.cell? ⟨b, 0, none⟩ = some (.int .i64 (n : Int))) : Calls Tryz.prog 125 #[.int .i64 (x : Int), .pointer (some ⟨b, 0, none⟩)] w fun en w' => en = .returned (.bool false) ∧ w = w' := by
  go_enter Tryz.func125, Tryz.ntmps125
  go_wp2_with fail
  go_ret
  exact ⟨ret_bool (by simp; omega), rfl⟩
theorem index_els (n b : Nat) (L : List Nat) (v : Value) (w : World) (hv : NumsAt w v L) (hL : ∀ j, j < L.length → L.getD j 0 < n) (hn : n ≤ 8) (hc : w.cell? ⟨b, 0, none⟩ = some (.int .i64 (n : Int))) :
    Calls Tryz.prog 133 #[v, .func (.func 125) #[] #[.pointer (some ⟨b, 0, none⟩)]] w fun en w' => en = .returned (.int .i64 (-1)) ∧ w = w' := by
  have HN := Lib.hid (fun x hx => elemNo_any n x b w hx hn hc)
  have HL := Lib.hid hL
  obtain ⟨a, cap, rfl, l1, l2, l3⟩ := hv.view
  have HC := Lib.hid l3
  clear l3 hv hL hc
  unfold maxLen at l2
  go_enter Tryz.func133, Tryz.ntmps133
  go_wp2_with fail
  go_loopw [8, 5] (fun i _ wr => (∃ k : Nat, k ≤ L.length ∧ i = .int .i64 (k : Int)) ∧ wr = w) (fun i _ _ => L.length - (intOf i).toNat)
  case atStart => exact ⟨⟨0, by omega, rfl⟩, rfl⟩
  case round =>
    obtain ⟨⟨k, hk, rfl⟩, hwr⟩ := hrel
    rw [hwr]; clear hwr
    by_cases hlt : k < L.length
    · obtain ⟨g, o, rfl, hg, hcc⟩ := HC.out (by omega)
      have d1 := hcc k hlt
      have HX := Lib.hid (HN.out _ (HL.out k hlt))
      clear hcc
      generalize L.getD k 0 = x at *
      have hkI : (k : Int) < (L.length : Int) := by omega
      go_wp2_with fail
      refine HX.out.mono ?_; rintro _ w1 ⟨rfl, hw1⟩; rw [← hw1]; clear hw1
      go_wp2_with fail
      go_roundw
      case rel => exact ⟨⟨k + 1, by omega, by go_num⟩, trivial⟩
      case measure => simp [intOf]; omega
    · go_wp2_with fail
      go_ret
      exact ⟨rfl, rfl⟩
theorem areElements_all (n : Nat) (S R : ByteArray) (L : List Nat) (v : Value) (w : World) (hv : NumsAt w v L) (hL : ∀ j, j < L.length → L.getD j 0 < n) (hn : n ≤ 8) : Calls Tryz.prog 110 #[strV n S R, v] w fun en w' => en = .returned (.bool true) ∧ Below w.heap.size w w' := by
  have HB : Hid (SBlk (boxS w n S R) w.heap.size n S R ∧ Below w.heap.size w (boxS w n S R)) := ⟨boxS_SBlk _ _ _ _, boxS_below _ _ _ _⟩
  have HI := Lib.hid (index_els n w.heap.size L v (boxS w n S R) (hv.below HB.out.2) hL hn HB.out.1.cells.1)
  obtain ⟨a, cap, rfl, l1, l2, l3⟩ := hv.view
  clear l3 hv hL
  unfold boxS at HI HB
  unfold strV
  go_enter Tryz.func110, Tryz.ntmps110
  go_wp2_with fail
  go_enter Tryz.func124, Tryz.ntmps124
  go_wp2_with fail
  refine HI.out.mono ?_; rintro _ _ ⟨rfl, rfl⟩
  go_wp2_with fail
  go_ret
  exact ⟨rfl, HB.out.2⟩
end Go.Proofs.YtfhogenjpepfnaaGreatDoor

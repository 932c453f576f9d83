/- The program's hasElement, InSet, InRel at elements of a valid structure. Conditions: just that. -/
import Derived.Test.YtnhlhjehocngcaaDoorStill
import Derived.Test.YtnhlhjehocngcaaDoorSum
namespace Go.Proofs.YtnhlhjehocngcaaDoor
open Go.RowKit
set_option linter.unusedVariables false
set_option maxRecDepth 100000

theorem hasElement_in (n : Nat) (S R : ByteArray) (x : Nat) (hv : validB n S R = true) (hx : x < n) (w : World) :
    Calls Tryd.prog 25 #[strV n S R, .int .i64 (x : Int)] w fun e w' => e = .returned (.bool true) ∧ Below w.heap.size w w' := by
  obtain ⟨h1, h8, hS, hR, _, _⟩ := valid_is hv
  have HIS : Hid (∀ w, Calls Tryd.prog 29 #[strV n S R] w fun e w' => e = .returned (.bool true) ∧ Below w.heap.size w w') := fun w => by
    have := isStructure_any n S R w (by omega) (by rw [hR]; have := Nat.mul_le_mul h8 h8; omega)
    rw [hv] at this
    exact this
  have HB : Hid (SBlk (boxS w n S R) w.heap.size n S R ∧ Below w.heap.size w (boxS w n S R)) := ⟨boxS_SBlk _ _ _ _, boxS_below _ _ _ _⟩
  unfold boxS at HB
  have hxI : (x : Int) < (n : Int) := by omega
  have hx0 : (0 : Int) ≤ (x : Int) := by omega
  clear hv hS hR
  unfold strV at HIS
  unfold strV
  go_enter Tryd.func25, Tryd.ntmps25
  go_wp2_with fail
  refine (HIS.out _).mono ?_; rintro e w1 ⟨rfl, hb1⟩
  have HB1 := Lib.hid (And.intro (HB.out.1.below hb1 HB.out.1.cells.2.2.2.2.2.2) (HB.out.2.trans (hb1.mono HB.out.2.size)))
  clear hb1
  obtain ⟨s0, s1, s2, _, _, _, hl⟩ := HB1.out.1.cells
  go_wp2_with fail
  go_ret
  exact ⟨ret_bool (by simp), HB1.out.2⟩
end Go.Proofs.YtnhlhjehocngcaaDoor

/- The program's hasElement, InSet, InRel at elements of a valid structure. Conditions: just that. -/
import Derived.Test.YtmabpmkkleelaaaDoorStill
import Derived.Test.YtmabpmkkleelaaaDoorSum
namespace Go.Proofs.YtmabpmkkleelaaaDoor
open Go.RowKit
set_option linter.unusedVariables false
set_option maxRecDepth 100000

theorem hasElement_in (n : Nat) (S R : ByteArray) (x : Nat) (hv : validB n S R = true) (hx : x < n) (w : World) :
    Calls Tryd.prog 122 #[strV n S R, .int .i64 (x : Int)] w fun e w' => e = .returned (.bool true) ∧ Below w.heap.size w w' := by
  obtain ⟨h1, h8, hS, hR, _, _⟩ := valid_is hv
  have HIS : Hid (∀ w, Calls Tryd.prog 77 #[strV n S R] w fun e w' => e = .returned (.bool true) ∧ Below w.heap.size w w') := fun w => by
    have := isStructure_any n S R w (by omega) (by rw [hR]; have := Nat.mul_le_mul h8 h8; omega)
    rw [hv] at this
    exact this
  have HB : Hid (SBlk (boxS w n S R) w.heap.size n S R ∧ Below w.heap.size w (boxS w n S R)) := ⟨boxS_SBlk _ _ _ _, boxS_below _ _ _ _⟩
  unfold boxS at HB
  have hxI : (x : Int) < (n : Int) := by omega
  have hx0 : (0 : Int) ≤ (x : Int) := by omega
  clear hv hS hR
  unfold strV at HIS
  unfold strV
  go_enter Tryd.func122, Tryd.ntmps122
  go_wp2_with fail
  refine (HIS.out _).mono ?_; rintro e w1 ⟨rfl, hb1⟩
  have HB1 := Lib.hid (And.intro (HB.out.1.below hb1 HB.out.1.cells.2.2.2.2.2.2) (HB.out.2.trans (hb1.mono HB.out.2.size)))
  clear hb1
  obtain ⟨s0, s1, s2, _, _, _, hl⟩ := HB1.out.1.cells
  go_wp2_with fail
  go_ret
  exact ⟨ret_bool (by simp), HB1.out.2⟩
theorem InSet_in (n : Nat) (S R : ByteArray) (x : Nat) (hv : validB n S R = true) (hx : x < n) (w : World) :
    Calls Tryd.prog 49 #[strV n S R, .int .i64 (x : Int)] w fun e w' => e = .returned (.bool (oneAt S x)) ∧ Below w.heap.size w w' := by
  obtain ⟨h1, h8, hS, hR, _, _⟩ := valid_is hv
  have HH := Lib.hid (fun w => hasElement_in n S R x hv hx w)
  have HI := Lib.hid (fun w => inSet_b n S R x w (by omega) (by omega))
  have HB : Hid (SBlk (boxS w n S R) w.heap.size n S R ∧ Below w.heap.size w (boxS w n S R)) := ⟨boxS_SBlk _ _ _ _, boxS_below _ _ _ _⟩
  unfold boxS at HB
  generalize oneAt S x = b at *
  clear hv hS hR
  unfold strV at HH HI
  unfold strV
  go_enter Tryd.func49, Tryd.ntmps49
  go_wp2_with fail
  refine (HH.out _).mono ?_; rintro e w1 ⟨rfl, hb1⟩
  have HB1 := Lib.hid (And.intro (HB.out.1.below hb1 HB.out.1.cells.2.2.2.2.2.2) (HB.out.2.trans (hb1.mono HB.out.2.size)))
  clear hb1
  obtain ⟨s0, s1, s2, _, _, _, hl⟩ := HB1.out.1.cells
  go_wp2_with fail
  refine (HI.out _).mono ?_; rintro e w2 ⟨rfl, hb2⟩
  have HB2 := Lib.hid (HB1.out.2.trans (hb2.mono HB1.out.2.size))
  clear hb2
  go_wp2_with fail
  go_ret
  exact ⟨ret_bool (by simp), HB2.out⟩
theorem InRel_in (n : Nat) (S R : ByteArray) (x y : Nat) (hv : validB n S R = true) (hx : x < n) (hy : y < n) (w : World) :
    Calls Tryd.prog 50 #[strV n S R, .int .i64 (x : Int), .int .i64 (y : Int)] w fun e w' => e = .returned (.bool (relAt n R x y)) ∧ Below w.heap.size w w' := by
  obtain ⟨h1, h8, hS, hR, _, _⟩ := valid_is hv
  have HH := Lib.hid (fun w => hasElement_in n S R x hv hx w)
  have HH2 := Lib.hid (fun w => hasElement_in n S R y hv hy w)
  have HI := Lib.hid (fun w => inRel_b n S R x y w hx hy h8 hR)
  have HB : Hid (SBlk (boxS w n S R) w.heap.size n S R ∧ Below w.heap.size w (boxS w n S R)) := ⟨boxS_SBlk _ _ _ _, boxS_below _ _ _ _⟩
  unfold boxS at HB
  generalize relAt n R x y = b at *
  clear hv hS hR
  unfold strV at HH HH2 HI
  unfold strV
  go_enter Tryd.func50, Tryd.ntmps50
  go_wp2_with fail
  refine (HH.out _).mono ?_; rintro e w1 ⟨rfl, hb1⟩
  have HB1 := Lib.hid (And.intro (HB.out.1.below hb1 HB.out.1.cells.2.2.2.2.2.2) (HB.out.2.trans (hb1.mono HB.out.2.size)))
  clear hb1
  obtain ⟨s0, s1, s2, _, _, _, hl⟩ := HB1.out.1.cells
  go_wp2_with fail
  refine (HH2.out _).mono ?_; rintro e w2 ⟨rfl, hb2⟩
  have HB2 := Lib.hid (And.intro (HB1.out.1.below hb2 HB1.out.1.cells.2.2.2.2.2.2) (HB1.out.2.trans (hb2.mono HB1.out.2.size)))
  clear hb2 s0 s1 s2 hl
  obtain ⟨s0, s1, s2, _, _, _, hl⟩ := HB2.out.1.cells
  go_wp2_with fail
  refine (HI.out _).mono ?_; rintro e w3 ⟨rfl, hb3⟩
  have HB3 := Lib.hid (HB2.out.2.trans (hb3.mono HB2.out.2.size))
  clear hb3
  go_wp2_with fail
  go_ret
  exact ⟨ret_bool (by simp), HB3.out⟩
end Go.Proofs.YtmabpmkkleelaaaDoor

/- The walk of the law FnExactWordOf: both answer alike. Condition: the texts' lengths fit an integer. -/
import Derived.Test.YtmabpmkkleelaaaDoorWdOfS
import Derived.Test.YtmabpmkkleelaaaDoorLawS
namespace Go.Proofs.YtmabpmkkleelaaaDoor
open Go.RowKit
set_option linter.unusedVariables false
set_option maxRecDepth 100000

theorem woV_form (o : Option ByteArray) : ∃ s b, woV o = .tuple #[.string s, .bool b] := by
  cases o with
  | none => exact ⟨_, _, rfl⟩
  | some s => exact ⟨_, _, rfl⟩
set_option maxHeartbeats 1000000 in
theorem fnExactWordOf_walk (n : Int) (S R : ByteArray) (w : World) (_w0 : (Lit.int .i64 n).wf = true) (hS : S.size ≤ maxLen) (hR : R.size ≤ maxLen) :
    Calls Tryd.prog 8 #[.agg #[.int .i64 n, .string S, .string R]] w fun e w' => e = .returned (.bool true) ∧ Below w.heap.size w w' := by
  unfold maxLen at hS hR
  obtain ⟨s, b, hform⟩ := woV_form (woB n S R)
  have h1 := fun w => specWordOf_any n S R (by omega) (by omega) w
  have h2 := fun w => implWordOf_any n S R (by omega) (by omega) w
  rw [hform] at h1 h2
  have H1 := Lib.hid h1
  have H2 := Lib.hid h2
  clear h1 h2 hform
  have HSZ := Lib.hid (fun w => szStructure_any n S R w (by omega) (by omega))
  have HTO := Lib.hid (fun w => toStructure_any n S R w)
  have HL0 := Lib.hid (LBlk.new w n S R)
  have HB0 := Lib.hid (below_box w n S R)
  obtain ⟨s0, s1, s2, hl⟩ := HL0.out.cells
  unfold strV at HSZ HTO H1 H2
  by_cases z3 : (S.size : Int) + (R.size : Int) ≤ 1048576
  · have HZ3 := Lib.hid (show (0 : Int) ≤ 1048576 - ((S.size : Int) + (R.size : Int)) by omega)
    rw [if_pos z3] at HSZ
    obtain ⟨left, hleft⟩ : ∃ l : Int, 1048576 - ((S.size : Int) + (R.size : Int)) = l := ⟨_, rfl⟩
    rw [hleft] at HSZ HZ3
    have hl0 : ¬ left < 0 := by have := HZ3.out; omega
    clear hleft z3 hS hR
    go_enter Tryd.func8, Tryd.ntmps8
    go_wp2_with fail
    refine (HSZ.out _).mono ?_; rintro _ w1 ⟨rfl, hb⟩
    have HL1 := Lib.hid (HL0.out.below hb HL0.out.cells.2.2.2)
    have HB1 := Lib.hid (HB0.out.trans (hb.mono HB0.out.size))
    clear hb s0 s1 s2 hl
    obtain ⟨s0, s1, s2, hl⟩ := HL1.out.cells
    go_wp2_with fail
    refine (HTO.out _).mono ?_; rintro _ w2 ⟨rfl, hb⟩
    have HL2 := Lib.hid (HL1.out.below hb HL1.out.cells.2.2.2)
    have HB2 := Lib.hid (HB1.out.trans (hb.mono HB1.out.size))
    clear hb s0 s1 s2 hl
    go_wp2_with fail
    refine (H1.out _).mono ?_; rintro _ w3 ⟨rfl, hb⟩
    have HL3 := Lib.hid (HL2.out.below hb HL2.out.cells.2.2.2)
    have HB3 := Lib.hid (HB2.out.trans (hb.mono HB2.out.size))
    clear hb
    obtain ⟨s0, s1, s2, hl⟩ := HL3.out.cells
    go_wp2_with fail
    refine (HTO.out _).mono ?_; rintro _ w4 ⟨rfl, hb⟩
    have HB4 := Lib.hid (HB3.out.trans (hb.mono HB3.out.size))
    clear hb s0 s1 s2 hl
    go_wp2_with fail
    refine (H2.out _).mono ?_; rintro _ w5 ⟨rfl, hb⟩
    have HB5 := Lib.hid (HB4.out.trans (hb.mono HB4.out.size))
    clear hb
    cases b
    all_goals
      go_wp2_with fail
      go_ret
      exact ⟨rfl, HB5.out⟩
  · rw [if_neg z3] at HSZ
    clear z3 hS hR
    go_enter Tryd.func8, Tryd.ntmps8
    go_wp2_with fail
    refine (HSZ.out _).mono ?_; rintro _ w1 ⟨rfl, hb⟩
    have HB1 := Lib.hid (HB0.out.trans (hb.mono HB0.out.size))
    clear hb s0 s1 s2 hl
    go_wp2_with fail
    go_ret
    exact ⟨rfl, HB1.out⟩
end Go.Proofs.YtmabpmkkleelaaaDoor

/- Contracts of the program's functions and what they compute: part 40. Conditions: those that each theorem states. -/
import Derived.Test.YtdcnpjekmnlgjaaGreatDoorP56n7
import Derived.Test.YtdcnpjekmnlgjaaGreatDoorP56n26
import Derived.Test.YtdcnpjekmnlgjaaGreatDoorP56n27
import Derived.Test.YtdcnpjekmnlgjaaGreatDoorP56n39
namespace Go.Proofs.YtdcnpjekmnlgjaaGreatDoor
open Go.RowKit
set_option linter.unusedVariables false
set_option maxRecDepth 100000
theorem view_no {f g : ByteArray} (h : viewB f g = none) : okV f 2 = false ∨ okV g 4 = false := by
  unfold viewB at h
  cases hf : readB f with
  | none => exact .inl (okV_none hf)
  | some φ' =>
    cases hg : readB g with
    | none => exact .inr (okV_none hg)
    | some ψ' =>
      rw [hf, hg] at h
      simp only at h
      by_cases hz : Fm.free φ' / 2 = 0 ∧ Fm.free ψ' / 4 = 0
      · rw [if_pos hz] at h; cases h
      · by_cases h1 : Fm.free φ' / 2 = 0
        · exact .inr (by rw [okV_some hg, decide_eq_false_iff_not]; exact fun h2 => hz ⟨h1, h2⟩)
        · exact .inl (by rw [okV_some hf, decide_eq_false_iff_not]; exact h1)
/-- The reference's Interpret, where it is not answered. -/
theorem specInterpret_no (f g : ByteArray) (hf : f.size ≤ 9223372036854775807) (hg : g.size ≤ 9223372036854775807) (n : Int) (S R : ByteArray) (hS : S.size ≤ 9223372036854775807) (hR : R.size ≤ 9223372036854775807) (hno : validB n S R = false ∨ okV f 2 = false ∨ okV g 4 = false) (w : World) :
    Calls Tryz.prog 6 #[strV n S R, .string f, .string g] w fun en w' => en = .returned (.tuple #[strV 0 ByteArray.empty ByteArray.empty, .bool false]) ∧ Below w.heap.size w w' := by
  have HSV := Lib.hid (fun w => specValid_any n S R w hS hR)
  have HV1 := Lib.hid (fun w => l11View_1 f hf w)
  have HV2 := Lib.hid (fun w => l11View_2 g hg w)
  have HB := Lib.hid (BoxR.first w n S R)
  unfold boxS at HB
  obtain ⟨W, hW⟩ : ∃ W, (w.alloc (.cells #[.int .i64 n, .string S, .string R] 24)).alloc (.cells #[.int .i64 0, .string ⟨#[]⟩, .string ⟨#[]⟩] 24) = W := ⟨_, rfl⟩
  replace HB : Hid (BoxR w W n S R) := by rw [← hW]; exact HB.out
  have HW := Lib.hid hW
  clear hW
  unfold strV at HSV
  unfold strV
  obtain ⟨s0, s1, s2, _, _, _, hl⟩ := HB.out.a.cells
  generalize validB n S R = b1 at *
  generalize okV f 2 = b2 at *
  generalize okV g 4 = b3 at *
  cases b1
  · clear hno
    go_enter Tryz.func6, Tryz.ntmps6
    go_upto_region 1 with fail
    rw [HW.out]
    go_wp2_with fail
    refine (HSV.out _).mono ?_; rintro _ w3 ⟨rfl, hb3⟩
    have HB3 := Lib.hid (HB.out.below hb3)
    clear hb3 s0 s1 s2 hl
    obtain ⟨d0, d1, d2, g0, g1, g2, hl⟩ := HB3.out.res.cells
    go_wp2_with fail
    refine bodyPost_ret (v := .tuple #[strV 0 ByteArray.empty ByteArray.empty, .bool false]) ?_ rfl ⟨rfl, ?_⟩
    · exact results_str2 rfl rfl HB3.out.res.set3 rfl
    · exact HB3.out.fin _ _ _
  · cases b2
    · clear hno
      go_enter Tryz.func6, Tryz.ntmps6
      go_upto_region 1 with fail
      rw [HW.out]
      go_wp2_with fail
      refine (HSV.out _).mono ?_; rintro _ w3 ⟨rfl, hb3⟩
      have HB3 := Lib.hid (HB.out.below hb3)
      clear hb3 s0 s1 s2 hl
      obtain ⟨d0, d1, d2, g0, g1, g2, hl⟩ := HB3.out.res.cells
      go_wp2_with fail
      refine (HV1.out _).mono ?_; rintro _ wv ⟨rfl, hwv⟩; rw [hwv]; clear hwv wv
      go_wp2_with fail
      refine bodyPost_ret (v := .tuple #[strV 0 ByteArray.empty ByteArray.empty, .bool false]) ?_ rfl ⟨rfl, ?_⟩
      · exact results_str2 rfl rfl HB3.out.res.set3 rfl
      · exact HB3.out.fin _ _ _
    · have hb3 : b3 = false := by
        rcases hno with h | h | h
        · cases h
        · cases h
        · exact h
      subst hb3
      clear hno
      go_enter Tryz.func6, Tryz.ntmps6
      go_upto_region 1 with fail
      rw [HW.out]
      go_wp2_with fail
      refine (HSV.out _).mono ?_; rintro _ w3 ⟨rfl, hb3⟩
      have HB3 := Lib.hid (HB.out.below hb3)
      clear hb3 s0 s1 s2 hl
      obtain ⟨d0, d1, d2, g0, g1, g2, hl⟩ := HB3.out.res.cells
      go_wp2_with fail
      refine (HV1.out _).mono ?_; rintro _ wv ⟨rfl, hwv⟩; rw [hwv]; clear hwv wv
      go_wp2_with fail
      refine (HV2.out _).mono ?_; rintro _ wv ⟨rfl, hwv⟩; rw [hwv]; clear hwv wv
      go_wp2_with fail
      refine bodyPost_ret (v := .tuple #[strV 0 ByteArray.empty ByteArray.empty, .bool false]) ?_ rfl ⟨rfl, ?_⟩
      · exact results_str2 rfl rfl HB3.out.res.set3 rfl
      · exact HB3.out.fin _ _ _
end Go.Proofs.YtdcnpjekmnlgjaaGreatDoor

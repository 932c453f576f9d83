/- The law FnExactInterpret: both answer alike. Conditions: the texts' lengths fit an integer. -/
import Derived.Test.YtadgiknnejjplaaDoorInterp2
import Derived.Test.YtadgiknnejjplaaDoorInterpS2
import Derived.Test.YtadgiknnejjplaaDoorLawS
import Derived.Test.YtadgiknnejjplaaDoorCircle
namespace Go.Proofs.YtadgiknnejjplaaDoor
open Go.RowKit
set_option linter.unusedVariables false
set_option maxRecDepth 100000

theorem view_ok {f g : ByteArray} {φ ψ : Fm.T} (h : viewB f g = some (φ, ψ)) : readB f = some φ ∧ readB g = some ψ ∧ okV f 2 = true ∧ okV g 4 = true := by
  unfold viewB at h
  cases hf : readB f with
  | none => rw [hf] at h; cases h
  | some φ' =>
    cases hg : readB g with
    | none => rw [hf, hg] at h; cases h
    | some ψ' =>
      rw [hf, hg] at h
      simp only at h
      by_cases hz : Fm.free φ' / 2 = 0 ∧ Fm.free ψ' / 4 = 0
      · rw [if_pos hz] at h
        injection h with h
        injection h with h1 h2
        subst h1; subst h2
        exact ⟨rfl, rfl, by rw [okV_some hf, decide_eq_true_iff]; exact hz.1, by rw [okV_some hg, decide_eq_true_iff]; exact hz.2⟩
      · rw [if_neg hz] at h; cases h
theorem view_no {f g : ByteArray} (h : viewB f g = none) : okV f 2 = false ∨ okV g 4 = false := by
  unfold viewB at h
  cases hf : readB f with
  | none => exact .inl (okV_none hf)
  | some φ' =>
    cases hg : readB g with
    | none => exact .inr (okV_none hg)
    | some ψ' =>
      rw [hf, hg] at h
      simp only at h
      by_cases hz : Fm.free φ' / 2 = 0 ∧ Fm.free ψ' / 4 = 0
      · rw [if_pos hz] at h; cases h
      · by_cases h1 : Fm.free φ' / 2 = 0
        · exact .inr (by rw [okV_some hg, decide_eq_false_iff_not]; exact fun h2 => hz ⟨h1, h2⟩)
        · exact .inl (by rw [okV_some hf, decide_eq_false_iff_not]; exact h1)
/-- The reference's Interpret, where it is not answered. -/
theorem specInterpret_no (f g : ByteArray) (hf : f.size ≤ 9223372036854775807) (hg : g.size ≤ 9223372036854775807) (n : Int) (S R : ByteArray) (hS : S.size ≤ 9223372036854775807) (hR : R.size ≤ 9223372036854775807) (hno : validB n S R = false ∨ okV f 2 = false ∨ okV g 4 = false) (w : World) :
    Calls Tryd.prog 14 #[strV n S R, .string f, .string g] w fun en w' => en = .returned (.tuple #[strV 0 ByteArray.empty ByteArray.empty, .bool false]) ∧ Below w.heap.size w w' := by
  have HSV := Lib.hid (fun w => specValid_any n S R w hS hR)
  have HV1 := Lib.hid (fun w => l11View_1 f hf w)
  have HV2 := Lib.hid (fun w => l11View_2 g hg w)
  have HB := Lib.hid (BoxR.first w n S R)
  unfold boxS at HB
  obtain ⟨W, hW⟩ : ∃ W, (w.alloc (.cells #[.int .i64 n, .string S, .string R] 25)).alloc (.cells #[.int .i64 0, .string ⟨#[]⟩, .string ⟨#[]⟩] 25) = W := ⟨_, rfl⟩
  replace HB : Hid (BoxR w W n S R) := by rw [← hW]; exact HB.out
  have HW := Lib.hid hW
  clear hW
  unfold strV at HSV
  unfold strV
  obtain ⟨s0, s1, s2, _, _, _, hl⟩ := HB.out.a.cells
  generalize validB n S R = b1 at *
  generalize okV f 2 = b2 at *
  generalize okV g 4 = b3 at *
  cases b1
  · clear hno
    go_enter Tryd.func14, Tryd.ntmps14
    go_upto_region 1 with fail
    rw [HW.out]
    go_wp2_with fail
    refine (HSV.out _).mono ?_; rintro _ w3 ⟨rfl, hb3⟩
    have HB3 := Lib.hid (HB.out.below hb3)
    clear hb3 s0 s1 s2 hl
    obtain ⟨d0, d1, d2, g0, g1, g2, hl⟩ := HB3.out.res.cells
    go_wp2_with fail
    refine bodyPost_ret (v := .tuple #[strV 0 ByteArray.empty ByteArray.empty, .bool false]) ?_ rfl ⟨rfl, ?_⟩
    · exact results_str2 rfl rfl HB3.out.res.set3 rfl
    · exact HB3.out.fin _ _ _
  · cases b2
    · clear hno
      go_enter Tryd.func14, Tryd.ntmps14
      go_upto_region 1 with fail
      rw [HW.out]
      go_wp2_with fail
      refine (HSV.out _).mono ?_; rintro _ w3 ⟨rfl, hb3⟩
      have HB3 := Lib.hid (HB.out.below hb3)
      clear hb3 s0 s1 s2 hl
      obtain ⟨d0, d1, d2, g0, g1, g2, hl⟩ := HB3.out.res.cells
      go_wp2_with fail
      refine (HV1.out _).mono ?_; rintro _ wv ⟨rfl, hwv⟩; rw [hwv]; clear hwv wv
      go_wp2_with fail
      refine bodyPost_ret (v := .tuple #[strV 0 ByteArray.empty ByteArray.empty, .bool false]) ?_ rfl ⟨rfl, ?_⟩
      · exact results_str2 rfl rfl HB3.out.res.set3 rfl
      · exact HB3.out.fin _ _ _
    · have hb3 : b3 = false := by
        rcases hno with h | h | h
        · cases h
        · cases h
        · exact h
      subst hb3
      clear hno
      go_enter Tryd.func14, Tryd.ntmps14
      go_upto_region 1 with fail
      rw [HW.out]
      go_wp2_with fail
      refine (HSV.out _).mono ?_; rintro _ w3 ⟨rfl, hb3⟩
      have HB3 := Lib.hid (HB.out.below hb3)
      clear hb3 s0 s1 s2 hl
      obtain ⟨d0, d1, d2, g0, g1, g2, hl⟩ := HB3.out.res.cells
      go_wp2_with fail
      refine (HV1.out _).mono ?_; rintro _ wv ⟨rfl, hwv⟩; rw [hwv]; clear hwv wv
      go_wp2_with fail
      refine (HV2.out _).mono ?_; rintro _ wv ⟨rfl, hwv⟩; rw [hwv]; clear hwv wv
      go_wp2_with fail
      refine bodyPost_ret (v := .tuple #[strV 0 ByteArray.empty ByteArray.empty, .bool false]) ?_ rfl ⟨rfl, ?_⟩
      · exact results_str2 rfl rfl HB3.out.res.set3 rfl
      · exact HB3.out.fin _ _ _
/-- Both answer alike. -/
theorem interpret_both (f g : ByteArray) (hf : f.size ≤ 9223372036854775807) (hg : g.size ≤ 9223372036854775807) (n : Int) (S R : ByteArray) (hS : S.size ≤ 9223372036854775807) (hR : R.size ≤ 9223372036854775807) :
    ∃ N T U b, (∀ w, Calls Tryd.prog 14 #[strV n S R, .string f, .string g] w fun en w' => en = .returned (.tuple #[strV N T U, .bool b]) ∧ Below w.heap.size w w') ∧
      ∀ w, Calls Tryd.prog 16 #[strV n S R, .string f, .string g] w fun en w' => en = .returned (.tuple #[strV N T U, .bool b]) ∧ Below w.heap.size w w' := by
  cases hv : validB n S R
  · exact ⟨0, _, _, false, fun w => specInterpret_no f g hf hg n S R hS hR (.inl hv) w, fun w => implInterpret_no f g hf hg n S R hS hR hv w⟩
  · obtain ⟨m, rfl⟩ : ∃ m : Nat, n = m := by
      simp only [validB, Bool.and_eq_true, inB_iff] at hv
      exact Int.eq_ofNat_of_zero_le (by omega)
    cases hr : viewB f g with
    | none =>
      refine ⟨0, _, _, false, fun w => specInterpret_no f g hf hg m S R hS hR (.inr (view_no hr)) w, fun w => ?_⟩
      have := implInterpret_yes f g hf hg m S R hv w
      rw [intRes_none hr] at this
      exact this
    | some p =>
      obtain ⟨φ, ψ⟩ := p
      obtain ⟨r1, r2, o1, o2⟩ := view_ok hr
      refine ⟨_, _, _, true, fun w => specInterpret_yes f g m S R hv φ ψ r1 r2 o1 o2 w, fun w => ?_⟩
      have := implInterpret_yes f g hf hg m S R hv w
      rw [intRes_some hr] at this
      exact this
set_option maxHeartbeats 1000000 in
theorem fnExactInterpret_walk (n : Int) (S R f g : ByteArray) (w : World) (_w0 : (Lit.int .i64 n).wf = true) (hS : S.size ≤ maxLen) (hR : R.size ≤ maxLen) (hf : f.size ≤ maxLen) (hg : g.size ≤ maxLen) :
    Calls Tryd.prog 3 #[.agg #[.int .i64 n, .string S, .string R], .string f, .string g] w fun e w' => e = .returned (.bool true) ∧ Below w.heap.size w w' := by
  unfold maxLen at hf hg hS hR
  obtain ⟨N, T, U, b, h1, h2⟩ := interpret_both f g (by omega) (by omega) n S R (by omega) (by omega)
  have H1 := Lib.hid h1
  have H2 := Lib.hid h2
  clear h1 h2
  have HSZ := Lib.hid (fun w => szStructure_any n S R w (by omega) (by omega))
  have HTO := Lib.hid (fun w => toStructure_any n S R w)
  have HL0 := Lib.hid (LBlk.new w n S R)
  have HB0 := Lib.hid (below_box w n S R)
  by_cases z1 : 1048576 < f.size
  · go_enter Tryd.func3, Tryd.ntmps3
    go_wp2_with fail
    go_ret
    exact ⟨rfl, HB0.out⟩
  by_cases z2 : 1048576 < g.size
  · go_enter Tryd.func3, Tryd.ntmps3
    go_wp2_with fail
    go_ret
    exact ⟨rfl, HB0.out⟩
  obtain ⟨s0, s1, s2, hl⟩ := HL0.out.cells
  unfold strV at HSZ HTO H1 H2
  by_cases z3 : (S.size : Int) + (R.size : Int) ≤ 1048576
  · have HZ3 := Lib.hid (show (0 : Int) ≤ 1048576 - ((S.size : Int) + (R.size : Int)) by omega)
    rw [if_pos z3] at HSZ
    obtain ⟨left, hleft⟩ : ∃ l : Int, 1048576 - ((S.size : Int) + (R.size : Int)) = l := ⟨_, rfl⟩
    rw [hleft] at HSZ HZ3
    have hl0 : ¬ left < 0 := by have := HZ3.out; omega
    clear hleft z3 hS hR
    go_enter Tryd.func3, Tryd.ntmps3
    go_wp2_with fail
    refine (HSZ.out _).mono ?_; rintro _ w1 ⟨rfl, hb⟩
    have HL1 := Lib.hid (HL0.out.below hb HL0.out.cells.2.2.2)
    have HB1 := Lib.hid (HB0.out.trans (hb.mono HB0.out.size))
    clear hb s0 s1 s2 hl
    obtain ⟨s0, s1, s2, hl⟩ := HL1.out.cells
    go_wp2_with fail
    refine (HTO.out _).mono ?_; rintro _ w2 ⟨rfl, hb⟩
    have HL2 := Lib.hid (HL1.out.below hb HL1.out.cells.2.2.2)
    have HB2 := Lib.hid (HB1.out.trans (hb.mono HB1.out.size))
    clear hb s0 s1 s2 hl
    go_wp2_with fail
    refine (H1.out _).mono ?_; rintro _ w3 ⟨rfl, hb⟩
    have HL3 := Lib.hid (HL2.out.below hb HL2.out.cells.2.2.2)
    have HB3 := Lib.hid (HB2.out.trans (hb.mono HB2.out.size))
    clear hb
    have hal : Below w3.heap.size w3 (w3.alloc (.cells #[.int .i64 N, .string T, .string U] 25)) := (Below.refl _ _).alloc (Nat.le_refl _) _
    have HS4 := Lib.hid (SBlk.new w3 N T U)
    have HL4 := Lib.hid (HL3.out.below hal HL3.out.cells.2.2.2)
    have HB4 := Lib.hid (HB3.out.trans (hal.mono HB3.out.size))
    clear hal
    obtain ⟨s0, s1, s2, hl⟩ := HL4.out.cells
    go_wp2_with fail
    refine (HTO.out _).mono ?_; rintro _ w5 ⟨rfl, hb⟩
    have HS5 := Lib.hid (HS4.out.below hb HS4.out.cells.2.2.2.2.2.2)
    have HB5 := Lib.hid (HB4.out.trans (hb.mono HB4.out.size))
    clear hb s0 s1 s2 hl
    go_wp2_with fail
    refine (H2.out _).mono ?_; rintro _ w6 ⟨rfl, hb⟩
    have HS6 := Lib.hid (HS5.out.below hb HS5.out.cells.2.2.2.2.2.2)
    have HB6 := Lib.hid (HB5.out.trans (hb.mono HB5.out.size))
    clear hb
    have hal : Below w6.heap.size w6 (w6.alloc (.cells #[.int .i64 N, .string T, .string U] 25)) := (Below.refl _ _).alloc (Nat.le_refl _) _
    have HS7 := Lib.hid (HS6.out.below hal HS6.out.cells.2.2.2.2.2.2)
    have HB7 := Lib.hid (HB6.out.trans (hal.mono HB6.out.size))
    clear hal
    obtain ⟨s0, s1, s2, _, _, _, hl⟩ := HS7.out.cells
    go_wp2_with fail
    refine (eqStructure_same N T U _).mono ?_; rintro e w8 ⟨rfl, hb⟩
    have HB8 := Lib.hid (HB7.out.trans (hb.mono HB7.out.size))
    clear hb s0 s1 s2 hl
    cases b
    all_goals
      go_wp2_with fail
      go_ret
      exact ⟨rfl, HB8.out⟩
  · rw [if_neg z3] at HSZ
    clear z3 hS hR
    go_enter Tryd.func3, Tryd.ntmps3
    go_wp2_with fail
    refine (HSZ.out _).mono ?_; rintro _ w1 ⟨rfl, hb⟩
    have HB1 := Lib.hid (HB0.out.trans (hb.mono HB0.out.size))
    clear hb s0 s1 s2 hl
    go_wp2_with fail
    go_ret
    exact ⟨rfl, HB1.out⟩
end Go.Proofs.YtadgiknnejjplaaDoor

/- The reference's PartOf and PartWhere; the law FnExactPartWhere: both answer alike. Conditions: the texts' lengths fit an integer. -/
import Derived.Test.YtmabpmkkleelaaaDoorPartS
import Derived.Test.YtmabpmkkleelaaaDoorLawS
namespace Go.Proofs.YtmabpmkkleelaaaDoor
open Go.RowKit
set_option linter.unusedVariables false
set_option maxRecDepth 100000

theorem specPartOf_any (n : Nat) (S R : ByteArray) (L : List Nat) (v : Value) (w : World) (hval : validB n S R = true) (hL8 : L.length ≤ 8) (hL : ∀ j, j < L.length → L.getD j 0 < n) (hd : L.Nodup) (hv : NumsAt w v L) :
    Calls Tryd.prog 89 #[strV n S R, v] w fun en w' => en = .returned (if L.length = 0 then .tuple #[strV 0 ByteArray.empty ByteArray.empty, .bool false] else .tuple #[partV n S R L, .bool true]) ∧ Below w.heap.size w w' := by
  obtain ⟨v1, v8, vS, vR, _, _⟩ := valid_is hval
  have HEL := Lib.hid (fun w hv => l1Elements_any n S R L v w hval hL hd hv)
  have HPT := Lib.hid (fun w hv => l1Part_any n S R L v w v8 vS vR hL8 hL hv)
  have HB := Lib.hid (BoxR.first w n S R)
  unfold boxS at HB
  obtain ⟨W, hW⟩ : ∃ W, (w.alloc (.cells #[.int .i64 (n : Int), .string S, .string R] 28)).alloc (.cells #[.int .i64 0, .string ⟨#[]⟩, .string ⟨#[]⟩] 28) = W := ⟨_, rfl⟩
  replace HB : Hid (BoxR w W n S R) := by rw [← hW]; exact HB.out
  have HW := Lib.hid hW
  clear hW
  have HNV := Lib.hid (hv.below HB.out.old)
  unfold partV at HPT ⊢
  clear hval hL hd hv
  obtain ⟨TS, hA⟩ : ∃ T, bitsOf (fun x => oneAt S (L.getD x 0)) L.length = T := ⟨_, rfl⟩
  obtain ⟨TR, hG⟩ : ∃ T, gridOf (fun x y => relAt n R (L.getD x 0) (L.getD y 0)) L.length = T := ⟨_, rfl⟩
  rw [hA, hG] at HPT ⊢
  clear hA hG
  obtain ⟨s0, s1, s2, _, _, _, hl⟩ := HB.out.a.cells
  by_cases h0 : L.length = 0
  · rw [if_pos h0]
    have h0D : decide (0 < L.length) = false := by rw [decide_eq_false_iff_not]; omega
    rw [h0D] at HEL
    unfold strV at HEL
    unfold strV
    clear h0D h0
    go_enter Tryd.func89, Tryd.ntmps89
    go_upto_region 1 with fail
    rw [HW.out]
    go_wp2_with fail
    refine (HEL.out _ HNV.out).mono ?_; rintro en w1 ⟨rfl, hb1⟩
    have HB1 := Lib.hid (HB.out.below hb1)
    clear hb1 s0 s1 s2 hl
    obtain ⟨d0, d1, d2, g0, g1, g2, hl⟩ := HB1.out.res.cells
    go_wp2_with fail
    refine bodyPost_ret (v := .tuple #[strV 0 ByteArray.empty ByteArray.empty, .bool false]) ?_ rfl ⟨rfl, ?_⟩
    · exact results_str2 rfl rfl HB1.out.res.set3 rfl
    · exact HB1.out.fin _ _ _
  · rw [if_neg h0]
    have h0D : decide (0 < L.length) = true := by rw [decide_eq_true_iff]; omega
    rw [h0D] at HEL
    unfold strV at HEL HPT
    unfold strV
    clear h0D h0
    go_enter Tryd.func89, Tryd.ntmps89
    go_upto_region 1 with fail
    rw [HW.out]
    go_wp2_with fail
    refine (HEL.out _ HNV.out).mono ?_; rintro en w1 ⟨rfl, hb1⟩
    have HB1 := Lib.hid (HB.out.below hb1)
    have HNV1 := Lib.hid (HNV.out.below hb1)
    clear hb1 s0 s1 s2 hl
    obtain ⟨s0, s1, s2, _, _, _, hl⟩ := HB1.out.a.cells
    go_wp2_with fail
    refine (HPT.out _ HNV1.out).mono ?_; rintro en w2 ⟨rfl, hb2⟩
    have HB2 := Lib.hid (HB1.out.below hb2)
    clear hb2 s0 s1 s2 hl
    obtain ⟨d0, d1, d2, g0, g1, g2, hl⟩ := HB2.out.res.cells
    go_wp2_with fail
    refine bodyPost_ret (v := .tuple #[strV L.length TS TR, .bool true]) ?_ rfl ⟨rfl, ?_⟩
    · exact results_str2 rfl rfl HB2.out.res.set3 rfl
    · exact HB2.out.fin _ _ _
set_option maxHeartbeats 1000000 in
theorem specPartWhere_any (f : ByteArray) (hf : f.size ≤ 9223372036854775807) (n : Int) (S R : ByteArray) (hS : S.size ≤ 9223372036854775807) (hR : R.size ≤ 9223372036854775807) (w : World) :
    Calls Tryd.prog 26 #[strV n S R, .string f] w fun en w' => en = .returned (pwRes f n S R) ∧ Below w.heap.size w w' := by
  have HDF := Lib.hid (fun w => specDefined_any f hf n S R hS hR w)
  have HB := Lib.hid (BoxR.first w n S R)
  unfold boxS at HB
  obtain ⟨W, hW⟩ : ∃ W, (w.alloc (.cells #[.int .i64 n, .string S, .string R] 28)).alloc (.cells #[.int .i64 0, .string ⟨#[]⟩, .string ⟨#[]⟩] 28) = W := ⟨_, rfl⟩
  replace HB : Hid (BoxR w W n S R) := by rw [← hW]; exact HB.out
  have HW := Lib.hid hW
  clear hW
  obtain ⟨s0, s1, s2, _, _, _, hl⟩ := HB.out.a.cells
  obtain ⟨RES, hres⟩ : ∃ r, pwRes f n S R = r := ⟨_, rfl⟩
  rw [hres]
  unfold strV at HDF
  unfold strV
  go_enter Tryd.func26, Tryd.ntmps26
  go_upto_region 1 with fail
  rw [HW.out]
  go_wp2_with fail
  refine (HDF.out _).mono ?_; rintro en w1 ⟨hb1, hor⟩
  have HB1 := Lib.hid (HB.out.below hb1)
  clear hb1 s0 s1 s2 hl
  rcases hor with ⟨hd, v, rfl, hv⟩ | ⟨v, L, hd, rfl, hv⟩
  · have HV := Lib.hid (hres.symm.trans (pwRes_none hd))
    clear hd hres hv
    obtain ⟨d0, d1, d2, g0, g1, g2, hl⟩ := HB1.out.res.cells
    go_wp2_with fail
    refine bodyPost_ret (v := .tuple #[strV 0 ByteArray.empty ByteArray.empty, .bool false]) ?_ rfl ⟨by rw [HV.out], ?_⟩
    · exact results_str2 rfl rfl HB1.out.res.set3 rfl
    · exact HB1.out.fin _ _ _
  · have HV := Lib.hid (hres.symm.trans (pwRes_some hd))
    obtain ⟨N, T, U, b, hform⟩ := pwRes_form f n S R
    obtain ⟨m, rfl, hval, hL8, hLm, hLd⟩ := defSet_facts hd
    have HNV := Lib.hid hv
    have hpo := fun w hv => specPartOf_any m S R L v w hval hL8 hLm hLd hv
    rw [Int.toNat_natCast] at HV
    rw [← HV.out, ← hres, hform] at hpo
    have HPO := Lib.hid hpo
    have HRF := Lib.hid (hres.symm.trans hform)
    clear hd hres hv hval hLm hLd hform hpo HV
    obtain ⟨s0, s1, s2, _, _, _, hl⟩ := HB1.out.a.cells
    unfold strV at HPO
    go_wp2_with fail
    refine (HPO.out _ HNV.out).mono ?_; rintro en w2 ⟨rfl, hb2⟩
    have HB2 := Lib.hid (HB1.out.below hb2)
    clear hb2 s0 s1 s2 hl
    obtain ⟨d0, d1, d2, g0, g1, g2, hl⟩ := HB2.out.res.cells
    go_wp2_with fail
    refine bodyPost_ret (v := .tuple #[strV N T U, .bool b]) ?_ rfl ⟨by rw [HRF.out], ?_⟩
    · exact results_str2 rfl rfl HB2.out.res.set3 rfl
    · exact HB2.out.fin _ _ _
end Go.Proofs.YtmabpmkkleelaaaDoor

/- The program's allDifferent and PartOf. Conditions: the structure is valid, the numbers are different elements of it, at least one. -/
import Derived.Test.YtmabpmkkleelaaaDoorPartS
import Derived.Test.YtmabpmkkleelaaaDoorLst
import Derived.Test.YtmabpmkkleelaaaDoorPlaced
namespace Go.Proofs.YtmabpmkkleelaaaDoor
open Go.RowKit
set_option linter.unusedVariables false
set_option maxRecDepth 100000

theorem allDifferent_any (L : List Nat) (v : Value) (w : World) (hv : NumsAt w v L) (hd : L.Nodup) : Calls Tryd.prog 91 #[v] w fun e w' => e = .returned (.bool true) ∧ w' = w := by
  have HV := Lib.hid hv
  have HND := Lib.hid (fun i (hi : i < L.length) => nodup_take hd hi)
  obtain ⟨a, cap, rfl, h1, h2, h3⟩ := hv.view
  have HC := Lib.hid h3
  clear h3 hv hd
  unfold maxLen at h2
  go_enter Tryd.func91, Tryd.ntmps91
  go_wp2_with fail
  go_loopw [7, 3, 4] (fun q _ _ wr => (∃ k : Nat, k ≤ L.length ∧ q = .int .i64 (k : Int)) ∧ wr = w) (fun q _ _ _ => L.length - (intOf q).toNat)
  case atStart => exact ⟨⟨0, by omega, rfl⟩, rfl⟩
  case round =>
    obtain ⟨⟨k, hk, rfl⟩, hw⟩ := hrel
    rw [hw]; clear hw
    by_cases hlt : k < L.length
    · obtain ⟨g, o, rfl, hg, hc⟩ := HC.out (by omega)
      have d1 := hc k hlt
      have HT := Lib.hid (HV.out.take k (by omega) (by omega))
      have HCO := Lib.hid (contains_num _ (L.take k) (L.getD k 0) w HT.out)
      rw [HND.out k hlt] at HCO
      clear hc
      generalize L.getD k 0 = x at *
      have hkI : (k : Int) < (L.length : Int) := by omega
      have k1 : (k : Int) ≤ (cap : Int) := by omega
      go_wp2_with fail
      refine HCO.out.mono ?_; rintro e w1 ⟨rfl, hw1⟩; rw [hw1]; clear hw1
      go_wp2_with fail
      go_roundw
      case rel => exact ⟨⟨k + 1, by omega, by go_num⟩, trivial⟩
      case measure => simp [intOf]; omega
    · have hkI : ¬ (k : Int) < (L.length : Int) := by omega
      go_wp2_with fail
      go_ret
      exact ⟨rfl, rfl⟩
set_option maxHeartbeats 1000000 in
theorem implPartOfP_any (n : Nat) (S R : ByteArray) (L : List Nat) (v : Value) (w : World) (hval : validB n S R = true) (hl : L.length ≤ 8) (h0 : 0 < L.length) (hL : ∀ j, j < L.length → L.getD j 0 < n) (hd : L.Nodup) (hv : NumsAt w v L) :
    Calls Tryd.prog 28 #[strV n S R, v] w fun en w' => en = .returned (.tuple #[partV n S R L, .bool true]) ∧ Below w.heap.size w w' := by
  obtain ⟨v1, v8, vS, vR, _, _⟩ := valid_is hval
  have HIS : Hid (∀ w, Calls Tryd.prog 77 #[strV n S R] w fun e w' => e = .returned (.bool true) ∧ Below w.heap.size w w') := fun w => by
    have := isStructure_any n S R w (by omega) (by rw [vR]; have := Nat.mul_le_mul v8 v8; omega)
    rw [hval] at this
    exact this
  have HAE := Lib.hid (fun w hv => areElements_all n S R L v w hv hL v8)
  have HAD := Lib.hid (fun w hv => allDifferent_any L v w hv hd)
  have HPT := Lib.hid (fun w hv => implPartOf_any n S R L v w v8 vS vR hl hL hv)
  have HB := Lib.hid (BoxR.first w n S R)
  unfold boxS at HB
  obtain ⟨W, hW⟩ : ∃ W, (w.alloc (.cells #[.int .i64 (n : Int), .string S, .string R] 28)).alloc (.cells #[.int .i64 0, .string ⟨#[]⟩, .string ⟨#[]⟩] 28) = W := ⟨_, rfl⟩
  replace HB : Hid (BoxR w W n S R) := by rw [← hW]; exact HB.out
  have HW := Lib.hid hW
  clear hW
  have HNV := Lib.hid (hv.below HB.out.old)
  obtain ⟨a, cap, rfl, c1, c2, c3⟩ := hv.view
  unfold partV at HPT ⊢
  clear hval hL hd hv c3 vS vR
  obtain ⟨TS, hA⟩ : ∃ T, bitsOf (fun x => oneAt S (L.getD x 0)) L.length = T := ⟨_, rfl⟩
  obtain ⟨TR, hG⟩ : ∃ T, gridOf (fun x y => relAt n R (L.getD x 0) (L.getD y 0)) L.length = T := ⟨_, rfl⟩
  rw [hA, hG] at HPT ⊢
  clear hA hG
  obtain ⟨s0, s1, s2, _, _, _, hl'⟩ := HB.out.a.cells
  have h0I : ((L.length : Int) == 0) = false := by rw [beq_eq_false_iff_ne]; omega
  have h0N : ¬ (L.length : Int) = 0 := by omega
  unfold strV at HIS HAE HPT
  unfold strV
  go_enter Tryd.func28, Tryd.ntmps28
  go_upto_region 1 with fail
  rw [HW.out]
  go_wp2_with fail
  refine (HIS.out _).mono ?_; rintro en w1 ⟨rfl, hb1⟩
  have HB1 := Lib.hid (HB.out.below hb1)
  have HNV1 := Lib.hid (HNV.out.below hb1)
  clear hb1 s0 s1 s2 hl'
  obtain ⟨s0, s1, s2, _, _, _, hl'⟩ := HB1.out.a.cells
  go_wp2_with fail
  refine (HAE.out _ HNV1.out).mono ?_; rintro en w2 ⟨rfl, hb2⟩
  have HB2 := Lib.hid (HB1.out.below hb2)
  have HNV2 := Lib.hid (HNV1.out.below hb2)
  clear hb2 s0 s1 s2 hl'
  go_wp2_with fail
  refine (HAD.out _ HNV2.out).mono ?_; rintro en w3 ⟨rfl, hw3⟩; rw [hw3]; clear hw3
  obtain ⟨s0, s1, s2, _, _, _, hl'⟩ := HB2.out.a.cells
  go_wp2_with fail
  refine (HPT.out _ HNV2.out).mono ?_; rintro en w4 ⟨rfl, hb4⟩
  have HB4 := Lib.hid (HB2.out.below hb4)
  clear hb4 s0 s1 s2 hl'
  obtain ⟨d0, d1, d2, g0, g1, g2, hl'⟩ := HB4.out.res.cells
  go_wp2_with fail
  refine bodyPost_ret (v := .tuple #[strV L.length TS TR, .bool true]) ?_ rfl ⟨rfl, ?_⟩
  · exact results_str2 rfl rfl HB4.out.res.set3 rfl
  · exact HB4.out.fin _ _ _
theorem bits_same {f g : Nat → Bool} {n : Nat} (h : ∀ x, x < n → f x = g x) : bitsOf f n = bitsOf g n := by
  unfold bitsOf
  congr 2
  apply List.map_congr_left
  intro x hx
  rw [h x (List.mem_range.1 hx)]
/-- The part of all elements is the structure. -/
theorem part_whole {n : Nat} {S R : ByteArray} (h : validB n S R = true) : partV n S R (List.range n) = strV n S R := by
  obtain ⟨h1, h8, hS, hR, hb, hb2⟩ := valid_is h
  have gd : ∀ x, x < n → (List.range n).getD x 0 = x := fun x hx => by simp [hx]
  unfold partV
  rw [List.length_range]
  have e1 : bitsOf (fun x => oneAt S ((List.range n).getD x 0)) n = S := by
    rw [bits_same (g := oneAt S) (fun x hx => by rw [gd x hx])]
    exact bits_back hb
  have e2 : gridOf (fun x y => relAt n R ((List.range n).getD x 0) ((List.range n).getD y 0)) n = R := by
    unfold gridOf
    rw [bits_same (g := oneAt R) (fun k hk => ?_)]
    · exact bits_back hb2
    · have q1 : k / n < n := Nat.div_lt_of_lt_mul hk
      have q2 : k % n < n := Nat.mod_lt _ h1
      show relAt n R ((List.range n).getD (k / n) 0) ((List.range n).getD (k % n) 0) = _
      rw [gd _ q1, gd _ q2]
      unfold relAt
      rw [Nat.mul_comm, Nat.div_add_mod]
  rw [e1, e2]
end Go.Proofs.YtmabpmkkleelaaaDoor

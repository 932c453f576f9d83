/- Contracts of the program's functions and what they compute: part 33. Conditions: those that each theorem states. -/
import Derived.Test.YtdonjgjkhndfcaaGreatDoorP52n32
namespace Go.Proofs.YtdonjgjkhndfcaaGreatDoor
open Go.RowKit
set_option linter.unusedVariables false
/-- What a sum gives that there is not. -/
def sumNo : Value := .tuple #[strV 0 ByteArray.empty ByteArray.empty, .bool false]
/-- Two boxed structures, not valid or valid, and an empty result. -/
structure PairI (w wr : World) (n : Int) (S R : ByteArray) (m : Int) (S2 R2 : ByteArray) : Prop where
  a : SBlk wr w.heap.size n S R
  b : SBlk wr (w.heap.size + 1) m S2 R2
  res : SBlk wr (w.heap.size + 2) 0 ByteArray.empty ByteArray.empty
  old : Below w.heap.size w wr
theorem PairI.below {w wr w' : World} {n m : Int} {S R S2 R2 : ByteArray} (h : PairI w wr n S R m S2 R2) (hb : Below wr.heap.size wr w') : PairI w w' n S R m S2 R2 := by
  have h1 := h.res.cells.2.2.2.2.2.2
  exact ⟨h.a.below hb (by omega), h.b.below hb (by omega), h.res.below hb h1, h.old.trans (hb.mono (by omega))⟩
theorem PairI.first (w : World) (n : Int) (S R : ByteArray) (m : Int) (S2 R2 : ByteArray) :
    PairI w (((w.alloc (.cells #[.int .i64 n, .string S, .string R] 24)).alloc (.cells #[.int .i64 m, .string S2, .string R2] 24)).alloc (.cells #[.int .i64 0, .string ByteArray.empty, .string ByteArray.empty] 24)) n S R m S2 R2 := by
  have hb0 := boxS_below w n S R
  have hb1 : Below w.heap.size w (boxS (boxS w n S R) m S2 R2) := hb0.trans ((boxS_below (boxS w n S R) m S2 R2).mono (by rw [boxS_size]; omega))
  refine ⟨?_, ?_, ?_, ?_⟩
  · exact ((boxS_SBlk w n S R).below (boxS_below (boxS w n S R) m S2 R2) (by rw [boxS_size]; omega)).below ((Below.refl _ _).alloc (Nat.le_refl _) _) (by rw [boxS_size, boxS_size]; omega)
  · have h := boxS_SBlk (boxS w n S R) m S2 R2
    rw [boxS_size] at h
    exact h.below ((Below.refl _ _).alloc (Nat.le_refl _) _) (by rw [boxS_size, boxS_size]; omega)
  · have h := SBlk.new (boxS (boxS w n S R) m S2 R2) 0 ByteArray.empty ByteArray.empty
    rw [boxS_size, boxS_size] at h
    exact h
  · exact hb1.alloc hb1.size _
theorem implOrdered_any (n : Nat) (S R : ByteArray) (m : Nat) (S2 R2 : ByteArray) (w : World) (h1 : validB n S R = true) (h2 : validB m S2 R2 = true) :
    Calls Tryz.prog 8 #[strV n S R, strV m S2 R2] w fun e w' => e = .returned (sumRes true n S R m S2 R2) ∧ Below w.heap.size w w' := by
  have HS := Lib.hid (fun w => sumOf_any true n S R m S2 R2 w h1 h2)
  have HF := Lib.hid (PairFr.first w n S R m S2 R2)
  clear h1 h2
  obtain ⟨N, T, U, b, hv⟩ : ∃ N T U b, sumRes true n S R m S2 R2 = .tuple #[strV N T U, .bool b] := by
    unfold sumRes sumV
    by_cases h : n + m ≤ 8
    · rw [if_pos h]; exact ⟨_, _, _, _, rfl⟩
    · rw [if_neg h]; exact ⟨_, _, _, _, rfl⟩
  rw [hv] at HS ⊢
  clear hv
  unfold strV
  go_enter Tryz.func8, Tryz.ntmps8
  go_wp2_with fail
  unfold strV at HS
  refine (HS.out _).mono ?_; rintro e w1 ⟨rfl, hb⟩
  have HF1 := Lib.hid (HF.out.below hb); clear hb
  obtain ⟨c0, c1, c2, f0, f1, f2, hl⟩ := HF1.out.res.cells
  go_wp2_with fail
  refine bodyPost_ret (v := .tuple #[strV N T U, .bool b]) ?_ rfl ⟨rfl, ?_⟩
  · exact results_str2 rfl rfl HF1.out.res.set3 rfl
  · exact ((HF1.out.old.setCell (by simp <;> omega) _).setCell (by simp <;> omega) _).setCell (by simp <;> omega) _
/-- The blocks of a sum's frame, not valid or valid. -/
structure SumI (w wr : World) (n : Int) (S R : ByteArray) (m : Int) (S2 R2 : ByteArray) : Prop where
  a : SBlk wr w.heap.size n S R
  b : SBlk wr (w.heap.size + 1) m S2 R2
  res : SBlk wr (w.heap.size + 3) 0 ByteArray.empty ByteArray.empty
  old : Below w.heap.size w wr
theorem SumI.below {w wr w' : World} {n m : Int} {S R S2 R2 : ByteArray} (h : SumI w wr n S R m S2 R2) (hb : Below wr.heap.size wr w') : SumI w w' n S R m S2 R2 := by
  have h1 := h.res.cells.2.2.2.2.2.2
  exact ⟨h.a.below hb (by omega), h.b.below hb (by omega), h.res.below hb h1, h.old.trans (hb.mono (by omega))⟩
set_option maxHeartbeats 1000000 in
theorem sumOf_no (o : Bool) (n : Int) (S R : ByteArray) (m : Int) (S2 R2 : ByteArray) (w : World) (hS : S.size ≤ 9223372036854775807) (hR : R.size ≤ 9223372036854775807) (hS2 : S2.size ≤ 9223372036854775807) (hR2 : R2.size ≤ 9223372036854775807) (hno : validB n S R = false ∨ validB m S2 R2 = false) :
    Calls Tryz.prog 19 #[strV n S R, strV m S2 R2, .bool o] w fun e w' => e = .returned sumNo ∧ Below w.heap.size w w' := by
  have I1 := Lib.hid (fun w => isStructure_any n S R w hS hR)
  have I2 := Lib.hid (fun w => isStructure_any m S2 R2 w hS2 hR2)
  have hF : SumI w ((boxS (boxS w n S R) m S2 R2).alloc (.cells #[.bool o] 4) |>.alloc (.cells #[.int .i64 0, .string ByteArray.empty, .string ByteArray.empty] 24)) n S R m S2 R2 := by
    have hb0 := boxS_below w n S R
    have hb1 : Below w.heap.size w (boxS (boxS w n S R) m S2 R2) := hb0.trans ((boxS_below (boxS w n S R) m S2 R2).mono (by rw [boxS_size]; omega))
    refine ⟨?_, ?_, ?_, ?_⟩
    · exact (((boxS_SBlk w n S R).below (boxS_below (boxS w n S R) m S2 R2) (by rw [boxS_size]; omega)).below ((Below.refl _ _).alloc (Nat.le_refl _) _) (by rw [boxS_size, boxS_size]; omega)).below ((Below.refl _ _).alloc (Nat.le_refl _) _) (by simp [boxS] <;> omega)
    · have h := boxS_SBlk (boxS w n S R) m S2 R2
      rw [boxS_size] at h
      exact (h.below ((Below.refl _ _).alloc (Nat.le_refl _) _) (by rw [boxS_size, boxS_size]; omega)).below ((Below.refl _ _).alloc (Nat.le_refl _) _) (by simp [boxS] <;> omega)
    · have h := SBlk.new ((boxS (boxS w n S R) m S2 R2).alloc (.cells #[.bool o] 4)) 0 ByteArray.empty ByteArray.empty
      simpa [boxS] using h
    · exact (hb1.alloc hb1.size _).alloc (by have := hb1.size; simp; omega) _
  have HF := Lib.hid hF; clear hF
  unfold boxS at HF
  unfold strV at I1 I2
  cases hv : validB n S R
  · rw [hv] at I1
    clear hv hno
    unfold sumNo strV
    go_enter Tryz.func19, Tryz.ntmps19
    go_wp2_with fail
    refine (I1.out _).mono ?_; rintro e w1 ⟨rfl, hb⟩
    have HF1 := Lib.hid (HF.out.below hb); clear hb
    obtain ⟨e0, e1, e2, k0, k1, k2, hl3⟩ := HF1.out.res.cells
    go_wp2_with fail
    refine bodyPost_ret (v := .tuple #[strV 0 ByteArray.empty ByteArray.empty, .bool false]) ?_ rfl ⟨rfl, ?_⟩
    · exact results_str2 rfl rfl HF1.out.res.set3 rfl
    · exact ((HF1.out.old.setCell (by simp <;> omega) _).setCell (by simp <;> omega) _).setCell (by simp <;> omega) _
  · have hv2 : validB m S2 R2 = false := by
      rcases hno with h | h
      · rw [hv] at h; cases h
      · exact h
    rw [hv] at I1
    rw [hv2] at I2
    clear hv hv2 hno
    unfold sumNo strV
    go_enter Tryz.func19, Tryz.ntmps19
    go_wp2_with fail
    refine (I1.out _).mono ?_; rintro e w1 ⟨rfl, hb⟩
    have HF1 := Lib.hid (HF.out.below hb); clear hb
    obtain ⟨d0, d1, d2, g0, g1, g2, hl2⟩ := HF1.out.b.cells
    go_wp2_with fail
    refine (I2.out _).mono ?_; rintro e w2 ⟨rfl, hb⟩
    have HF2 := Lib.hid (HF1.out.below hb); clear hb
    clear d0 d1 d2 g0 g1 g2 hl2
    obtain ⟨e0, e1, e2, k0, k1, k2, hl3⟩ := HF2.out.res.cells
    go_wp2_with fail
    refine bodyPost_ret (v := .tuple #[strV 0 ByteArray.empty ByteArray.empty, .bool false]) ?_ rfl ⟨rfl, ?_⟩
    · exact results_str2 rfl rfl HF2.out.res.set3 rfl
    · exact ((HF2.out.old.setCell (by simp <;> omega) _).setCell (by simp <;> omega) _).setCell (by simp <;> omega) _
theorem implDisjoint_no (n : Int) (S R : ByteArray) (m : Int) (S2 R2 : ByteArray) (w : World) (hS : S.size ≤ 9223372036854775807) (hR : R.size ≤ 9223372036854775807) (hS2 : S2.size ≤ 9223372036854775807) (hR2 : R2.size ≤ 9223372036854775807) (hno : validB n S R = false ∨ validB m S2 R2 = false) :
    Calls Tryz.prog 5 #[strV n S R, strV m S2 R2] w fun e w' => e = .returned sumNo ∧ Below w.heap.size w w' := by
  have HS := Lib.hid (fun w => sumOf_no false n S R m S2 R2 w hS hR hS2 hR2 hno)
  have HF := Lib.hid (PairI.first w n S R m S2 R2)
  clear hno hS hR hS2 hR2
  unfold sumNo strV at HS
  unfold sumNo strV
  go_enter Tryz.func5, Tryz.ntmps5
  go_wp2_with fail
  refine (HS.out _).mono ?_; rintro e w1 ⟨rfl, hb⟩
  have HF1 := Lib.hid (HF.out.below hb); clear hb
  obtain ⟨c0, c1, c2, f0, f1, f2, hl⟩ := HF1.out.res.cells
  go_wp2_with fail
  refine bodyPost_ret (v := .tuple #[strV 0 ByteArray.empty ByteArray.empty, .bool false]) ?_ rfl ⟨rfl, ?_⟩
  · exact results_str2 rfl rfl HF1.out.res.set3 rfl
  · exact ((HF1.out.old.setCell (by simp <;> omega) _).setCell (by simp <;> omega) _).setCell (by simp <;> omega) _
/-- Two boxed structures. -/
structure TwoI (w wr : World) (n : Int) (S R : ByteArray) (m : Int) (S2 R2 : ByteArray) : Prop where
  a : SBlk wr w.heap.size n S R
  b : SBlk wr (w.heap.size + 1) m S2 R2
  old : Below w.heap.size w wr
theorem TwoI.below {w wr w' : World} {n m : Int} {S R S2 R2 : ByteArray} (h : TwoI w wr n S R m S2 R2) (hb : Below wr.heap.size wr w') : TwoI w w' n S R m S2 R2 := by
  have h1 := h.b.cells.2.2.2.2.2.2
  exact ⟨h.a.below hb (by omega), h.b.below hb h1, h.old.trans (hb.mono (by omega))⟩
theorem TwoI.first (w : World) (n : Int) (S R : ByteArray) (m : Int) (S2 R2 : ByteArray) : TwoI w (boxS (boxS w n S R) m S2 R2) n S R m S2 R2 := by
  refine ⟨(boxS_SBlk w n S R).below (boxS_below (boxS w n S R) m S2 R2) (by rw [boxS_size]; omega), ?_, (boxS_below w n S R).trans ((boxS_below _ _ _ _).mono (by rw [boxS_size]; omega))⟩
  have h := boxS_SBlk (boxS w n S R) m S2 R2
  rw [boxS_size] at h
  exact h
set_option maxHeartbeats 1000000 in
theorem l10Ready_no (n : Int) (S R : ByteArray) (m : Int) (S2 R2 : ByteArray) (z : Int) (w : World) (hS : S.size ≤ 9223372036854775807) (hR : R.size ≤ 9223372036854775807) (hS2 : S2.size ≤ 9223372036854775807) (hR2 : R2.size ≤ 9223372036854775807) (hno : validB n S R = false ∨ validB m S2 R2 = false) :
    Calls Tryz.prog 20 #[strV n S R, strV m S2 R2, .int .i64 z] w fun e w' => e = .returned (.bool false) ∧ Below w.heap.size w w' := by
  have I1 := Lib.hid (fun w => specValid_any n S R w hS hR)
  have I2 := Lib.hid (fun w => specValid_any m S2 R2 w hS2 hR2)
  have HF := Lib.hid (TwoI.first w n S R m S2 R2)
  unfold boxS at HF
  unfold strV at I1 I2
  cases hv : validB n S R
  · rw [hv] at I1
    clear hv hno hS hR hS2 hR2
    unfold strV
    go_enter Tryz.func20, Tryz.ntmps20
    go_wp2_with fail
    refine (I1.out _).mono ?_; rintro e w1 ⟨rfl, hb⟩
    have HF1 := Lib.hid (HF.out.below hb); clear hb
    go_wp2_with fail
    go_ret
    exact ⟨rfl, HF1.out.old⟩
  · have hv2 : validB m S2 R2 = false := by
      rcases hno with h | h
      · rw [hv] at h; cases h
      · exact h
    rw [hv] at I1
    rw [hv2] at I2
    clear hv hv2 hno hS hR hS2 hR2
    unfold strV
    go_enter Tryz.func20, Tryz.ntmps20
    go_wp2_with fail
    refine (I1.out _).mono ?_; rintro e w1 ⟨rfl, hb⟩
    have HF1 := Lib.hid (HF.out.below hb); clear hb
    obtain ⟨d0, d1, d2, g0, g1, g2, hl2⟩ := HF1.out.b.cells
    go_wp2_with fail
    refine (I2.out _).mono ?_; rintro e w2 ⟨rfl, hb⟩
    have HF2 := Lib.hid (HF1.out.below hb); clear hb
    go_wp2_with fail
    go_ret
    exact ⟨rfl, HF2.out.old⟩
theorem specDisjoint_no (n : Int) (S R : ByteArray) (m : Int) (S2 R2 : ByteArray) (w : World) (hS : S.size ≤ 9223372036854775807) (hR : R.size ≤ 9223372036854775807) (hS2 : S2.size ≤ 9223372036854775807) (hR2 : R2.size ≤ 9223372036854775807) (hno : validB n S R = false ∨ validB m S2 R2 = false) :
    Calls Tryz.prog 6 #[strV n S R, strV m S2 R2] w fun e w' => e = .returned sumNo ∧ Below w.heap.size w w' := by
  have HR := Lib.hid (fun z w => l10Ready_no n S R m S2 R2 z w hS hR hS2 hR2 hno)
  have HF := Lib.hid (PairI.first w n S R m S2 R2)
  clear hno hS hR hS2 hR2
  unfold strV at HR
  unfold sumNo strV
  go_enter Tryz.func6, Tryz.ntmps6
  go_wp2_with fail
  refine (HR.out _ _).mono ?_; rintro e w1 ⟨rfl, hb⟩
  have HF1 := Lib.hid (HF.out.below hb); clear hb
  obtain ⟨c0, c1, c2, f0, f1, f2, hl⟩ := HF1.out.res.cells
  go_wp2_with fail
  refine bodyPost_ret (v := .tuple #[strV 0 ByteArray.empty ByteArray.empty, .bool false]) ?_ rfl ⟨rfl, ?_⟩
  · exact results_str2 rfl rfl HF1.out.res.set3 rfl
  · exact ((HF1.out.old.setCell (by simp <;> omega) _).setCell (by simp <;> omega) _).setCell (by simp <;> omega) _
end Go.Proofs.YtdonjgjkhndfcaaGreatDoor

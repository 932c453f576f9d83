/- Contracts of the program's functions and what they compute: part 36. Conditions: those that each theorem states. -/
import Derived.Test.YtfhogenjpepfnaaGreatDoorP51n34
import Derived.Test.YtfhogenjpepfnaaGreatDoorP51n35
namespace Go.Proofs.YtfhogenjpepfnaaGreatDoor
open Go.RowKit
set_option linter.unusedVariables false
/-- Two boxed structures and an empty result. -/
structure PairFr (w wr : World) (n : Nat) (S R : ByteArray) (m : Nat) (S2 R2 : ByteArray) : Prop where
  a : SBlk wr w.heap.size n S R
  b : SBlk wr (w.heap.size + 1) m S2 R2
  res : SBlk wr (w.heap.size + 2) 0 ByteArray.empty ByteArray.empty
  old : Below w.heap.size w wr
theorem PairFr.below {w wr w' : World} {n m : Nat} {S R S2 R2 : ByteArray} (h : PairFr w wr n S R m S2 R2) (hb : Below wr.heap.size wr w') : PairFr w w' n S R m S2 R2 := by
  have h1 := h.res.cells.2.2.2.2.2.2
  exact ⟨h.a.below hb (by omega), h.b.below hb (by omega), h.res.below hb h1, h.old.trans (hb.mono (by omega))⟩
theorem PairFr.first (w : World) (n : Nat) (S R : ByteArray) (m : Nat) (S2 R2 : ByteArray) :
    PairFr w (((w.alloc (.cells #[.int .i64 n, .string S, .string R] 26)).alloc (.cells #[.int .i64 m, .string S2, .string R2] 26)).alloc (.cells #[.int .i64 0, .string ByteArray.empty, .string ByteArray.empty] 26)) n S R m S2 R2 := by
  have hb0 := boxS_below w n S R
  have hb1 : Below w.heap.size w (boxS (boxS w n S R) m S2 R2) := hb0.trans ((boxS_below (boxS w n S R) m S2 R2).mono (by rw [boxS_size]; omega))
  refine ⟨?_, ?_, ?_, ?_⟩
  · exact ((boxS_SBlk w n S R).below (boxS_below (boxS w n S R) m S2 R2) (by rw [boxS_size]; omega)).below ((Below.refl _ _).alloc (Nat.le_refl _) _) (by rw [boxS_size, boxS_size]; omega)
  · have h := boxS_SBlk (boxS w n S R) m S2 R2
    rw [boxS_size] at h
    exact h.below ((Below.refl _ _).alloc (Nat.le_refl _) _) (by rw [boxS_size, boxS_size]; omega)
  · have h := SBlk.new (boxS (boxS w n S R) m S2 R2) 0 ByteArray.empty ByteArray.empty
    rw [boxS_size, boxS_size] at h
    exact h
  · exact hb1.alloc hb1.size _
theorem implDisjoint_any (n : Nat) (S R : ByteArray) (m : Nat) (S2 R2 : ByteArray) (w : World) (h1 : validB n S R = true) (h2 : validB m S2 R2 = true) :
    Calls Tryz.prog 15 #[strV n S R, strV m S2 R2] w fun e w' => e = .returned (sumRes false n S R m S2 R2) ∧ Below w.heap.size w w' := by
  have HS := Lib.hid (fun w => sumOf_any false n S R m S2 R2 w h1 h2)
  have HF := Lib.hid (PairFr.first w n S R m S2 R2)
  clear h1 h2
  obtain ⟨N, T, U, b, hv⟩ : ∃ N T U b, sumRes false n S R m S2 R2 = .tuple #[strV N T U, .bool b] := by
    unfold sumRes sumV
    by_cases h : n + m ≤ 8
    · rw [if_pos h]; exact ⟨_, _, _, _, rfl⟩
    · rw [if_neg h]; exact ⟨_, _, _, _, rfl⟩
  rw [hv] at HS ⊢
  clear hv
  unfold strV
  go_enter Tryz.func15, Tryz.ntmps15
  go_wp2_with fail
  unfold strV at HS
  refine (HS.out _).mono ?_; rintro e w1 ⟨rfl, hb⟩
  have HF1 := Lib.hid (HF.out.below hb); clear hb
  obtain ⟨c0, c1, c2, f0, f1, f2, hl⟩ := HF1.out.res.cells
  go_wp2_with fail
  refine bodyPost_ret (v := .tuple #[strV N T U, .bool b]) ?_ rfl ⟨rfl, ?_⟩
  · exact results_str2 rfl rfl HF1.out.res.set3 rfl
  · exact ((HF1.out.old.setCell (by simp <;> omega) _).setCell (by simp <;> omega) _).setCell (by simp <;> omega) _
theorem l10Ready_any (n : Nat) (S R : ByteArray) (m : Nat) (S2 R2 : ByteArray) (w : World) (h1 : validB n S R = true) (h2 : validB m S2 R2 = true) :
    Calls Tryz.prog 35 #[strV n S R, strV m S2 R2, .int .i64 ((n : Int) + (m : Int))] w fun e w' => e = .returned (.bool (decide (n + m ≤ 8))) ∧ Below w.heap.size w w' := by
  obtain ⟨a1, a8, aS, aR, _, _⟩ := valid_is h1
  obtain ⟨b1, b8, bS, bR, _, _⟩ := valid_is h2
  have a64 : n * n ≤ 64 := Nat.mul_le_mul a8 a8
  have b64 : m * m ≤ 64 := Nat.mul_le_mul b8 b8
  have I1 := Lib.hid (fun w => specValid_any n S R w (by omega) (by omega))
  have I2 := Lib.hid (fun w => specValid_any m S2 R2 w (by omega) (by omega))
  rw [h1] at I1; rw [h2] at I2
  have HK : Hid (inB ((n : Int) + (m : Int)) 1 8 = decide (n + m ≤ 8)) := by
    unfold inB
    have e1 : decide ((1 : Int) ≤ (n : Int) + (m : Int)) = true := by rw [decide_eq_true_eq]; omega
    show _ = _
    rw [e1, Bool.true_and, decide_eq_decide]
    omega
  have hbx : Below w.heap.size w (boxS (boxS w n S R) m S2 R2) := (boxS_below w n S R).trans ((boxS_below (boxS w n S R) m S2 R2).mono (by rw [boxS_size]; omega))
  have hbk : SBlk (boxS (boxS w n S R) m S2 R2) (w.heap.size + 1) m S2 R2 := by
    have h := boxS_SBlk (boxS w n S R) m S2 R2
    rw [boxS_size] at h
    exact h
  have hsz : (boxS (boxS w n S R) m S2 R2).heap.size = w.heap.size + 2 := by rw [boxS_size, boxS_size]
  unfold boxS at hbx hbk hsz
  have HX := Lib.hid hbx; have HBk := Lib.hid hbk; have HSZ := Lib.hid hsz; clear hbx hbk hsz
  clear h1 h2 aS aR bS bR
  unfold strV
  go_enter Tryz.func35, Tryz.ntmps35
  go_wp2_with fail
  unfold strV at I1 I2
  refine (I1.out _).mono ?_; rintro e w1 ⟨rfl, hb⟩
  have HB1 := Lib.hid (HX.out.trans (hb.mono HX.out.size))
  have hk1 : SBlk w1 (w.heap.size + 1) m S2 R2 := HBk.out.below hb (by rw [HSZ.out]; omega)
  clear hb
  obtain ⟨c0, c1, c2, f0, f1, f2, hl⟩ := hk1.cells
  clear hk1
  go_wp2_with fail
  refine (I2.out _).mono ?_; rintro e w2 ⟨rfl, hb⟩
  have HB2 := Lib.hid (HB1.out.trans (hb.mono HB1.out.size)); clear hb
  go_wp2_with fail
  refine (l1In_is _ HK.out).mono ?_; rintro e w' ⟨rfl, rfl⟩
  go_wp2_with fail
  go_ret
  exact ⟨rfl, HB2.out⟩
theorem specDisjoint_any (n : Nat) (S R : ByteArray) (m : Nat) (S2 R2 : ByteArray) (w : World) (h1 : validB n S R = true) (h2 : validB m S2 R2 = true) :
    Calls Tryz.prog 18 #[strV n S R, strV m S2 R2] w fun e w' => e = .returned (sumRes false n S R m S2 R2) ∧ Below w.heap.size w w' := by
  obtain ⟨a1, a8, _⟩ := valid_is h1
  obtain ⟨b1, b8, _⟩ := valid_is h2
  have HR := Lib.hid (fun w => l10Ready_any n S R m S2 R2 w h1 h2)
  have HF := Lib.hid (PairFr.first w n S R m S2 R2)
  by_cases hnm : n + m ≤ 8
  · have HS := Lib.hid (fun w => l10Sum_any false n S R m S2 R2 w h1 h2 hnm)
    have HV : Hid (sumRes false n S R m S2 R2 = .tuple #[sumV false n S R m S2 R2, .bool true]) := by simp [Hid, sumRes, hnm]
    have e1 : decide (n + m ≤ 8) = true := by simp [hnm]
    clear h1 h2
    unfold strV
    go_enter Tryz.func18, Tryz.ntmps18
    go_wp2_with fail
    unfold strV at HR HS
    refine (HR.out _).mono ?_; rintro e w1 ⟨rfl, hb⟩
    have HF1 := Lib.hid (HF.out.below hb); clear hb
    obtain ⟨c0, c1, c2, f0, f1, f2, hl⟩ := HF1.out.a.cells
    obtain ⟨d0, d1, d2, g0, g1, g2, hl2⟩ := HF1.out.b.cells
    go_wp2_with fail
    refine (HS.out _).mono ?_; rintro e w2 ⟨rfl, hb⟩
    have HF2 := Lib.hid (HF1.out.below hb); clear hb
    clear c0 c1 c2 f0 f1 f2 hl d0 d1 d2 g0 g1 g2 hl2
    obtain ⟨c0, c1, c2, f0, f1, f2, hl⟩ := HF2.out.res.cells
    unfold sumV strV
    go_wp2_with fail
    refine bodyPost_ret (v := .tuple #[sumV false n S R m S2 R2, .bool true]) ?_ rfl ⟨by rw [HV.out], ?_⟩
    · exact results_str2 rfl rfl HF2.out.res.set3 rfl
    · exact ((HF2.out.old.setCell (by simp <;> omega) _).setCell (by simp <;> omega) _).setCell (by simp <;> omega) _
  · have HV : Hid (sumRes false n S R m S2 R2 = .tuple #[strV 0 ByteArray.empty ByteArray.empty, .bool false]) := by simp [Hid, sumRes, hnm]
    have e1 : decide (n + m ≤ 8) = false := by simp; omega
    clear h1 h2
    unfold strV
    go_enter Tryz.func18, Tryz.ntmps18
    go_wp2_with fail
    unfold strV at HR
    refine (HR.out _).mono ?_; rintro e w1 ⟨rfl, hb⟩
    have HF1 := Lib.hid (HF.out.below hb); clear hb
    obtain ⟨c0, c1, c2, f0, f1, f2, hl⟩ := HF1.out.res.cells
    go_wp2_with fail
    refine bodyPost_ret (v := .tuple #[strV 0 ByteArray.empty ByteArray.empty, .bool false]) ?_ rfl ⟨by rw [HV.out], ?_⟩
    · exact results_str2 rfl rfl HF1.out.res.set3 rfl
    · exact ((HF1.out.old.setCell (by simp <;> omega) _).setCell (by simp <;> omega) _).setCell (by simp <;> omega) _
/-- What CirclesOf returns. -/
def circlesRes (n m : Int) : Value :=
  if inB n 3 8 && inB m 3 8 then
    sumRes false n.toNat (bitsOf (fun _ => false) n.toNat) (gridOf (nextB n.toNat) n.toNat) m.toNat (bitsOf (fun _ => false) m.toNat) (gridOf (nextB m.toNat) m.toNat)
  else .tuple #[strV 0 ByteArray.empty ByteArray.empty, .bool false]
theorem sumRes_form (o : Bool) (n : Nat) (S R : ByteArray) (m : Nat) (S2 R2 : ByteArray) : ∃ N T U b, sumRes o n S R m S2 R2 = .tuple #[strV N T U, .bool b] := by
  unfold sumRes sumV
  by_cases h : n + m ≤ 8
  · rw [if_pos h]; exact ⟨_, _, _, _, rfl⟩
  · rw [if_neg h]; exact ⟨_, _, _, _, rfl⟩
theorem implCirclesOf_any (n m : Int) (w : World) :
    Calls Tryz.prog 5 #[.int .i64 n, .int .i64 m] w fun e w' => e = .returned (circlesRes n m) ∧ Below w.heap.size w w' := by
  by_cases h3 : 3 ≤ n
  · by_cases h8 : n ≤ 8
    · by_cases k3 : 3 ≤ m
      · by_cases k8 : m ≤ 8
        · obtain ⟨a, rfl⟩ := Int.eq_ofNat_of_zero_le (show 0 ≤ n by omega)
          obtain ⟨b, rfl⟩ := Int.eq_ofNat_of_zero_le (show 0 ≤ m by omega)
          have hv : circlesRes (a : Int) (b : Int) = sumRes false a (bitsOf (fun _ => false) a) (gridOf (nextB a) a) b (bitsOf (fun _ => false) b) (gridOf (nextB b) b) := by
            simp [circlesRes, inB_true h3 h8, inB_true k3 k8]
          rw [hv]; clear hv
          have HC1 := Lib.hid (fun w => implCircle_any a w (by omega))
          have HC2 := Lib.hid (fun w => implCircle_any b w (by omega))
          have HD := Lib.hid (fun w => implDisjoint_any a (bitsOf (fun _ => false) a) (gridOf (nextB a) a) b (bitsOf (fun _ => false) b) (gridOf (nextB b) b) w (valid_bits (by omega) (by omega) _ _) (valid_bits (by omega) (by omega) _ _))
          unfold circleV at HC1 HC2
          generalize bitsOf (fun _ => false) a = S at *
          generalize bitsOf (fun _ => false) b = S2 at *
          generalize gridOf (nextB a) a = R at *
          generalize gridOf (nextB b) b = R2 at *
          obtain ⟨N, T, U, z, hv⟩ := sumRes_form false a S R b S2 R2
          rw [hv] at HD ⊢
          clear hv
          unfold strV at HC1 HC2 HD
          go_enter Tryz.func5, Tryz.ntmps5
          go_wp2_with fail
          refine (HC1.out _).mono ?_; rintro e w1 ⟨rfl, hb⟩
          have HB1 : Hid (Below w.heap.size w w1) := ((Below.refl _ _).alloc (Nat.le_refl _) _).trans (hb.mono (by simp))
          have HR1 : Hid (SBlk w1 w.heap.size 0 ByteArray.empty ByteArray.empty) := (SBlk.new w 0 ByteArray.empty ByteArray.empty).below hb (by simp)
          clear hb
          go_wp2_with fail
          refine (HC2.out _).mono ?_; rintro e w2 ⟨rfl, hb⟩
          have HB2 := Lib.hid (HB1.out.trans (hb.mono HB1.out.size))
          have HR2 : Hid (SBlk w2 w.heap.size 0 ByteArray.empty ByteArray.empty) := HR1.out.below hb HR1.out.cells.2.2.2.2.2.2
          clear hb
          go_wp2_with fail
          refine (HD.out _).mono ?_; rintro e w3 ⟨rfl, hb⟩
          have HB3 := Lib.hid (HB2.out.trans (hb.mono HB2.out.size))
          have HR3 : Hid (SBlk w3 w.heap.size 0 ByteArray.empty ByteArray.empty) := HR2.out.below hb HR2.out.cells.2.2.2.2.2.2
          clear hb
          obtain ⟨c0, c1, c2, f0, f1, f2, hl⟩ := HR3.out.cells
          go_wp2_with fail
          refine bodyPost_ret (v := .tuple #[strV N T U, .bool z]) ?_ rfl ⟨rfl, ?_⟩
          · exact results_str2 rfl rfl HR3.out.set3 rfl
          · exact ((HB3.out.setCell (by simp) _).setCell (by simp) _).setCell (by simp) _
        · have hv : circlesRes n m = .tuple #[strV 0 ByteArray.empty ByteArray.empty, .bool false] := by simp [circlesRes, inB_hi (lo := 3) k8]
          rw [hv]; clear hv
          go_enter Tryz.func5, Tryz.ntmps5
          go_wp2_with fail
          refine bodyPost_ret (v := .tuple #[strV 0 ByteArray.empty ByteArray.empty, .bool false]) ?_ rfl ⟨rfl, ?_⟩
          · exact results_str2 rfl rfl (SBlk.new w 0 ByteArray.empty ByteArray.empty) rfl
          · exact (Below.refl _ _).alloc (Nat.le_refl _) _
      · have hv : circlesRes n m = .tuple #[strV 0 ByteArray.empty ByteArray.empty, .bool false] := by simp [circlesRes, inB_lo (hi := 8) k3]
        rw [hv]; clear hv
        go_enter Tryz.func5, Tryz.ntmps5
        go_wp2_with fail
        refine bodyPost_ret (v := .tuple #[strV 0 ByteArray.empty ByteArray.empty, .bool false]) ?_ rfl ⟨rfl, ?_⟩
        · exact results_str2 rfl rfl (SBlk.new w 0 ByteArray.empty ByteArray.empty) rfl
        · exact (Below.refl _ _).alloc (Nat.le_refl _) _
    · have hv : circlesRes n m = .tuple #[strV 0 ByteArray.empty ByteArray.empty, .bool false] := by simp [circlesRes, inB_hi (lo := 3) h8]
      rw [hv]; clear hv
      go_enter Tryz.func5, Tryz.ntmps5
      go_wp2_with fail
      refine bodyPost_ret (v := .tuple #[strV 0 ByteArray.empty ByteArray.empty, .bool false]) ?_ rfl ⟨rfl, ?_⟩
      · exact results_str2 rfl rfl (SBlk.new w 0 ByteArray.empty ByteArray.empty) rfl
      · exact (Below.refl _ _).alloc (Nat.le_refl _) _
  · have hv : circlesRes n m = .tuple #[strV 0 ByteArray.empty ByteArray.empty, .bool false] := by simp [circlesRes, inB_lo (hi := 8) h3]
    rw [hv]; clear hv
    go_enter Tryz.func5, Tryz.ntmps5
    go_wp2_with fail
    refine bodyPost_ret (v := .tuple #[strV 0 ByteArray.empty ByteArray.empty, .bool false]) ?_ rfl ⟨rfl, ?_⟩
    · exact results_str2 rfl rfl (SBlk.new w 0 ByteArray.empty ByteArray.empty) rfl
    · exact (Below.refl _ _).alloc (Nat.le_refl _) _
theorem specCirclesOf_any (n m : Int) (w : World) :
    Calls Tryz.prog 6 #[.int .i64 n, .int .i64 m] w fun e w' => e = .returned (circlesRes n m) ∧ Below w.heap.size w w' := by
  cases h3 : inB n 3 8
  · have HI := Lib.hid h3
    have hv : circlesRes n m = .tuple #[strV 0 ByteArray.empty ByteArray.empty, .bool false] := by simp [circlesRes, h3]
    rw [hv]; clear hv h3
    go_enter Tryz.func6, Tryz.ntmps6
    go_wp2_with fail
    refine (l1In_is _ HI.out).mono ?_; rintro e w' ⟨rfl, rfl⟩
    go_wp2_with fail
    refine bodyPost_ret (v := .tuple #[strV 0 ByteArray.empty ByteArray.empty, .bool false]) ?_ rfl ⟨rfl, ?_⟩
    · exact results_str2 rfl rfl (SBlk.new w 0 ByteArray.empty ByteArray.empty) rfl
    · exact (Below.refl _ _).alloc (Nat.le_refl _) _
  · cases k3 : inB m 3 8
    · have HI := Lib.hid h3
      have HK := Lib.hid k3
      have hv : circlesRes n m = .tuple #[strV 0 ByteArray.empty ByteArray.empty, .bool false] := by simp [circlesRes, k3]
      rw [hv]; clear hv h3 k3
      go_enter Tryz.func6, Tryz.ntmps6
      go_wp2_with fail
      refine (l1In_is _ HI.out).mono ?_; rintro e w' ⟨rfl, rfl⟩
      go_wp2_with fail
      refine (l1In_is _ HK.out).mono ?_; rintro e w' ⟨rfl, rfl⟩
      go_wp2_with fail
      refine bodyPost_ret (v := .tuple #[strV 0 ByteArray.empty ByteArray.empty, .bool false]) ?_ rfl ⟨rfl, ?_⟩
      · exact results_str2 rfl rfl (SBlk.new w 0 ByteArray.empty ByteArray.empty) rfl
      · exact (Below.refl _ _).alloc (Nat.le_refl _) _
    · obtain ⟨x3, x8⟩ := inB_iff.1 h3
      obtain ⟨y3, y8⟩ := inB_iff.1 k3
      obtain ⟨a, rfl⟩ := Int.eq_ofNat_of_zero_le (show 0 ≤ n by omega)
      obtain ⟨b, rfl⟩ := Int.eq_ofNat_of_zero_le (show 0 ≤ m by omega)
      have hv : circlesRes (a : Int) (b : Int) = sumRes false a (bitsOf (fun _ => false) a) (gridOf (nextB a) a) b (bitsOf (fun _ => false) b) (gridOf (nextB b) b) := by
        simp [circlesRes, h3, k3]
      rw [hv]; clear hv
      have HI := Lib.hid h3; have HK := Lib.hid k3
      clear h3 k3
      have HC1 := Lib.hid (fun w => l13Circle_any a w (by omega))
      have HC2 := Lib.hid (fun w => l13Circle_any b w (by omega))
      have HD := Lib.hid (fun w => specDisjoint_any a (bitsOf (fun _ => false) a) (gridOf (nextB a) a) b (bitsOf (fun _ => false) b) (gridOf (nextB b) b) w (valid_bits (by omega) (by omega) _ _) (valid_bits (by omega) (by omega) _ _))
      unfold circleV at HC1 HC2
      generalize bitsOf (fun _ => false) a = S at *
      generalize bitsOf (fun _ => false) b = S2 at *
      generalize gridOf (nextB a) a = R at *
      generalize gridOf (nextB b) b = R2 at *
      obtain ⟨N, T, U, z, hv⟩ := sumRes_form false a S R b S2 R2
      rw [hv] at HD ⊢
      clear hv
      unfold strV at HC1 HC2 HD
      go_enter Tryz.func6, Tryz.ntmps6
      go_wp2_with fail
      refine (l1In_is _ HI.out).mono ?_; rintro e w' ⟨rfl, rfl⟩
      go_wp2_with fail
      refine (l1In_is _ HK.out).mono ?_; rintro e w' ⟨rfl, rfl⟩
      go_wp2_with fail
      refine (HC1.out _).mono ?_; rintro e w1 ⟨rfl, hb⟩
      have HB1 : Hid (Below w.heap.size w w1) := ((Below.refl _ _).alloc (Nat.le_refl _) _).trans (hb.mono (by simp))
      have HR1 : Hid (SBlk w1 w.heap.size 0 ByteArray.empty ByteArray.empty) := (SBlk.new w 0 ByteArray.empty ByteArray.empty).below hb (by simp)
      clear hb
      go_wp2_with fail
      refine (HC2.out _).mono ?_; rintro e w2 ⟨rfl, hb⟩
      have HB2 := Lib.hid (HB1.out.trans (hb.mono HB1.out.size))
      have HR2 : Hid (SBlk w2 w.heap.size 0 ByteArray.empty ByteArray.empty) := HR1.out.below hb HR1.out.cells.2.2.2.2.2.2
      clear hb
      go_wp2_with fail
      refine (HD.out _).mono ?_; rintro e w3 ⟨rfl, hb⟩
      have HB3 := Lib.hid (HB2.out.trans (hb.mono HB2.out.size))
      have HR3 : Hid (SBlk w3 w.heap.size 0 ByteArray.empty ByteArray.empty) := HR2.out.below hb HR2.out.cells.2.2.2.2.2.2
      clear hb
      obtain ⟨c0, c1, c2, f0, f1, f2, hl⟩ := HR3.out.cells
      go_wp2_with fail
      refine bodyPost_ret (v := .tuple #[strV N T U, .bool z]) ?_ rfl ⟨rfl, ?_⟩
      · exact results_str2 rfl rfl HR3.out.set3 rfl
      · exact ((HB3.out.setCell (by simp) _).setCell (by simp) _).setCell (by simp) _
end Go.Proofs.YtfhogenjpepfnaaGreatDoor

/- Contracts of the program's functions and what they compute: part 34. Conditions: those that each theorem states. -/
import Derived.Test.YtfhogenjpepfnaaGreatDoorP51n20
namespace Go.Proofs.YtfhogenjpepfnaaGreatDoor
open Go.RowKit
set_option linter.unusedVariables false
theorem sum_bit (o : Bool) (n : Nat) (R : ByteArray) (m : Nat) (R2 : ByteArray) (x y : Nat) (hy : y < n + m) :
    bitsOf (fun k => sumRel o n R m R2 (k / (n + m)) (k % (n + m))) (x * (n + m) + (y + 1)) = bitsOf (fun k => sumRel o n R m R2 (k / (n + m)) (k % (n + m))) (x * (n + m) + y) ++ bitS (sumRel o n R m R2 x y) := by
  show bitsOf (fun k => sumRel o n R m R2 (k / (n + m)) (k % (n + m))) (x * (n + m) + y + 1) = _
  rw [bitsOf_succ]
  exact congrArg (fun b => bitsOf (fun k => sumRel o n R m R2 (k / (n + m)) (k % (n + m))) (x * (n + m) + y) ++ bitS b) (grid_at (r := sumRel o n R m R2) (x := x) hy)
theorem l1Bit_calm (b : Bool) (w : World) : Calls Tryz.prog 38 #[.bool b] w fun e w' => e = .returned (.string (bitS b)) ∧ w' = w :=
  (l1Bit_any b w).mono fun _ _ h => ⟨h.1, h.2.symm⟩
set_option maxRecDepth 100000 in
set_option maxHeartbeats 2000000 in
theorem l10Sum_any (o : Bool) (n : Nat) (S R : ByteArray) (m : Nat) (S2 R2 : ByteArray) (w : World) (h1 : validB n S R = true) (h2 : validB m S2 R2 = true) (hnm : n + m ≤ 8) :
    Calls Tryz.prog 36 #[strV n S R, strV m S2 R2, .bool o] w fun e w' => e = .returned (sumV o n S R m S2 R2) ∧ Below w.heap.size w w' := by
  obtain ⟨a1, a8, aS, aR, aT, _⟩ := valid_is h1
  obtain ⟨b1, b8, bS, bR, bT, _⟩ := valid_is h2
  have HT := Lib.hid (sum_set aT bT)
  have HL1 := Lib.hid (fun x y w hx hy => l1Rel_any n S R x y w hx hy a8 aR)
  have HL2 := Lib.hid (fun x y w hx hy => l1Rel_any m S2 R2 x y w hx hy b8 bR)
  have HB := Lib.hid (fun x y hy => sum_bit o n R m R2 x y hy)
  have HQ : Hid (∀ x y, (x < n → y < n → relAt n R x y = sumRel o n R m R2 x y) ∧ (x < n → ¬ y < n → o = sumRel o n R m R2 x y) ∧ (¬ x < n → y < n → false = sumRel o n R m R2 x y) ∧ (¬ x < n → ¬ y < n → relAt m R2 (x - n) (y - n) = sumRel o n R m R2 x y)) := by
    intro x y
    unfold sumRel
    refine ⟨fun h h' => ?_, fun h h' => ?_, fun h h' => ?_, fun h h' => ?_⟩ <;> simp [h, h']
  have HI0 : Hid (SumInv w (((boxS (boxS w n S R) m S2 R2).alloc (.cells #[.int .i64 0, .string ByteArray.empty, .string ByteArray.empty] 26)).alloc (.cells #[.int .i64 ((n : Int) + (m : Int)), .string (S ++ S2), .string ByteArray.empty] 26)) n S R m S2 R2 (S ++ S2) (bitsOf (fun k => sumRel o n R m R2 (k / (n + m)) (k % (n + m))) (0 * (n + m)))) := by
    have hb0 := boxS_below w n S R
    have hb1 : Below w.heap.size w (boxS (boxS w n S R) m S2 R2) := hb0.trans ((boxS_below (boxS w n S R) m S2 R2).mono (by rw [boxS_size]; omega))
    refine ⟨?_, ?_, ?_, ?_, ?_⟩
    · exact (((boxS_SBlk w n S R).below (boxS_below (boxS w n S R) m S2 R2) (by rw [boxS_size]; omega)).below ((Below.refl _ _).alloc (Nat.le_refl _) _) (by rw [boxS_size, boxS_size]; omega)).below ((Below.refl _ _).alloc (Nat.le_refl _) _) (by simp [boxS] <;> omega)
    · have h := boxS_SBlk (boxS w n S R) m S2 R2
      rw [boxS_size] at h
      exact (h.below ((Below.refl _ _).alloc (Nat.le_refl _) _) (by rw [boxS_size, boxS_size]; omega)).below ((Below.refl _ _).alloc (Nat.le_refl _) _) (by simp [boxS] <;> omega)
    · have h := SBlk.new (boxS (boxS w n S R) m S2 R2) 0 ByteArray.empty ByteArray.empty
      rw [boxS_size, boxS_size] at h
      exact h.below ((Below.refl _ _).alloc (Nat.le_refl _) _) (by simp [boxS] <;> omega)
    · have h := SBlk.new ((boxS (boxS w n S R) m S2 R2).alloc (.cells #[.int .i64 0, .string ByteArray.empty, .string ByteArray.empty] 26)) ((n : Int) + (m : Int)) (S ++ S2) ByteArray.empty
      simpa [boxS, bitsOf_zero] using h
    · exact (hb1.alloc hb1.size _).alloc (by have := hb1.size; simp; omega) _
  unfold boxS at HI0
  have hz : (S ++ S2).size ≤ 16 := by rw [ByteArray.size_append]; omega
  have hz0 : S.size + S2.size ≤ 16 := by omega
  clear aS aR aT bS bR bT h1 h2
  unfold strV
  go_enter Tryz.func36, Tryz.ntmps36
  go_wp2_with fail
  go_loopw [8, 9, 10] (fun i _ _ wr => ∃ x : Nat, x ≤ n + m ∧ i = .int .i64 x ∧ Hid (SumInv w wr n S R m S2 R2 (S ++ S2) (bitsOf (fun k => sumRel o n R m R2 (k / (n + m)) (k % (n + m))) (x * (n + m))))) (fun i _ _ _ => n + m - (intOf i).toNat)
  case atStart => exact ⟨0, by omega, rfl, HI0.out⟩
  case round =>
    obtain ⟨x, hx, rfl, HI⟩ := hrel
    by_cases hlt : x < n + m
    · have hltI : (x : Int) < (n : Int) + (m : Int) := by omega
      obtain ⟨c0, c1, c2, f0, f1, f2, hl⟩ := HI.out.out.cells
      go_wp2_with fail
      clear c0 c1 c2 f0 f1 f2 hl
      go_loopw [9, 10] (fun j _ wr => ∃ y : Nat, y ≤ n + m ∧ j = .int .i64 y ∧ Hid (SumInv w wr n S R m S2 R2 (S ++ S2) (bitsOf (fun k => sumRel o n R m R2 (k / (n + m)) (k % (n + m))) (x * (n + m) + y)))) (fun j _ _ => n + m - (intOf j).toNat)
      case atStart => exact ⟨0, by omega, rfl, HI.out⟩
      case round =>
        obtain ⟨y, hy, rfl, HJ⟩ := hrel
        by_cases hlt2 : y < n + m
        · have hltJ : (y : Int) < (n : Int) + (m : Int) := by omega
          obtain ⟨c0, c1, c2, f0, f1, f2, hl⟩ := HJ.out.out.cells
          obtain ⟨d0, d1, d2, g0, g1, g2, hl2⟩ := HJ.out.a.cells
          obtain ⟨e0, e1, e2, k0, k1, k2, hl3⟩ := HJ.out.b.cells
          have hxy : x * (n + m) + y ≤ 64 := by
            have h1 : x * (n + m) ≤ 7 * 8 := Nat.mul_le_mul (by omega) hnm
            omega
          have z0 : (bitsOf (fun k => sumRel o n R m R2 (k / (n + m)) (k % (n + m))) (x * (n + m) + y)).size ≤ 64 := by rw [bitsOf_size]; exact hxy
          have z1 : ∀ b, (bitS b).size ≤ 1 := fun _ => Nat.le_refl _
          have HG := Lib.hid (HB.out x y hlt2)
          have HQ1 := Lib.hid (HQ.out x y)
          clear hxy
          generalize bitsOf (fun k => sumRel o n R m R2 (k / (n + m)) (k % (n + m))) (x * (n + m) + y) = G at *
          by_cases h : x < n
          · by_cases h' : y < n
            · have HR := Lib.hid (HQ1.out.1 h h')
              have HL := Lib.hid (fun w => HL1.out x y w h h')
              generalize relAt n R x y = b at *
              cases o
              · go_wp2_with fail
                refine (HL.out _).mono ?_; rintro e w1 ⟨rfl, rfl⟩
                have HJ1 := Lib.hid (HJ.out.below (boxS_below wr n S R))
                clear c0 c1 c2 f0 f1 f2 hl d0 d1 d2 g0 g1 g2 hl2 e0 e1 e2 k0 k1 k2 hl3
                obtain ⟨c0, c1, c2, f0, f1, f2, hl⟩ := HJ1.out.out.cells
                obtain ⟨d0, d1, d2, g0, g1, g2, hl2⟩ := HJ1.out.a.cells
                obtain ⟨e0, e1, e2, k0, k1, k2, hl3⟩ := HJ1.out.b.cells
                go_wp2_with fail
                refine wp_region_still_tail 6 (by kernel_rfl) (by kernel_rfl) ?_
                simp only [List.take_succ_cons, List.take_zero, List.drop_succ_cons, List.drop_zero]
                change wpStill _ _ (boxS wr n S R).drew _ _ _
                iterate 3 still_step
                still_call (l1Bit_calm b _)
                have hz : ¬ 9223372036854775807 < G.size + (bitS b).size := by have := z1 b; omega
                iterate 2 still_step
                clear hz
                refine wpStill_nil ?_
                change wpList _ _ _ _ _ (boxS wr n S R).drew
                have HI2 := Lib.hid (HJ1.out.drew.set2 (G ++ bitS b))
                go_wp2_with fail
                go_roundw
                case rel =>
                  refine ⟨y + 1, by omega, by go_num, ?_⟩
                  rw [HG.out, ← HR.out]
                  exact HI2.out
                case measure => simp [intOf]; omega
              · go_wp2_with fail
                refine (HL.out _).mono ?_; rintro e w1 ⟨rfl, rfl⟩
                have HJ1 := Lib.hid (HJ.out.below (boxS_below wr n S R))
                clear c0 c1 c2 f0 f1 f2 hl d0 d1 d2 g0 g1 g2 hl2 e0 e1 e2 k0 k1 k2 hl3
                obtain ⟨c0, c1, c2, f0, f1, f2, hl⟩ := HJ1.out.out.cells
                obtain ⟨d0, d1, d2, g0, g1, g2, hl2⟩ := HJ1.out.a.cells
                obtain ⟨e0, e1, e2, k0, k1, k2, hl3⟩ := HJ1.out.b.cells
                go_wp2_with fail
                refine wp_region_still_tail 6 (by kernel_rfl) (by kernel_rfl) ?_
                simp only [List.take_succ_cons, List.take_zero, List.drop_succ_cons, List.drop_zero]
                change wpStill _ _ (boxS wr n S R).drew _ _ _
                iterate 3 still_step
                still_call (l1Bit_calm b _)
                have hz : ¬ 9223372036854775807 < G.size + (bitS b).size := by have := z1 b; omega
                iterate 2 still_step
                clear hz
                refine wpStill_nil ?_
                change wpList _ _ _ _ _ (boxS wr n S R).drew
                have HI2 := Lib.hid (HJ1.out.drew.set2 (G ++ bitS b))
                go_wp2_with fail
                go_roundw
                case rel =>
                  refine ⟨y + 1, by omega, by go_num, ?_⟩
                  rw [HG.out, ← HR.out]
                  exact HI2.out
                case measure => simp [intOf]; omega
            · have HR := Lib.hid (HQ1.out.2.1 h h')
              have hle : n ≤ y := by omega
              cases o
              · go_wp2_with fail
                refine wp_region_still_tail 6 (by kernel_rfl) (by kernel_rfl) ?_
                simp only [List.take_succ_cons, List.take_zero, List.drop_succ_cons, List.drop_zero]
                change wpStill _ _ (wr).drew _ _ _
                iterate 3 still_step
                still_call (l1Bit_calm false _)
                have hz : ¬ 9223372036854775807 < G.size + (bitS false).size := by have := z1 false; omega
                iterate 2 still_step
                clear hz
                refine wpStill_nil ?_
                change wpList _ _ _ _ _ (wr).drew
                have HI2 := Lib.hid (HJ.out.drew.set2 (G ++ bitS false))
                go_wp2_with fail
                go_roundw
                case rel =>
                  refine ⟨y + 1, by omega, by go_num, ?_⟩
                  rw [HG.out, ← HR.out]
                  exact HI2.out
                case measure => simp [intOf]; omega
              · go_wp2_with fail
                refine wp_region_still_tail 6 (by kernel_rfl) (by kernel_rfl) ?_
                simp only [List.take_succ_cons, List.take_zero, List.drop_succ_cons, List.drop_zero]
                change wpStill _ _ (wr).drew _ _ _
                iterate 3 still_step
                still_call (l1Bit_calm true _)
                have hz : ¬ 9223372036854775807 < G.size + (bitS true).size := by have := z1 true; omega
                iterate 2 still_step
                clear hz
                refine wpStill_nil ?_
                change wpList _ _ _ _ _ (wr).drew
                have HI2 := Lib.hid (HJ.out.drew.set2 (G ++ bitS true))
                go_wp2_with fail
                go_roundw
                case rel =>
                  refine ⟨y + 1, by omega, by go_num, ?_⟩
                  rw [HG.out, ← HR.out]
                  exact HI2.out
                case measure => simp [intOf]; omega
          · by_cases h' : y < n
            · have HR := Lib.hid (HQ1.out.2.2.1 h h')
              cases o
              · go_wp2_with fail
                refine wp_region_still_tail 6 (by kernel_rfl) (by kernel_rfl) ?_
                simp only [List.take_succ_cons, List.take_zero, List.drop_succ_cons, List.drop_zero]
                change wpStill _ _ (wr).drew _ _ _
                iterate 3 still_step
                still_call (l1Bit_calm false _)
                have hz : ¬ 9223372036854775807 < G.size + (bitS false).size := by have := z1 false; omega
                iterate 2 still_step
                clear hz
                refine wpStill_nil ?_
                change wpList _ _ _ _ _ (wr).drew
                have HI2 := Lib.hid (HJ.out.drew.set2 (G ++ bitS false))
                go_wp2_with fail
                go_roundw
                case rel =>
                  refine ⟨y + 1, by omega, by go_num, ?_⟩
                  rw [HG.out, ← HR.out]
                  exact HI2.out
                case measure => simp [intOf]; omega
              · go_wp2_with fail
                refine wp_region_still_tail 6 (by kernel_rfl) (by kernel_rfl) ?_
                simp only [List.take_succ_cons, List.take_zero, List.drop_succ_cons, List.drop_zero]
                change wpStill _ _ (wr).drew _ _ _
                iterate 3 still_step
                still_call (l1Bit_calm false _)
                have hz : ¬ 9223372036854775807 < G.size + (bitS false).size := by have := z1 false; omega
                iterate 2 still_step
                clear hz
                refine wpStill_nil ?_
                change wpList _ _ _ _ _ (wr).drew
                have HI2 := Lib.hid (HJ.out.drew.set2 (G ++ bitS false))
                go_wp2_with fail
                go_roundw
                case rel =>
                  refine ⟨y + 1, by omega, by go_num, ?_⟩
                  rw [HG.out, ← HR.out]
                  exact HI2.out
                case measure => simp [intOf]; omega
            · have HR := Lib.hid (HQ1.out.2.2.2 h h')
              have HL := Lib.hid (fun w => HL2.out (x - n) (y - n) w (by omega) (by omega))
              generalize relAt m R2 (x - n) (y - n) = b at *
              have hsub : IntKind.i64.wrap ((x : Int) - (n : Int)) = ((x - n : Nat) : Int) := by
                rw [show ((x : Int) - (n : Int)) = ((x - n : Nat) : Int) by omega]
                exact IntWalk.i64_in _ (by omega)
              have hsub2 : IntKind.i64.wrap ((y : Int) - (n : Int)) = ((y - n : Nat) : Int) := by
                rw [show ((y : Int) - (n : Int)) = ((y - n : Nat) : Int) by omega]
                exact IntWalk.i64_in _ (by omega)
              cases o
              · go_wp2_with fail
                refine (HL.out _).mono ?_; rintro e w1 ⟨rfl, rfl⟩
                have HJ1 := Lib.hid (HJ.out.below (boxS_below wr m S2 R2))
                clear c0 c1 c2 f0 f1 f2 hl d0 d1 d2 g0 g1 g2 hl2 e0 e1 e2 k0 k1 k2 hl3
                obtain ⟨c0, c1, c2, f0, f1, f2, hl⟩ := HJ1.out.out.cells
                obtain ⟨d0, d1, d2, g0, g1, g2, hl2⟩ := HJ1.out.a.cells
                obtain ⟨e0, e1, e2, k0, k1, k2, hl3⟩ := HJ1.out.b.cells
                go_wp2_with fail
                refine wp_region_still_tail 6 (by kernel_rfl) (by kernel_rfl) ?_
                simp only [List.take_succ_cons, List.take_zero, List.drop_succ_cons, List.drop_zero]
                change wpStill _ _ (boxS wr m S2 R2).drew _ _ _
                iterate 3 still_step
                still_call (l1Bit_calm b _)
                have hz : ¬ 9223372036854775807 < G.size + (bitS b).size := by have := z1 b; omega
                iterate 2 still_step
                clear hz
                refine wpStill_nil ?_
                change wpList _ _ _ _ _ (boxS wr m S2 R2).drew
                have HI2 := Lib.hid (HJ1.out.drew.set2 (G ++ bitS b))
                go_wp2_with fail
                go_roundw
                case rel =>
                  refine ⟨y + 1, by omega, by go_num, ?_⟩
                  rw [HG.out, ← HR.out]
                  exact HI2.out
                case measure => simp [intOf]; omega
              · go_wp2_with fail
                refine (HL.out _).mono ?_; rintro e w1 ⟨rfl, rfl⟩
                have HJ1 := Lib.hid (HJ.out.below (boxS_below wr m S2 R2))
                clear c0 c1 c2 f0 f1 f2 hl d0 d1 d2 g0 g1 g2 hl2 e0 e1 e2 k0 k1 k2 hl3
                obtain ⟨c0, c1, c2, f0, f1, f2, hl⟩ := HJ1.out.out.cells
                obtain ⟨d0, d1, d2, g0, g1, g2, hl2⟩ := HJ1.out.a.cells
                obtain ⟨e0, e1, e2, k0, k1, k2, hl3⟩ := HJ1.out.b.cells
                go_wp2_with fail
                refine wp_region_still_tail 6 (by kernel_rfl) (by kernel_rfl) ?_
                simp only [List.take_succ_cons, List.take_zero, List.drop_succ_cons, List.drop_zero]
                change wpStill _ _ (boxS wr m S2 R2).drew _ _ _
                iterate 3 still_step
                still_call (l1Bit_calm b _)
                have hz : ¬ 9223372036854775807 < G.size + (bitS b).size := by have := z1 b; omega
                iterate 2 still_step
                clear hz
                refine wpStill_nil ?_
                change wpList _ _ _ _ _ (boxS wr m S2 R2).drew
                have HI2 := Lib.hid (HJ1.out.drew.set2 (G ++ bitS b))
                go_wp2_with fail
                go_roundw
                case rel =>
                  refine ⟨y + 1, by omega, by go_num, ?_⟩
                  rw [HG.out, ← HR.out]
                  exact HI2.out
                case measure => simp [intOf]; omega
        · have hltJ : ¬ (y : Int) < (n : Int) + (m : Int) := by omega
          have HI2 : Hid (SumInv w wr n S R m S2 R2 (S ++ S2) (bitsOf (fun k => sumRel o n R m R2 (k / (n + m)) (k % (n + m))) ((x + 1) * (n + m)))) := by
            have h := HJ.out
            rw [show x * (n + m) + y = (x + 1) * (n + m) by rw [Nat.add_mul, Nat.one_mul]; omega] at h
            exact h
          obtain ⟨c0, c1, c2, f0, f1, f2, hl⟩ := HJ.out.out.cells
          go_wp2_with fail
          go_roundw
          case rel => exact ⟨x + 1, by omega, by go_num, HI2.out⟩
          case measure => simp [intOf]; omega
    · have hltI : ¬ (x : Int) < (n : Int) + (m : Int) := by omega
      obtain ⟨c0, c1, c2, f0, f1, f2, hl⟩ := HI.out.out.cells
      obtain ⟨d0, d1, d2, g0, g1, g2, hl2⟩ := HI.out.res.cells
      have hxn : x = n + m := by omega
      have HX := Lib.hid hxn; clear hxn
      go_wp2_with fail
      refine bodyPost_ret (v := sumV o n S R m S2 R2) ?_ rfl ⟨rfl, ?_⟩
      · unfold sumV gridOf
        have h := HI.out.res.set3 (n' := (n : Int) + (m : Int)) (S' := S ++ S2) (R' := bitsOf (fun k => sumRel o n R m R2 (k / (n + m)) (k % (n + m))) (x * (n + m)))
        rw [← HT.out, ← HX.out]
        rw [← HX.out] at h
        exact results_str rfl rfl h
      · exact ((HI.out.old.setCell (by simp <;> omega) _).setCell (by simp <;> omega) _).setCell (by simp <;> omega) _
end Go.Proofs.YtfhogenjpepfnaaGreatDoor

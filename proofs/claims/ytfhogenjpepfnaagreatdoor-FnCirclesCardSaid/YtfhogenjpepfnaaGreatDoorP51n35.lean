/- Contracts of the program's functions and what they compute: part 35. Conditions: those that each theorem states. -/
import Derived.Test.YtfhogenjpepfnaaGreatDoorP51n19
import Derived.StillTailTactics
import Derived.IntWalk
namespace Go.Proofs.YtfhogenjpepfnaaGreatDoor
open Go.RowKit
section
variable {P : Program} {w : World} {ops : Array Oper} {Q : Act → Prop} {a : Act} {o : Oper} {rest : List Oper}
theorem wpStill_skip (hw : Region.wanted o (yielded ops a.tmps) = false) (h : wpStill P ops w Q rest (a.put o.dst undef)) : wpStill P ops w Q (o :: rest) a :=
  wpStill_step fun K hK => by rw [hw]; exact hK _ h
theorem wpStill_go (hw : Region.wanted o (yielded ops a.tmps) = true) (h : ∀ K : Act → Prop, (∀ a, wpStill P ops w Q rest a → K a) → o.still P a w K) : wpStill P ops w Q (o :: rest) a :=
  wpStill_step fun K hK => by rw [hw]; exact h K hK
end
theorem l1Bit_still (b : Bool) (w : World) : Calls Tryz.prog 38 #[.bool b] w fun e w' => e = .returned (.string (bitS b)) ∧ w' = w :=
  (l1Bit_any b w).mono fun _ _ h => ⟨h.1, h.2.symm⟩
theorem rep_bits (n : Nat) : rep ⟨#[48]⟩ n = bitsOf (fun _ => false) n := by
  have h : ∀ n, bitsOf (fun _ => false) (n + 1) = bitS false ++ bitsOf (fun _ => false) n := by
    intro n
    induction n with
    | zero => rfl
    | succ n ih =>
      rw [bitsOf_succ, ih, ba_assoc, ← bitsOf_succ, ih]
  induction n with
  | zero => rfl
  | succ n ih => rw [h, ← ih]; rfl
set_option maxRecDepth 100000 in
set_option maxHeartbeats 1000000 in
theorem l13Circle_any (n : Nat) (w : World) (hn : n ≤ 8) :
    Calls Tryz.prog 19 #[.int .i64 (n : Int)] w fun e w' => e = .returned (circleV n) ∧ Below w.heap.size w w' := by
  go_enter Tryz.func19, Tryz.ntmps19
  go_wp2_with fail
  refine (l15Many_any ⟨#[48]⟩ n _ (by decide) (by omega)).mono ?_; rintro e w' ⟨rfl, rfl⟩
  rw [rep_bits]
  generalize hS : bitsOf (fun _ => false) n = S at *
  have HS := Lib.hid hS; clear hS
  go_wp2_with fail
  have HI0 : Hid (MkInv w ((w.alloc (.cells #[.int .i64 0, .string ByteArray.empty, .string ByteArray.empty] 26)).alloc (.cells #[.int .i64 n, .string S, .string ByteArray.empty] 26)) n S (bitsOf (fun k => nextB n (k / n) (k % n)) (0 * n))) := by
    refine ⟨?_, ?_, ((Below.refl _ _).alloc (Nat.le_refl _) _).alloc (by simp) _⟩
    · exact (Below.heap_alloc _ _ _ (by simp)).trans (SBlk.new w 0 ByteArray.empty ByteArray.empty)
    · have h := SBlk.new (w.alloc (.cells #[.int .i64 0, .string ByteArray.empty, .string ByteArray.empty] 26)) n S ByteArray.empty
      simpa [bitsOf_zero] using h
  go_loopw [4, 5] (fun i _ wr => ∃ x : Nat, x ≤ n ∧ i = .int .i64 x ∧ Hid (MkInv w wr n S (bitsOf (fun k => nextB n (k / n) (k % n)) (x * n)))) (fun i _ _ => n - (intOf i).toNat)
  case atStart => exact ⟨0, by omega, rfl, HI0.out⟩
  case round =>
    obtain ⟨x, hx, rfl, HI⟩ := hrel
    by_cases hlt : x < n
    · go_wp2_with fail
      go_loopw [5] (fun j wr => ∃ y : Nat, y ≤ n ∧ j = .int .i64 y ∧ Hid (MkInv w wr n S (bitsOf (fun k => nextB n (k / n) (k % n)) (x * n + y)))) (fun j _ => n - (intOf j).toNat)
      case atStart => exact ⟨0, by omega, rfl, HI.out⟩
      case round =>
        obtain ⟨y, hy, rfl, HJ⟩ := hrel
        by_cases hlt2 : y < n
        · obtain ⟨c0, c1', c2', f0, f1, f2, hb⟩ := HJ.out.out.cells
          have hn0 : (0 : Int) < n := by omega
          have hn1 : ¬ n = 0 := by omega
          have hxy : x * n + y ≤ 64 := by
            have h1 : x * n ≤ 7 * 8 := Nat.mul_le_mul (by omega) hn
            omega
          have z0 : (bitsOf (fun k => nextB n (k / n) (k % n)) (x * n + y)).size ≤ 64 := by rw [bitsOf_size]; exact hxy
          have z1 : ∀ b, (bitS b).size ≤ 1 := fun _ => Nat.le_refl _
          have HG : Hid (bitsOf (fun k => nextB n (k / n) (k % n)) (x * n + (y + 1)) = bitsOf (fun k => nextB n (k / n) (k % n)) (x * n + y) ++ bitS (nextB n x y)) := by
            show bitsOf (fun k => nextB n (k / n) (k % n)) (x * n + y + 1) = _
            rw [bitsOf_succ]
            exact congrArg (fun b => bitsOf (fun k => nextB n (k / n) (k % n)) (x * n + y) ++ bitS b) (grid_at (r := nextB n) (x := x) hlt2)
          clear hxy
          generalize bitsOf (fun k => nextB n (k / n) (k % n)) (x * n + y) = G at *
          have hor : ((((x : Int) + 1) % (n : Int) == (y : Int)) = true ∧ nextB n x y = true) ∨ ((((x : Int) + 1) % (n : Int) == (y : Int)) = false ∧ (((y : Int) + 1) % (n : Int) == (x : Int)) = nextB n x y) := by
            rw [mod_beq, mod_beq]
            cases h : decide ((x + 1) % n = y)
            · exact .inr ⟨rfl, by simp [nextB, h]⟩
            · exact .inl ⟨rfl, by simp [nextB, h]⟩
          have wx : IntKind.i64.wrap ((x : Int) + 1) = (x : Int) + 1 := IntWalk.i64_in _ (by omega)
          have wy : IntKind.i64.wrap ((y : Int) + 1) = (y : Int) + 1 := IntWalk.i64_in _ (by omega)
          have tx : ((x : Int) + 1).tmod (n : Int) = ((x : Int) + 1) % (n : Int) := Int.tmod_eq_emod_of_nonneg (by omega)
          have ty : ((y : Int) + 1).tmod (n : Int) = ((y : Int) + 1) % (n : Int) := Int.tmod_eq_emod_of_nonneg (by omega)
          rcases hor with ⟨e1, e2⟩ | ⟨e1, e2⟩
          · have HE := Lib.hid e2; clear e2
            go_wp2_with fail
            refine wp_region_still_tail 19 (by kernel_rfl) (by kernel_rfl) ?_
            simp only [List.take_succ_cons, List.take_zero, List.drop_succ_cons, List.drop_zero]
            change wpStill _ _ wr.drew _ _ _
            iterate 9 still_step
            iterate 6 ((with_reducible refine wpStill_skip ?_ ?_); kernel_rfl)
            with_reducible refine wpStill_go ?_ (fun K hK => ?_)
            kernel_rfl
            go_simp
            refine hK _ ?_
            clear hK K
            still_call (l1Bit_still true _)
            have hz : ¬ 9223372036854775807 < G.size + (bitS true).size := by have := z1 true; omega
            iterate 2 still_step
            clear hz
            refine wpStill_nil ?_
            change wpList _ _ _ _ _ wr.drew
            all_goals
              have HI2 := Lib.hid (HJ.out.drew.set2 (G ++ bitS true))
              go_wp2_with fail
              go_roundw
              case rel =>
                refine ⟨y + 1, by omega, by go_num, ?_⟩
                rw [HG.out, HE.out]
                exact HI2.out
              case measure => simp [intOf]; omega
          · generalize nextB n x y = b at *
            go_wp2_with fail
            refine wp_region_still_tail 19 (by kernel_rfl) (by kernel_rfl) ?_
            simp only [List.take_succ_cons, List.take_zero, List.drop_succ_cons, List.drop_zero]
            change wpStill _ _ wr.drew _ _ _
            iterate 9 still_step
            iterate 7 ((with_reducible refine wpStill_go ?_ (fun K hK => ?_)); kernel_rfl; go_simp; refine hK _ ?_; clear hK K)
            still_call (l1Bit_still b _)
            have hz : ¬ 9223372036854775807 < G.size + (bitS b).size := by have := z1 b; omega
            iterate 2 still_step
            clear hz
            refine wpStill_nil ?_
            change wpList _ _ _ _ _ wr.drew
            all_goals
              have HI2 := Lib.hid (HJ.out.drew.set2 (G ++ bitS b))
              go_wp2_with fail
              go_roundw
              case rel =>
                refine ⟨y + 1, by omega, by go_num, ?_⟩
                rw [HG.out]
                exact HI2.out
              case measure => simp [intOf]; omega
        · have HI2 : Hid (MkInv w wr n S (bitsOf (fun k => nextB n (k / n) (k % n)) ((x + 1) * n))) := by
            have h := HJ.out
            rw [show x * n + y = (x + 1) * n by rw [Nat.add_mul, Nat.one_mul]; omega] at h
            exact h
          go_wp2_with fail
          go_roundw
          case rel => exact ⟨x + 1, by omega, by go_num, HI2.out⟩
          case measure => simp [intOf]; omega
    · obtain ⟨c0, c1', c2', f0, f1, f2, hb⟩ := HI.out.out.cells
      obtain ⟨d0, d1, d2, g0, g1, g2, hb'⟩ := HI.out.res.cells
      have hxn : x = n := by omega
      subst hxn
      go_wp2_with fail
      refine bodyPost_ret (v := circleV x) ?_ rfl ⟨rfl, ?_⟩
      · unfold circleV
        rw [HS.out]
        exact results_str rfl rfl HI.out.res.set3
      · exact ((HI.out.old.setCell (by simp) _).setCell (by simp) _).setCell (by simp) _
end Go.Proofs.YtfhogenjpepfnaaGreatDoor

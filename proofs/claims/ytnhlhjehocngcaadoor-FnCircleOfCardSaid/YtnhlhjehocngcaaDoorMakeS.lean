/- makeStructure where the set is another structure's own. Conditions: those that each states. -/
import Derived.Test.YtnhlhjehocngcaaDoorMakeE
import Derived.Test.YtnhlhjehocngcaaDoorStill
namespace Go.Proofs.YtnhlhjehocngcaaDoor
open Go.RowKit
set_option linter.unusedVariables false
set_option maxRecDepth 100000

set_option maxHeartbeats 1000000 in
theorem makeStructure_set (n : Nat) (hn : n ≤ 8) (S0 R0 : ByteArray) (hS0 : S0.size = n) (k2 : FuncId) (c2 : Array Value) (r : Nat → Nat → Bool) (w : World)
    (hk2 : ∀ (args : Array Value) (W : World), (callFunc k2 args).run Tryd.prog W = .ok (.enter k2 args) W)
    (hr : ∀ x y W, x < n → y < n → Below w.heap.size w W → Calls Tryd.prog k2 (#[.int .i64 (x : Int), .int .i64 (y : Int)] ++ c2) W fun e w' => e = .returned (.bool (r x y)) ∧ Below W.heap.size W w') :
    Calls Tryd.prog 30 #[.int .i64 (n : Int), .func (.func 31) #[strV n S0 R0] #[], .func (.func k2) #[] c2] w fun e w' => e = .returned (strV n (bitsOf (oneAt S0) n) (gridOf r n)) ∧ Below w.heap.size w w' := by
  have HS : Hid (∀ x W, x < n → Below w.heap.size w W → Calls Tryd.prog 31 #[strV n S0 R0, .int .i64 (x : Int)] W fun e w' => e = .returned (.bool (oneAt S0 x)) ∧ Below W.heap.size W w') := fun x W hx _ => inSet_b n S0 R0 x W (by omega) (by omega)
  have HR := Lib.hid hr; clear hr
  obtain ⟨s, hsd⟩ : ∃ s : Nat → Bool, oneAt S0 = s := ⟨_, rfl⟩
  rw [hsd] at HS ⊢
  clear hsd hS0
  unfold strV at HS ⊢
  go_enter Tryd.func30, Tryd.ntmps30
  go_wp2_with fail
  have hI0 : MkInv w ((w.alloc (.cells #[.int .i64 0, .string ByteArray.empty, .string ByteArray.empty] 25)).alloc (.cells #[.int .i64 n, .string ByteArray.empty, .string ByteArray.empty] 25)) n (bitsOf s 0) (bitsOf (fun k => r (k / n) (k % n)) (0 * n)) := by
    refine ⟨?_, ?_, ((Below.refl _ _).alloc (Nat.le_refl _) _).alloc (by simp) _⟩
    · exact (Below.heap_alloc _ _ _ (by simp)).trans (SBlk.new w 0 ByteArray.empty ByteArray.empty)
    · have h := SBlk.new (w.alloc (.cells #[.int .i64 0, .string ByteArray.empty, .string ByteArray.empty] 25)) n ByteArray.empty ByteArray.empty
      simpa [bitsOf_zero] using h
  have HI0 := Lib.hid hI0; clear hI0
  go_loopw [13, 8] (fun i _ wr => ∃ x : Nat, x ≤ n ∧ i = .int .i64 x ∧ Hid (MkInv w wr n (bitsOf s x) (bitsOf (fun k => r (k / n) (k % n)) (x * n)))) (fun i _ _ => n - (intOf i).toNat)
  case atStart => exact ⟨0, by omega, rfl, HI0.out⟩
  case round =>
    obtain ⟨x, hx, rfl, HI⟩ := hrel
    by_cases hlt : x < n
    · obtain ⟨c0, c1', c2', f0, f1, f2, hb⟩ := HI.out.out.cells
      have z0 : (bitsOf s x).size ≤ 8 := by rw [bitsOf_size]; omega
      have z1 : (bitS (s x)).size ≤ 1 := Nat.le_refl _
      go_upto_region 5 with fail
      go_cut [] (fun wx => MkInv w wx n (bitsOf s x ++ bitS (s x)) (bitsOf (fun k => r (k / n) (k % n)) (x * n)))
      case first =>
        go_region_with (first | (go_at_call 55; refine (bitOf_any _ _).mono ?_; rintro e w' ⟨rfl, rfl⟩) | ((with_reducible refine (HS.out x _ hlt ?_).mono ?_); (exact HI.out.old.drew); rintro e w1 ⟨rfl, hb1⟩; have HI1 := Lib.hid (HI.out.drew.below hb1); obtain ⟨i0, i1, i2, j0, j1, j2, hbb⟩ := HI1.out.out.cells; clear hb1))
        all_goals (go_wp2_with fail; go_meet; exact HI1.out.set1 _)
      case rest =>
        have HI := Lib.hid hcut; clear hcut
        rw [← bitsOf_succ] at HI
        go_wp2_with fail
        go_loopw [25, 9] (fun j _ wr => ∃ y : Nat, y ≤ n ∧ j = .int .i64 y ∧ Hid (MkInv w wr n (bitsOf s (x + 1)) (bitsOf (fun k => r (k / n) (k % n)) (x * n + y)))) (fun j _ _ => n - (intOf j).toNat)
        case atStart => exact ⟨0, by omega, rfl, HI.out⟩
        case round =>
          obtain ⟨y, hy, rfl, HJ⟩ := hrel
          by_cases hlt2 : y < n
          · obtain ⟨c0, c1', c2', f0, f1, f2, hb⟩ := HJ.out.out.cells
            have hxy : x * n + y ≤ 64 := by
              have h1 : x * n ≤ 7 * 8 := Nat.mul_le_mul (by omega) hn
              omega
            have z0 : (bitsOf (fun k => r (k / n) (k % n)) (x * n + y)).size ≤ 64 := by rw [bitsOf_size]; exact hxy
            have z1 : (bitS (r x y)).size ≤ 1 := Nat.le_refl _
            have HG : Hid (bitsOf (fun k => r (k / n) (k % n)) (x * n + (y + 1)) = bitsOf (fun k => r (k / n) (k % n)) (x * n + y) ++ bitS (r x y)) := by
              show bitsOf (fun k => r (k / n) (k % n)) (x * n + y + 1) = _
              rw [bitsOf_succ]
              exact congrArg (fun b => bitsOf (fun k => r (k / n) (k % n)) (x * n + y) ++ bitS b) (grid_at (r := r) (x := x) hlt2)
            clear hxy
            generalize bitsOf (fun k => r (k / n) (k % n)) (x * n + y) = G at *
            go_wp2_with fail
            go_region_with (first | (go_at_call 55; refine (bitOf_any _ _).mono ?_; rintro e w' ⟨rfl, rfl⟩) | ((with_reducible refine (HR.out x y _ hlt hlt2 ?_).mono ?_); (exact HJ.out.old.drew); rintro e w1 ⟨rfl, hb1⟩; have HI1 := Lib.hid (HJ.out.drew.below hb1); obtain ⟨i0, i1, i2, j0, j1, j2, hbb⟩ := HI1.out.out.cells; clear hb1))
            all_goals
              have HI2 := Lib.hid (HI1.out.set2 (G ++ bitS (r x y)))
              go_wp2_with fail
              go_roundw
              case rel =>
                refine ⟨y + 1, by omega, by go_num, ?_⟩
                rw [HG.out]
                exact HI2.out
              case measure => simp [intOf]; omega
          · have HI2 : Hid (MkInv w wr n (bitsOf s (x + 1)) (bitsOf (fun k => r (k / n) (k % n)) ((x + 1) * n))) := by
              have h := HJ.out
              rw [show x * n + y = (x + 1) * n by rw [Nat.add_mul, Nat.one_mul]; omega] at h
              exact h
            go_wp2_with fail
            go_roundw
            case rel => exact ⟨x + 1, by omega, by go_num, HI2.out⟩
            case measure => simp [intOf]; omega
    · obtain ⟨c0, c1', c2', f0, f1, f2, hb⟩ := HI.out.out.cells
      obtain ⟨d0, d1, d2, g0, g1, g2, hb'⟩ := HI.out.res.cells
      have hxn : x = n := by omega
      subst hxn
      go_wp2_with fail
      refine bodyPost_ret (v := strV x (bitsOf s x) (gridOf r x)) ?_ rfl ⟨rfl, ?_⟩
      · exact results_str rfl rfl HI.out.res.set3
      · exact ((HI.out.old.setCell (by simp) _).setCell (by simp) _).setCell (by simp) _
end Go.Proofs.YtnhlhjehocngcaaDoor

/- Contracts of the program's functions and what they compute: part 33. Conditions: those that each theorem states. -/
import Derived.Test.YtfhogenjpepfnaaGreatDoorP51n32
namespace Go.Proofs.YtfhogenjpepfnaaGreatDoor
open Go.RowKit
set_option linter.unusedVariables false
set_option maxRecDepth 100000
/-- How many of the first numbers are so. -/
def cntB (f : Nat → Bool) : Nat → Nat
  | 0 => 0
  | y + 1 => cntB f y + if f y = true then 1 else 0
theorem cntB_le (f : Nat → Bool) : ∀ y, cntB f y ≤ y
  | 0 => Nat.le_refl _
  | y + 1 => by
    have := cntB_le f y
    unfold cntB
    split <;> omega
/-- Whether an element's ball is as often in both. -/
def ballEq (n : Nat) (S R T U : ByteArray) (k x : Nat) : Bool := decide (cntB (fun y => sbB n S R x n S R y k) n = cntB (fun y => sbB n S R x n T U y k) n)
/-- Whether each ball of the first elements is as often in both. -/
def ballsTo (n : Nat) (S R T U : ByteArray) (k : Nat) : Nat → Bool
  | 0 => true
  | x + 1 => ballsTo n S R T U k x && ballEq n S R T U k x
theorem ballsTo_no {n : Nat} {S R T U : ByteArray} {k x : Nat} (h : ballsTo n S R T U k x = false) : ∀ {y}, x ≤ y → ballsTo n S R T U k y = false := by
  intro y hy
  induction hy with
  | refl => exact h
  | step _ ih => unfold ballsTo; rw [ih]; rfl
theorem isRadius_any (k : Nat) (hk : k ≤ 100) (w : World) : Calls Tryz.prog 23 #[.int .i64 (k : Int)] w fun e w' => e = .returned (.bool true) ∧ Below w.heap.size w w' := by
  have h0 : (0 : Int) ≤ (k : Int) := by omega
  have h1 : (k : Int) ≤ 100 := by omega
  have h0B : decide ((0 : Int) ≤ (k : Int)) = true := decide_eq_true h0
  have h1B : decide ((k : Int) ≤ 100) = true := decide_eq_true h1
  go_enter Tryz.func23, Tryz.ntmps23
  go_wp2_with fail
  go_ret
  exact ⟨rfl, Below.refl _ _⟩
set_option maxHeartbeats 4000000 in
theorem SameBalls_any (n : Nat) (S R T U : ByteArray) (k : Nat) (hv : validB n S R = true) (hu : validB n T U = true) (hk : k ≤ 100) (w : World) :
    Calls Tryz.prog 9 #[strV n S R, strV n T U, .int .i64 (k : Int)] w fun e w' => e = .returned (.bool (ballsTo n S R T U k n)) ∧ Below w.heap.size w w' := by
  obtain ⟨h1, h8, hS, hR, _, _⟩ := valid_is hv
  obtain ⟨_, _, hT, hU, _, _⟩ := valid_is hu
  have hnn : n * n ≤ 64 := Nat.mul_le_mul h8 h8
  have I1 := Lib.hid (fun w => isStructure_any n S R w (by omega) (by omega))
  have I2 := Lib.hid (fun w => isStructure_any n T U w (by omega) (by omega))
  rw [hv] at I1; rw [hu] at I2
  have IR := Lib.hid (fun w => isRadius_any k hk w)
  have HA := Lib.hid (fun x y w hx hy => sameBall_any n S R x n S R y k h8 hS hR hx h8 hS hR hy hk w)
  have HB := Lib.hid (fun x y w hx hy => sameBall_any n S R x n T U y k h8 hS hR hx h8 hT hU hy hk w)
  have HBX := Lib.hid (Bx2.new w n S R n T U)
  unfold boxS at HBX
  obtain ⟨W, hW⟩ : ∃ W, (w.alloc (.cells #[.int .i64 (n : Int), .string S, .string R] 26)).alloc (.cells #[.int .i64 (n : Int), .string T, .string U] 26) = W := ⟨_, rfl⟩
  rw [hW] at HBX
  have HW := Lib.hid hW
  have HE : Hid (∀ x, ballEq n S R T U k x = decide (cntB (fun y => sbB n S R x n S R y k) n = cntB (fun y => sbB n S R x n T U y k) n)) := fun x => rfl
  have HTO : Hid (∀ x, ballsTo n S R T U k (x + 1) = (ballsTo n S R T U k x && ballEq n S R T U k x)) := fun x => rfl
  have HNO : Hid (∀ x, x ≤ n → ballsTo n S R T U k x = false → ballsTo n S R T U k n = false) := fun x hx h => ballsTo_no h hx
  have HT0 : Hid (ballsTo n S R T U k 0 = true) := rfl
  clear hW hS hR hT hU hnn hv hu
  generalize ballsTo n S R T U k = bt at *
  generalize ballEq n S R T U k = be at *
  obtain ⟨fa, hfa⟩ : ∃ fa : Nat → Nat → Bool, (fun x y => sbB n S R x n S R y k) = fa := ⟨_, rfl⟩
  obtain ⟨fb, hfb⟩ : ∃ fb : Nat → Nat → Bool, (fun x y => sbB n S R x n T U y k) = fb := ⟨_, rfl⟩
  replace HA : Hid (∀ (x y : Nat) (w : World), x < n → y < n → Calls Tryz.prog 24 #[strV n S R, .int .i64 (x : Int), strV n S R, .int .i64 (y : Int), .int .i64 (k : Int)] w fun e w' => e = .returned (.bool (fa x y)) ∧ Below w.heap.size w w') := by rw [← hfa]; exact HA
  replace HB : Hid (∀ (x y : Nat) (w : World), x < n → y < n → Calls Tryz.prog 24 #[strV n S R, .int .i64 (x : Int), strV n T U, .int .i64 (y : Int), .int .i64 (k : Int)] w fun e w' => e = .returned (.bool (fb x y)) ∧ Below w.heap.size w w') := by rw [← hfb]; exact HB
  replace HE : Hid (∀ x, be x = decide (cntB (fa x) n = cntB (fb x) n)) := by rw [← hfa, ← hfb]; exact HE
  clear hfa hfb
  unfold strV at I1 I2 HA HB
  unfold strV
  go_enter Tryz.func9, Tryz.ntmps9
  go_upto_region 1 with fail
  rw [HW.out]
  obtain ⟨s0, s1, s2, _, _, _, hl⟩ := HBX.out.a.cells
  go_wp2_with fail
  refine (I1.out _).mono ?_; rintro e w1 ⟨rfl, hb⟩
  have HX1 := Lib.hid (HBX.out.below hb)
  clear hb s0 s1 s2 hl
  obtain ⟨t0, t1, t2, _, _, _, hl'⟩ := HX1.out.b.cells
  go_wp2_with fail
  refine (I2.out _).mono ?_; rintro e w2 ⟨rfl, hb⟩
  have HX2 := Lib.hid (HX1.out.below hb)
  clear hb t0 t1 t2 hl'
  go_wp2_with fail
  refine (IR.out _).mono ?_; rintro e w3 ⟨rfl, hb⟩
  have HX3 := Lib.hid (HX2.out.below hb)
  clear hb
  obtain ⟨s0, s1, s2, _, _, _, hl⟩ := HX3.out.a.cells
  obtain ⟨t0, t1, t2, _, _, _, hl'⟩ := HX3.out.b.cells
  go_wp2_with fail
  go_loopw [33, 7, 8, 9, 10] (fun q _ _ _ _ wr => ∃ x : Nat, x ≤ n ∧ q = .int .i64 (x : Int) ∧ Hid (bt x = true) ∧ Hid (Bx2 w wr n S R n T U)) (fun q _ _ _ _ _ => n - (intOf q).toNat)
  case atStart => exact ⟨0, by omega, rfl, HT0.out, HX3.out⟩
  case round =>
    clear HX3 s0 s1 s2 hl t0 t1 t2 hl' HX1 HX2
    obtain ⟨x, hx, rfl, HBT, HP⟩ := hrel
    obtain ⟨s0, s1, s2, _, _, _, hl⟩ := HP.out.a.cells
    obtain ⟨t0, t1, t2, _, _, _, hl'⟩ := HP.out.b.cells
    by_cases hlt : x < n
    · have hxI : (x : Int) < (n : Int) := by omega
      go_wp2_with fail
      obtain ⟨wo, hwo⟩ : ∃ wo, wo = wr := ⟨_, rfl⟩
      subst hwo
      go_loopw [38, 8, 9, 10] (fun q c d _ wr => ∃ y : Nat, y ≤ n ∧ q = .int .i64 (y : Int) ∧ c = .int .i64 (cntB (fa x) y : Int) ∧ d = .int .i64 (cntB (fb x) y : Int) ∧ Hid (Bx2 w wr n S R n T U)) (fun q _ _ _ _ => n - (intOf q).toNat)
      case atStart => exact ⟨0, by omega, rfl, rfl, rfl, HP.out⟩
      case round =>
        clear HP s0 s1 s2 hl t0 t1 t2 hl'
        obtain ⟨y, hy, rfl, rfl, rfl, HP⟩ := hrel
        obtain ⟨s0, s1, s2, _, _, _, hl⟩ := HP.out.a.cells
        obtain ⟨t0, t1, t2, _, _, _, hl'⟩ := HP.out.b.cells
        have hca := cntB_le (fa x) y
        have hcb := cntB_le (fb x) y
        by_cases hlt2 : y < n
        · have hyI : (y : Int) < (n : Int) := by omega
          have C1 := Lib.hid (HA.out x y wr hlt hlt2)
          have C2 := Lib.hid (fun w => HB.out x y w hlt hlt2)
          have HCA : Hid (cntB (fa x) (y + 1) = cntB (fa x) y + if fa x y = true then 1 else 0) := rfl
          have HCB : Hid (cntB (fb x) (y + 1) = cntB (fb x) y + if fb x y = true then 1 else 0) := rfl
          generalize fa x y = ra at *
          generalize fb x y = rb at *
          obtain ⟨ca, hcae⟩ : ∃ c, cntB (fa x) y = c := ⟨_, rfl⟩
          obtain ⟨cb, hcbe⟩ : ∃ c, cntB (fb x) y = c := ⟨_, rfl⟩
          rw [hcae] at HCA hca ⊢
          rw [hcbe] at HCB hcb ⊢
          clear hcae hcbe
          go_wp2_with fail
          refine C1.out.mono ?_; rintro e w5 ⟨rfl, hb⟩
          have HP5 := Lib.hid (HP.out.below hb)
          clear hb s0 s1 s2 hl t0 t1 t2 hl' C1 HP
          obtain ⟨s0, s1, s2, _, _, _, hl⟩ := HP5.out.a.cells
          obtain ⟨t0, t1, t2, _, _, _, hl'⟩ := HP5.out.b.cells
          cases ra
          all_goals
            go_wp2_with fail
            refine (C2.out _).mono ?_; rintro e w6 ⟨rfl, hb⟩
            have HP6 := Lib.hid (HP5.out.below hb)
            clear hb s0 s1 s2 hl t0 t1 t2 hl' C2 HP5
            obtain ⟨s0, s1, s2, _, _, _, hl⟩ := HP6.out.a.cells
            cases rb
            all_goals
              go_wp2_with fail
              go_roundw
              case rel => exact ⟨y + 1, by omega, by go_num, by rw [HCA.out]; first | rfl | go_num | (simp; go_num), by rw [HCB.out]; first | rfl | go_num | (simp; go_num), HP6.out⟩
              case measure => simp [intOf]; omega
        · obtain rfl : y = n := by omega
          have HEX := Lib.hid (HE.out x)
          have HTX := Lib.hid (HTO.out x)
          by_cases heq : cntB (fa x) y = cntB (fb x) y
          · have hneB : ((cntB (fa x) y : Int) != (cntB (fb x) y : Int)) = false := by simp [heq]
            have HBT2 : Hid (bt (x + 1) = true) := by show _ = _; rw [HTX.out, HBT.out, HEX.out, decide_eq_true heq]; rfl
            go_wp2_with fail
            go_roundw
            case rel => exact ⟨x + 1, by omega, by go_num, HBT2.out, HP.out⟩
            case measure => simp [intOf]; omega
          · have hneB : ((cntB (fa x) y : Int) != (cntB (fb x) y : Int)) = true := by simp; omega
            have HRF : Hid (bt y = false) := HNO.out (x + 1) (by omega) (by rw [HTX.out, HEX.out, decide_eq_false heq, Bool.and_false])
            go_wp2_with fail
            go_ret
            exact ⟨ret_bool HRF.out.symm, HP.out.old⟩
    · obtain rfl : x = n := by omega
      go_wp2_with fail
      go_ret
      exact ⟨ret_bool HBT.out.symm, HP.out.old⟩
end Go.Proofs.YtfhogenjpepfnaaGreatDoor

/- The reference's l11View, l3Rel. Conditions: the texts' lengths fit an integer, the structure is valid. -/
import Derived.Test.YtadgiknnejjplaaDoorFmTrue
import Derived.Test.YtadgiknnejjplaaDoorWordStr0
import Derived.Test.YtadgiknnejjplaaDoorHolds2
namespace Go.Proofs.YtadgiknnejjplaaDoor
open Go.RowKit
set_option linter.unusedVariables false
set_option maxRecDepth 100000

theorem ret_str5 {a b : ByteArray} (h : a = b) : Ending.returned (.string a) = .returned (.string b) := by rw [h]
/-- Whether a text is a formula whose free variables' number divides so. -/
def okV (f : ByteArray) (d : Nat) : Bool :=
  match readB f with
  | none => false
  | some φ => decide (Fm.free φ / d = 0)
theorem okV_none {f : ByteArray} {d : Nat} (h : readB f = none) : okV f d = false := by unfold okV; rw [h]
theorem okV_some {f : ByteArray} {d : Nat} {φ : Fm.T} (h : readB f = some φ) : okV f d = decide (Fm.free φ / d = 0) := by unfold okV; rw [h]
theorem l11View_1 (f : ByteArray) (hf : f.size ≤ 9223372036854775807) (w : World) : Calls Tryd.prog 62 #[.string f, .int .i64 1] w fun en w' => en = .returned (.bool (okV f 2)) ∧ w' = w := by
  have HFV := Lib.hid (fun w => FormulaValid_any f w hf)
  cases hr : readB f with
  | none =>
    have HO := Lib.hid (okV_none (d := 2) hr)
    rw [hr] at HFV
    clear hr
    go_enter Tryd.func62, Tryd.ntmps62
    go_wp2_with fail
    refine (HFV.out _).mono ?_; rintro _ w2 ⟨rfl, hw2⟩; rw [hw2]; clear hw2 w2
    go_wp2_with fail
    go_ret
    exact ⟨ret_bool HO.out.symm, rfl⟩
  | some φ =>
    have HO := Lib.hid (okV_some (d := 2) hr)
    rw [hr] at HFV
    have HAT := readB_at hr
    have HLF : Hid (∀ w, Calls Tryd.prog 124 #[.string f, .int .i64 0] w fun e w' => e = .returned (.tuple #[.int .i64 ((Fm.free φ : Nat) : Int), .int .i64 ((0 + Fm.len φ : Nat) : Int)]) ∧ w' = w) := fun w => l2Free_any f (by have := HAT.2; omega) φ 0 0 w rfl HAT.1
    have hfl := Fm.free_lt φ
    clear hr HAT
    generalize Fm.free φ = fr at *
    go_enter Tryd.func62, Tryd.ntmps62
    go_wp2_with fail
    refine (HFV.out _).mono ?_; rintro _ w2 ⟨rfl, hw2⟩; rw [hw2]; clear hw2 w2
    go_wp2_with fail
    refine (HLF.out _).mono ?_; rintro _ w2 ⟨rfl, hw2⟩; rw [hw2]; clear hw2 w2
    go_wp2_with fail
    go_ret
    refine ⟨ret_bool ?_, rfl⟩
    rw [HO.out, Bool.eq_iff_iff, beq_iff_eq, decide_eq_true_eq]; omega
theorem l11View_2 (f : ByteArray) (hf : f.size ≤ 9223372036854775807) (w : World) : Calls Tryd.prog 62 #[.string f, .int .i64 2] w fun en w' => en = .returned (.bool (okV f 4)) ∧ w' = w := by
  have HFV := Lib.hid (fun w => FormulaValid_any f w hf)
  cases hr : readB f with
  | none =>
    have HO := Lib.hid (okV_none (d := 4) hr)
    rw [hr] at HFV
    clear hr
    go_enter Tryd.func62, Tryd.ntmps62
    go_wp2_with fail
    refine (HFV.out _).mono ?_; rintro _ w2 ⟨rfl, hw2⟩; rw [hw2]; clear hw2 w2
    go_wp2_with fail
    go_ret
    exact ⟨ret_bool HO.out.symm, rfl⟩
  | some φ =>
    have HO := Lib.hid (okV_some (d := 4) hr)
    rw [hr] at HFV
    have HAT := readB_at hr
    have HLF : Hid (∀ w, Calls Tryd.prog 124 #[.string f, .int .i64 0] w fun e w' => e = .returned (.tuple #[.int .i64 ((Fm.free φ : Nat) : Int), .int .i64 ((0 + Fm.len φ : Nat) : Int)]) ∧ w' = w) := fun w => l2Free_any f (by have := HAT.2; omega) φ 0 0 w rfl HAT.1
    have hfl := Fm.free_lt φ
    clear hr HAT
    generalize Fm.free φ = fr at *
    go_enter Tryd.func62, Tryd.ntmps62
    go_wp2_with fail
    refine (HFV.out _).mono ?_; rintro _ w2 ⟨rfl, hw2⟩; rw [hw2]; clear hw2 w2
    go_wp2_with fail
    refine (HLF.out _).mono ?_; rintro _ w2 ⟨rfl, hw2⟩; rw [hw2]; clear hw2 w2
    go_wp2_with fail
    go_ret
    refine ⟨ret_bool ?_, rfl⟩
    rw [HO.out, Bool.eq_iff_iff, beq_iff_eq, decide_eq_true_eq]; omega
set_option maxHeartbeats 1000000 in
theorem l3Rel_any (f : ByteArray) (hf : f.size ≤ 1000000) (n : Nat) (S R : ByteArray) (hn : n ≤ 8) (hS : S.size = n) (hR : R.size = n * n) (φ : Fm.T) (hA : Fm.At f.data.toList 0 φ) (w : World) :
    Calls Tryd.prog 63 #[strV n S R, .string f] w fun en w' => en = .returned (.string (gridOf (fun x y => Fm.holds (stOf n S R) φ (env2 x y)) n)) ∧ Below w.heap.size w w' := by
  have hlt := fun x y w (hx : x < n) (hy : y < n) => l2True_any f hf n S R hn hS hR φ hA (env2 x y) (env2_lt hx hy) w
  simp only [env2_V] at hlt
  have HLT := Lib.hid hlt
  clear hlt hA hf
  have HB : Hid (SBlk (boxS w n S R) w.heap.size n S R ∧ Below w.heap.size w (boxS w n S R)) := ⟨boxS_SBlk _ _ _ _, boxS_below _ _ _ _⟩
  unfold boxS at HB
  obtain ⟨r, hr⟩ : ∃ r : Nat → Nat → Bool, (fun x y => Fm.holds (stOf n S R) φ (env2 x y)) = r := ⟨_, rfl⟩
  have HRR : Hid (∀ x y, Fm.holds (stOf n S R) φ (env2 x y) = r x y) := fun x y => by rw [← hr]
  rw [hr]
  clear hr
  unfold strV at HLT
  unfold strV
  go_enter Tryd.func63, Tryd.ntmps63
  go_wp2_with fail
  go_loopw [6, 5, 7] (fun i o _ wr => ∃ x : Nat, x ≤ n ∧ i = .int .i64 (x : Int) ∧ ∃ out : ByteArray, o = .string out ∧ Hid (out = bitsOf (fun k => r (k / n) (k % n)) (x * n)) ∧ Hid (SBlk wr w.heap.size n S R ∧ Below w.heap.size w wr)) (fun i _ _ _ => n - (intOf i).toNat)
  case atStart => exact ⟨0, by omega, rfl, _, rfl, by show _ = _; simp [bitsOf_zero]; rfl, HB.out⟩
  case round =>
    obtain ⟨x, hx, rfl, out, rfl, HO, HI⟩ := hrel
    have s0 := HI.out.1.cells.1
    by_cases hxn : x < n
    · go_wp2_with fail
      clear s0
      go_loopw [7, 5] (fun j o wr => ∃ y : Nat, y ≤ n ∧ j = .int .i64 (y : Int) ∧ ∃ out : ByteArray, o = .string out ∧ Hid (out = bitsOf (fun k => r (k / n) (k % n)) (x * n + y)) ∧ Hid (SBlk wr w.heap.size n S R ∧ Below w.heap.size w wr)) (fun j _ _ => n - (intOf j).toNat)
      case atStart => exact ⟨0, by omega, rfl, out, rfl, HO, HI⟩
      case round =>
        obtain ⟨y, hy, rfl, out2, rfl, HO2, HI2⟩ := hrel
        have s0 := HI2.out.1.cells.1
        have s1 := HI2.out.1.cells.2.1
        have s2 := HI2.out.1.cells.2.2.1
        by_cases hyn : y < n
        · have hxy : x * n + y ≤ 64 := by
            have h1 : x * n ≤ 7 * 8 := Nat.mul_le_mul (by omega) hn
            omega
          have z0 : out2.size ≤ 64 := by rw [HO2.out, bitsOf_size]; exact hxy
          have z1 : (bitS (r x y)).size ≤ 1 := Nat.le_refl _
          have HG : Hid (out2 ++ bitS (r x y) = bitsOf (fun k => r (k / n) (k % n)) (x * n + (y + 1))) := by
            show _ = bitsOf (fun k => r (k / n) (k % n)) (x * n + y + 1)
            rw [bitsOf_succ, HO2.out]
            exact congrArg (fun b => bitsOf (fun k => r (k / n) (k % n)) (x * n + y) ++ bitS b) (grid_at (r := r) (x := x) hyn).symm
          have HL1 := Lib.hid (fun w => HLT.out x y w hxn hyn)
          rw [HRR.out x y] at HL1
          clear hxy
          go_wp2_with fail
          refine (HL1.out _).mono ?_; rintro _ w1 ⟨rfl, hb1⟩
          have HI3 : Hid (SBlk w1 w.heap.size n S R ∧ Below w.heap.size w w1) := ⟨HI2.out.1.below hb1 HI2.out.1.cells.2.2.2.2.2.2, HI2.out.2.trans (hb1.mono HI2.out.2.size)⟩
          clear hb1 s0 s1 s2
          generalize hbit : r x y = bt at *
          clear hbit
          go_wp2_with fail
          refine (l1Bit_any bt _).mono ?_; rintro _ w2 ⟨rfl, rfl⟩
          go_wp2_with fail
          go_roundw
          case rel => exact ⟨y + 1, by omega, by go_num, _, rfl, HG.out, HI3.out⟩
          case measure => simp [intOf]; omega
        · have HO3 : Hid (out2 = bitsOf (fun k => r (k / n) (k % n)) ((x + 1) * n)) := by
            have h := HO2.out
            rw [show x * n + y = (x + 1) * n by rw [Nat.add_mul, Nat.one_mul]; omega] at h
            exact h
          go_wp2_with fail
          go_roundw
          case rel => exact ⟨x + 1, by omega, by go_num, out2, rfl, HO3.out, HI2.out⟩
          case measure => simp [intOf]; omega
    · have HE : Hid (out = gridOf r n) := by
        have h := HO.out
        rw [show x = n by omega] at h
        exact h
      go_wp2_with fail
      go_ret
      exact ⟨ret_str5 HE.out, HI.out.2⟩
end Go.Proofs.YtadgiknnejjplaaDoor

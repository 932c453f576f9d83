/- Contracts of the program's functions and what they compute: part 18. Conditions: those that each theorem states. -/
import Derived.Test.YtihomcedaaiidaaGreatDoorP55n6
import Derived.Test.YtihomcedaaiidaaGreatDoorP55n17
import Derived.Test.YtihomcedaaiidaaGreatDoorP55n10
namespace Go.Proofs.YtihomcedaaiidaaGreatDoor
open Go.RowKit
set_option linter.unusedVariables false
set_option maxRecDepth 100000
theorem l2Holds_any (f : ByteArray) (hf : f.size ≤ 1000000) (n : Nat) (S R : ByteArray) (hn : n ≤ 8) (hS : S.size = n) (hR : R.size = n * n) : ∀ φ : Fm.T, LHolds f n S R φ
  | .lit true => lh_lit_true f hf n S R hn hS hR
  | .lit false => lh_lit_false f hf n S R hn hS hR
  | .set v => lh_set f hf n S R hn hS hR v
  | .rel false v u => lh_eq f hf n S R hn hS hR v u
  | .rel true v u => lh_rel f hf n S R hn hS hR v u
  | .neg g => lh_neg f hf n S R hn hS hR g (Lib.hid (l2Holds_any f hf n S R hn hS hR g))
  | .bin false g h => lh_and f hf n S R hn hS hR g h (Lib.hid (l2Holds_any f hf n S R hn hS hR g)) (Lib.hid (l2Holds_any f hf n S R hn hS hR h))
  | .bin true g h => lh_or f hf n S R hn hS hR g h (Lib.hid (l2Holds_any f hf n S R hn hS hR g)) (Lib.hid (l2Holds_any f hf n S R hn hS hR h))
  | .qu q v g => lh_qu f hf n S R hn hS hR q v g (Lib.hid (l2Holds_any f hf n S R hn hS hR g))
theorem l2True_any (f : ByteArray) (hf : f.size ≤ 1000000) (n : Nat) (S R : ByteArray) (hn : n ≤ 8) (hS : S.size = n) (hR : R.size = n * n) (φ : Fm.T) (hA : Fm.At f.data.toList 0 φ) (e : Fm.Env) (he : ∀ v, e v < n) (w : World) :
    Calls Tryz.prog 55 #[strV n S R, .string f, envV e] w fun en w' => en = .returned (.bool (Fm.holds (stOf n S R) φ e)) ∧ Below w.heap.size w w' := by
  have HC : Hid (∀ w, Calls Tryz.prog 92 #[strV n S R, .string f, .int .i64 0, envV e] w fun en w' => en = .returned (.tuple #[.bool (Fm.holds (stOf n S R) φ e), .int .i64 ((0 + Fm.len φ : Nat) : Int)]) ∧ Below w.heap.size w w') := fun w =>
    l2Holds_any f hf n S R hn hS hR φ 0 0 w e rfl hA he
  have hb0 := LBox.new w n S R e
  obtain ⟨x4, hx4⟩ : ∃ x, w.heap.size = x := ⟨_, rfl⟩
  obtain ⟨x7, hx7⟩ : ∃ x, w.heap.size + 1 = x := ⟨_, rfl⟩
  rw [hx7, hx4] at hb0
  unfold envC at hb0
  obtain ⟨W, hW⟩ : ∃ W, (w.alloc (.cells #[.int .i64 (n : Int), .string S, .string R] 24)).alloc (.cells #[.int .i64 ((e 0 : Nat) : Int), .int .i64 ((e 1 : Nat) : Int), .int .i64 ((e 2 : Nat) : Int), .int .i64 ((e 3 : Nat) : Int)] 78) = W := ⟨_, rfl⟩
  rw [hW] at hb0
  have HW := Lib.hid hW; have HB0 := Lib.hid hb0; have HX4 := Lib.hid hx4; have HX7 := Lib.hid hx7
  clear hW hb0 hx4 hx7 hA he
  unfold envV strV at HC
  unfold envV strV
  have s0 := HB0.out.s.1
  have s1 := HB0.out.s.2.1
  have s2 := HB0.out.s.2.2
  have e0 : W.cell? ⟨x7, 0, none⟩ = some (.int .i64 ((e 0 : Nat) : Int)) := HB0.out.e 0
  have e1 : W.cell? ⟨x7, 1, none⟩ = some (.int .i64 ((e 1 : Nat) : Int)) := HB0.out.e 1
  have e2 : W.cell? ⟨x7, 2, none⟩ = some (.int .i64 ((e 2 : Nat) : Int)) := HB0.out.e 2
  have e3 : W.cell? ⟨x7, 3, none⟩ = some (.int .i64 ((e 3 : Nat) : Int)) := HB0.out.e 3
  go_enter Tryz.func55, Tryz.ntmps55
  go_upto_region 1 with fail
  rw [HW.out, HX7.out, HX4.out]
  go_wp2_with fail
  refine (HC.out _).mono ?_; rintro _ w1 ⟨rfl, hb1⟩
  have HB1 := Lib.hid (HB0.out.after hb1).below
  clear s0 s1 s2 e0 e1 e2 e3
  go_wp2_with fail
  go_ret
  exact ⟨rfl, HB1.out⟩
/-- Whether a text is a formula without free variables that is true, and whether it is such a formula. -/
def hin (f : ByteArray) (a : Gs.St) : Bool × Bool :=
  match readB f with
  | none => (false, false)
  | some φ => if Fm.free φ = 0 then (Fm.holds a φ (fun _ => 0), true) else (false, false)
theorem readB_at {f : ByteArray} {φ : Fm.T} (h : readB f = some φ) : Fm.At f.data.toList 0 φ ∧ f.size ≤ 4000 := by
  unfold readB at h
  obtain ⟨h1, h2⟩ := Fm.read_iff.1 h
  exact ⟨by rw [h1]; exact Fm.At.whole φ, by simpa using h2⟩
theorem ret_bb {a b c d : Bool} (h : a = c) (h2 : b = d) : Ending.returned (.tuple #[.bool a, .bool b]) = .returned (.tuple #[.bool c, .bool d]) := by rw [h, h2]
theorem specHoldsAt0 (f : ByteArray) (hf : f.size ≤ 9223372036854775807) (n : Nat) (S R : ByteArray) (hv : validB n S R = true) (a : Option Addr) (c : Nat) (w : World) :
    Calls Tryz.prog 26 #[strV n S R, .string f, .slice a 0 c] w fun en w' => en = .returned (.tuple #[.bool (hin f (stOf n S R)).1, .bool (hin f (stOf n S R)).2]) ∧ Below w.heap.size w w' := by
  obtain ⟨h1, h8, hS, hR, _, _⟩ := valid_is hv
  have HSV : Hid (∀ w, Calls Tryz.prog 51 #[strV n S R] w fun e w' => e = .returned (.bool true) ∧ Below w.heap.size w w') := fun w => by
    have := specValid_any n S R w (by omega) (by rw [hR]; have := Nat.mul_le_mul h8 h8; omega)
    rw [hv] at this
    exact this
  have HFV := Lib.hid (fun w => FormulaValid_any f w hf)
  have hb0 := LBox.new w n S R (fun _ => 0)
  obtain ⟨x4, hx4⟩ : ∃ x, w.heap.size = x := ⟨_, rfl⟩
  obtain ⟨x7, hx7⟩ : ∃ x, w.heap.size + 1 = x := ⟨_, rfl⟩
  rw [hx7, hx4] at hb0
  unfold envC at hb0
  obtain ⟨W, hW⟩ : ∃ W, (w.alloc (.cells #[.int .i64 (n : Int), .string S, .string R] 24)).alloc (.cells #[.int .i64 0, .int .i64 0, .int .i64 0, .int .i64 0] 78) = W := ⟨_, rfl⟩
  have hb0 : LBox w W n S R (fun _ => 0) x4 x7 := by rw [← hW]; exact hb0
  have HW := Lib.hid hW; have HB0 := Lib.hid hb0; have HX4 := Lib.hid hx4; have HX7 := Lib.hid hx7
  clear hW hb0 hx4 hx7
  unfold strV at HSV
  unfold strV
  go_enter Tryz.func26, Tryz.ntmps26
  go_upto_region 2 with fail
  rw [HW.out, HX7.out, HX4.out]
  have s0 := HB0.out.s.1
  have s1 := HB0.out.s.2.1
  have s2 := HB0.out.s.2.2
  go_wp2_with fail
  refine (HSV.out _).mono ?_; rintro _ w1 ⟨rfl, hb1⟩
  have HB1 := Lib.hid (HB0.out.after hb1)
  clear s0 s1 s2 hb1
  go_wp2_with fail
  refine (HFV.out _).mono ?_; rintro _ w2 ⟨rfl, hw2⟩; rw [hw2]; clear hw2 w2
  cases hr : readB f with
  | none =>
    have HR := Lib.hid hr
    clear hr
    have HI : Hid (hin f (stOf n S R) = (false, false)) := by show _ = _; unfold hin; rw [HR.out]
    go_wp2_with fail
    go_ret2
    exact ⟨ret_bb (by rw [HI.out]) (by rw [HI.out]), HB1.out.below⟩
  | some φ =>
    have HR := Lib.hid hr
    have HAT := Lib.hid (readB_at hr)
    have hf4 := (readB_at hr).2
    clear hr
    have HLF : Hid (∀ w, Calls Tryz.prog 54 #[.string f, .int .i64 0] w fun e w' => e = .returned (.tuple #[.int .i64 ((Fm.free φ : Nat) : Int), .int .i64 ((0 + Fm.len φ : Nat) : Int)]) ∧ w' = w) := fun w => l2Free_any f (by omega) φ 0 0 w rfl HAT.out.1
    have HLT : Hid (∀ w, Calls Tryz.prog 55 #[strV n S R, .string f, envV (fun _ => 0)] w fun en w' => en = .returned (.bool (Fm.holds (stOf n S R) φ (fun _ => 0))) ∧ Below w.heap.size w w') := fun w => l2True_any f (by omega) n S R h8 hS hR φ HAT.out.1 (fun _ => 0) (fun _ => by omega) w
    unfold strV envV at HLT
    have HI : Hid (hin f (stOf n S R) = if Fm.free φ = 0 then (Fm.holds (stOf n S R) φ (fun _ => 0), true) else (false, false)) := by show _ = _; unfold hin; rw [HR.out]
    have hfl := Fm.free_lt φ
    generalize Fm.free φ = fr at *
    generalize Fm.holds (stOf n S R) φ (fun _ => 0) = tr at *
    go_wp2_with fail
    go_loopw [9] (fun i wr => i = .int .i64 0 ∧ wr = w1) (fun _ _ => 0)
    case atStart => exact ⟨rfl, rfl⟩
    case round =>
      obtain ⟨rfl, rfl⟩ := hrel
      go_wp2_with fail
      refine (HLF.out _).mono ?_; rintro _ w2 ⟨rfl, hw2⟩; rw [hw2]; clear hw2 w2
      by_cases h0 : fr = 0
      · subst h0
        have HI2 : Hid (hin f (stOf n S R) = (tr, true)) := HI.out.trans (if_pos rfl)
        have s0 := HB1.out.s.1
        have s1 := HB1.out.s.2.1
        have s2 := HB1.out.s.2.2
        have e0 : wr.cell? ⟨x7, 0, none⟩ = some (.int .i64 0) := HB1.out.e 0
        have e1 : wr.cell? ⟨x7, 1, none⟩ = some (.int .i64 0) := HB1.out.e 1
        have e2 : wr.cell? ⟨x7, 2, none⟩ = some (.int .i64 0) := HB1.out.e 2
        have e3 : wr.cell? ⟨x7, 3, none⟩ = some (.int .i64 0) := HB1.out.e 3
        go_wp2_with fail
        refine (HLT.out _).mono ?_; rintro _ w2 ⟨rfl, hb2⟩
        have HB2 := Lib.hid (HB1.out.after hb2).below
        clear s0 s1 s2 e0 e1 e2 e3
        go_wp2_with fail
        go_ret2
        exact ⟨ret_bb (by rw [HI2.out]) (by rw [HI2.out]), HB2.out⟩
      · have HI2 : Hid (hin f (stOf n S R) = (false, false)) := HI.out.trans (if_neg h0)
        go_wp2_with fail
        go_ret2
        exact ⟨ret_bb (by rw [HI2.out]) (by rw [HI2.out]), HB1.out.below⟩
theorem specHoldsIn_any (f : ByteArray) (hf : f.size ≤ 9223372036854775807) (n : Nat) (S R : ByteArray) (hv : validB n S R = true) (w : World) :
    Calls Tryz.prog 6 #[strV n S R, .string f] w fun en w' => en = .returned (.tuple #[.bool (hin f (stOf n S R)).1, .bool (hin f (stOf n S R)).2]) ∧ Below w.heap.size w w' := by
  have HC := Lib.hid (fun a c w => specHoldsAt0 f hf n S R hv a c w)
  unfold strV at HC
  unfold strV
  go_enter Tryz.func6, Tryz.ntmps6
  go_wp2_with fail
  refine (HC.out _ _ _).mono ?_; rintro _ w1 ⟨rfl, hb1⟩
  go_wp2_with fail
  go_ret2
  refine ⟨rfl, ?_⟩
  exact Below.trans (((Below.refl w.heap.size w).alloc (Nat.le_refl _) _).alloc (by simp) _) (hb1.mono (by simp; omega))
end Go.Proofs.YtihomcedaaiidaaGreatDoor

namespace Go.Proofs.YtihomcedaaiidaaGreatDoor
open Go.RowKit
set_option linter.unusedVariables false
set_option maxRecDepth 100000
theorem readO_at {f : ByteArray} {φ : Fm.T} (h : readB f = some φ) : Fm.At f.data.toList 0 φ ∧ f.size ≤ 4000 := by
  unfold readB at h
  obtain ⟨h1, h2⟩ := Fm.read_iff.1 h
  exact ⟨by rw [h1]; exact Fm.At.whole φ, by simpa using h2⟩
end Go.Proofs.YtihomcedaaiidaaGreatDoor

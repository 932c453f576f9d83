/- Contracts of the program's functions and what they compute: part 21. Conditions: those that each theorem states. -/
import Derived.Test.YtdcnpjekmnlgjaaGreatDoorP56n7
import Derived.Test.YtdcnpjekmnlgjaaGreatDoorP56n20
import Derived.Test.YtdcnpjekmnlgjaaGreatDoorP56n12
namespace Go.Proofs.YtdcnpjekmnlgjaaGreatDoor
open Go.RowKit
set_option linter.unusedVariables false
set_option maxRecDepth 100000
theorem l2Holds_any (f : ByteArray) (hf : f.size ≤ 1000000) (n : Nat) (S R : ByteArray) (hn : n ≤ 8) (hS : S.size = n) (hR : R.size = n * n) : ∀ φ : Fm.T, LHolds f n S R φ
  | .lit true => lh_lit_true f hf n S R hn hS hR
  | .lit false => lh_lit_false f hf n S R hn hS hR
  | .set v => lh_set f hf n S R hn hS hR v
  | .rel false v u => lh_eq f hf n S R hn hS hR v u
  | .rel true v u => lh_rel f hf n S R hn hS hR v u
  | .neg g => lh_neg f hf n S R hn hS hR g (Lib.hid (l2Holds_any f hf n S R hn hS hR g))
  | .bin false g h => lh_and f hf n S R hn hS hR g h (Lib.hid (l2Holds_any f hf n S R hn hS hR g)) (Lib.hid (l2Holds_any f hf n S R hn hS hR h))
  | .bin true g h => lh_or f hf n S R hn hS hR g h (Lib.hid (l2Holds_any f hf n S R hn hS hR g)) (Lib.hid (l2Holds_any f hf n S R hn hS hR h))
  | .qu q v g => lh_qu f hf n S R hn hS hR q v g (Lib.hid (l2Holds_any f hf n S R hn hS hR g))
theorem l2True_any (f : ByteArray) (hf : f.size ≤ 1000000) (n : Nat) (S R : ByteArray) (hn : n ≤ 8) (hS : S.size = n) (hR : R.size = n * n) (φ : Fm.T) (hA : Fm.At f.data.toList 0 φ) (e : Fm.Env) (he : ∀ v, e v < n) (w : World) :
    Calls Tryz.prog 30 #[strV n S R, .string f, envV e] w fun en w' => en = .returned (.bool (Fm.holds (stOf n S R) φ e)) ∧ Below w.heap.size w w' := by
  have HC : Hid (∀ w, Calls Tryz.prog 51 #[strV n S R, .string f, .int .i64 0, envV e] w fun en w' => en = .returned (.tuple #[.bool (Fm.holds (stOf n S R) φ e), .int .i64 ((0 + Fm.len φ : Nat) : Int)]) ∧ Below w.heap.size w w') := fun w =>
    l2Holds_any f hf n S R hn hS hR φ 0 0 w e rfl hA he
  have hb0 := LBox.new w n S R e
  obtain ⟨x4, hx4⟩ : ∃ x, w.heap.size = x := ⟨_, rfl⟩
  obtain ⟨x7, hx7⟩ : ∃ x, w.heap.size + 1 = x := ⟨_, rfl⟩
  rw [hx7, hx4] at hb0
  unfold envC at hb0
  obtain ⟨W, hW⟩ : ∃ W, (w.alloc (.cells #[.int .i64 (n : Int), .string S, .string R] 24)).alloc (.cells #[.int .i64 ((e 0 : Nat) : Int), .int .i64 ((e 1 : Nat) : Int), .int .i64 ((e 2 : Nat) : Int), .int .i64 ((e 3 : Nat) : Int)] 61) = W := ⟨_, rfl⟩
  rw [hW] at hb0
  have HW := Lib.hid hW; have HB0 := Lib.hid hb0; have HX4 := Lib.hid hx4; have HX7 := Lib.hid hx7
  clear hW hb0 hx4 hx7 hA he
  unfold envV strV at HC
  unfold envV strV
  have s0 := HB0.out.s.1
  have s1 := HB0.out.s.2.1
  have s2 := HB0.out.s.2.2
  have e0 : W.cell? ⟨x7, 0, none⟩ = some (.int .i64 ((e 0 : Nat) : Int)) := HB0.out.e 0
  have e1 : W.cell? ⟨x7, 1, none⟩ = some (.int .i64 ((e 1 : Nat) : Int)) := HB0.out.e 1
  have e2 : W.cell? ⟨x7, 2, none⟩ = some (.int .i64 ((e 2 : Nat) : Int)) := HB0.out.e 2
  have e3 : W.cell? ⟨x7, 3, none⟩ = some (.int .i64 ((e 3 : Nat) : Int)) := HB0.out.e 3
  go_enter Tryz.func30, Tryz.ntmps30
  go_upto_region 1 with fail
  rw [HW.out, HX7.out, HX4.out]
  go_wp2_with fail
  refine (HC.out _).mono ?_; rintro _ w1 ⟨rfl, hb1⟩
  have HB1 := Lib.hid (HB0.out.after hb1).below
  clear s0 s1 s2 e0 e1 e2 e3
  go_wp2_with fail
  go_ret
  exact ⟨rfl, HB1.out⟩
/-- Whether a text is a formula without free variables that is true, and whether it is such a formula. -/
def hin (f : ByteArray) (a : Gs.St) : Bool × Bool :=
  match readB f with
  | none => (false, false)
  | some φ => if Fm.free φ = 0 then (Fm.holds a φ (fun _ => 0), true) else (false, false)
theorem readB_at {f : ByteArray} {φ : Fm.T} (h : readB f = some φ) : Fm.At f.data.toList 0 φ ∧ f.size ≤ 4000 := by
  unfold readB at h
  obtain ⟨h1, h2⟩ := Fm.read_iff.1 h
  exact ⟨by rw [h1]; exact Fm.At.whole φ, by simpa using h2⟩
theorem ret_bb {a b c d : Bool} (h : a = c) (h2 : b = d) : Ending.returned (.tuple #[.bool a, .bool b]) = .returned (.tuple #[.bool c, .bool d]) := by rw [h, h2]
end Go.Proofs.YtdcnpjekmnlgjaaGreatDoor

namespace Go.Proofs.YtdcnpjekmnlgjaaGreatDoor
open Go.RowKit
set_option linter.unusedVariables false
set_option maxRecDepth 100000
theorem readO_at {f : ByteArray} {φ : Fm.T} (h : readB f = some φ) : Fm.At f.data.toList 0 φ ∧ f.size ≤ 4000 := by
  unfold readB at h
  obtain ⟨h1, h2⟩ := Fm.read_iff.1 h
  exact ⟨by rw [h1]; exact Fm.At.whole φ, by simpa using h2⟩
/-- Whether a text is a formula whose free variables' number divides so. -/
def okV (f : ByteArray) (d : Nat) : Bool :=
  match readB f with
  | none => false
  | some φ => decide (Fm.free φ / d = 0)
theorem okV_none {f : ByteArray} {d : Nat} (h : readB f = none) : okV f d = false := by unfold okV; rw [h]
theorem okV_some {f : ByteArray} {d : Nat} {φ : Fm.T} (h : readB f = some φ) : okV f d = decide (Fm.free φ / d = 0) := by unfold okV; rw [h]
theorem l11View_1 (f : ByteArray) (hf : f.size ≤ 9223372036854775807) (w : World) : Calls Tryz.prog 27 #[.string f, .int .i64 1] w fun en w' => en = .returned (.bool (okV f 2)) ∧ w' = w := by
  have HFV := Lib.hid (fun w => FormulaValid_any f w hf)
  cases hr : readB f with
  | none =>
    have HO := Lib.hid (okV_none (d := 2) hr)
    rw [hr] at HFV
    clear hr
    go_enter Tryz.func27, Tryz.ntmps27
    go_wp2_with fail
    refine (HFV.out _).mono ?_; rintro _ w2 ⟨rfl, hw2⟩; rw [hw2]; clear hw2 w2
    go_wp2_with fail
    go_ret
    exact ⟨ret_bool HO.out.symm, rfl⟩
  | some φ =>
    have HO := Lib.hid (okV_some (d := 2) hr)
    rw [hr] at HFV
    have HAT := readO_at hr
    have HLF : Hid (∀ w, Calls Tryz.prog 50 #[.string f, .int .i64 0] w fun e w' => e = .returned (.tuple #[.int .i64 ((Fm.free φ : Nat) : Int), .int .i64 ((0 + Fm.len φ : Nat) : Int)]) ∧ w' = w) := fun w => l2Free_any f (by have := HAT.2; omega) φ 0 0 w rfl HAT.1
    have hfl := Fm.free_lt φ
    clear hr HAT
    generalize Fm.free φ = fr at *
    go_enter Tryz.func27, Tryz.ntmps27
    go_wp2_with fail
    refine (HFV.out _).mono ?_; rintro _ w2 ⟨rfl, hw2⟩; rw [hw2]; clear hw2 w2
    go_wp2_with fail
    refine (HLF.out _).mono ?_; rintro _ w2 ⟨rfl, hw2⟩; rw [hw2]; clear hw2 w2
    go_wp2_with fail
    go_ret
    refine ⟨ret_bool ?_, rfl⟩
    rw [HO.out, Bool.eq_iff_iff, beq_iff_eq, decide_eq_true_eq]; omega
theorem l11View_2 (f : ByteArray) (hf : f.size ≤ 9223372036854775807) (w : World) : Calls Tryz.prog 27 #[.string f, .int .i64 2] w fun en w' => en = .returned (.bool (okV f 4)) ∧ w' = w := by
  have HFV := Lib.hid (fun w => FormulaValid_any f w hf)
  cases hr : readB f with
  | none =>
    have HO := Lib.hid (okV_none (d := 4) hr)
    rw [hr] at HFV
    clear hr
    go_enter Tryz.func27, Tryz.ntmps27
    go_wp2_with fail
    refine (HFV.out _).mono ?_; rintro _ w2 ⟨rfl, hw2⟩; rw [hw2]; clear hw2 w2
    go_wp2_with fail
    go_ret
    exact ⟨ret_bool HO.out.symm, rfl⟩
  | some φ =>
    have HO := Lib.hid (okV_some (d := 4) hr)
    rw [hr] at HFV
    have HAT := readO_at hr
    have HLF : Hid (∀ w, Calls Tryz.prog 50 #[.string f, .int .i64 0] w fun e w' => e = .returned (.tuple #[.int .i64 ((Fm.free φ : Nat) : Int), .int .i64 ((0 + Fm.len φ : Nat) : Int)]) ∧ w' = w) := fun w => l2Free_any f (by have := HAT.2; omega) φ 0 0 w rfl HAT.1
    have hfl := Fm.free_lt φ
    clear hr HAT
    generalize Fm.free φ = fr at *
    go_enter Tryz.func27, Tryz.ntmps27
    go_wp2_with fail
    refine (HFV.out _).mono ?_; rintro _ w2 ⟨rfl, hw2⟩; rw [hw2]; clear hw2 w2
    go_wp2_with fail
    refine (HLF.out _).mono ?_; rintro _ w2 ⟨rfl, hw2⟩; rw [hw2]; clear hw2 w2
    go_wp2_with fail
    go_ret
    refine ⟨ret_bool ?_, rfl⟩
    rw [HO.out, Bool.eq_iff_iff, beq_iff_eq, decide_eq_true_eq]; omega
end Go.Proofs.YtdcnpjekmnlgjaaGreatDoor

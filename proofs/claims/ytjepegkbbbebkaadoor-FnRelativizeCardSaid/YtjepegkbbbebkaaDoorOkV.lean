/- The reference's l11View: whether a text is a formula with some first variables free alone. Condition: the text's length fits an integer. -/
import Derived.Test.YtjepegkbbbebkaaDoorFmEnd
namespace Go.Proofs.YtjepegkbbbebkaaDoor
open Go.RowKit
set_option linter.unusedVariables false
set_option maxRecDepth 100000

theorem readO_at {f : ByteArray} {φ : Fm.T} (h : readB f = some φ) : Fm.At f.data.toList 0 φ ∧ f.size ≤ 4000 := by
  unfold readB at h
  obtain ⟨h1, h2⟩ := Fm.read_iff.1 h
  exact ⟨by rw [h1]; exact Fm.At.whole φ, by simpa using h2⟩
/-- Whether a text is a formula whose free variables' number divides so. -/
def okV (f : ByteArray) (d : Nat) : Bool :=
  match readB f with
  | none => false
  | some φ => decide (Fm.free φ / d = 0)
theorem okV_none {f : ByteArray} {d : Nat} (h : readB f = none) : okV f d = false := by unfold okV; rw [h]
theorem okV_some {f : ByteArray} {d : Nat} {φ : Fm.T} (h : readB f = some φ) : okV f d = decide (Fm.free φ / d = 0) := by unfold okV; rw [h]
theorem l11View_1 (f : ByteArray) (hf : f.size ≤ 9223372036854775807) (w : World) : Calls Tryd.prog 66 #[.string f, .int .i64 1] w fun en w' => en = .returned (.bool (okV f 2)) ∧ w' = w := by
  have HFV := Lib.hid (fun w => FormulaValid_any f w hf)
  cases hr : readB f with
  | none =>
    have HO := Lib.hid (okV_none (d := 2) hr)
    rw [hr] at HFV
    clear hr
    go_enter Tryd.func66, Tryd.ntmps66
    go_wp2_with fail
    refine (HFV.out _).mono ?_; rintro _ w2 ⟨rfl, hw2⟩; rw [hw2]; clear hw2 w2
    go_wp2_with fail
    go_ret
    exact ⟨ret_bool HO.out.symm, rfl⟩
  | some φ =>
    have HO := Lib.hid (okV_some (d := 2) hr)
    rw [hr] at HFV
    have HAT := readO_at hr
    have HLF : Hid (∀ w, Calls Tryd.prog 118 #[.string f, .int .i64 0] w fun e w' => e = .returned (.tuple #[.int .i64 ((Fm.free φ : Nat) : Int), .int .i64 ((0 + Fm.len φ : Nat) : Int)]) ∧ w' = w) := fun w => l2Free_any f (by have := HAT.2; omega) φ 0 0 w rfl HAT.1
    have hfl := Fm.free_lt φ
    clear hr HAT
    generalize Fm.free φ = fr at *
    go_enter Tryd.func66, Tryd.ntmps66
    go_wp2_with fail
    refine (HFV.out _).mono ?_; rintro _ w2 ⟨rfl, hw2⟩; rw [hw2]; clear hw2 w2
    go_wp2_with fail
    refine (HLF.out _).mono ?_; rintro _ w2 ⟨rfl, hw2⟩; rw [hw2]; clear hw2 w2
    go_wp2_with fail
    go_ret
    refine ⟨ret_bool ?_, rfl⟩
    rw [HO.out, Bool.eq_iff_iff, beq_iff_eq, decide_eq_true_eq]; omega
theorem l11View_2 (f : ByteArray) (hf : f.size ≤ 9223372036854775807) (w : World) : Calls Tryd.prog 66 #[.string f, .int .i64 2] w fun en w' => en = .returned (.bool (okV f 4)) ∧ w' = w := by
  have HFV := Lib.hid (fun w => FormulaValid_any f w hf)
  cases hr : readB f with
  | none =>
    have HO := Lib.hid (okV_none (d := 4) hr)
    rw [hr] at HFV
    clear hr
    go_enter Tryd.func66, Tryd.ntmps66
    go_wp2_with fail
    refine (HFV.out _).mono ?_; rintro _ w2 ⟨rfl, hw2⟩; rw [hw2]; clear hw2 w2
    go_wp2_with fail
    go_ret
    exact ⟨ret_bool HO.out.symm, rfl⟩
  | some φ =>
    have HO := Lib.hid (okV_some (d := 4) hr)
    rw [hr] at HFV
    have HAT := readO_at hr
    have HLF : Hid (∀ w, Calls Tryd.prog 118 #[.string f, .int .i64 0] w fun e w' => e = .returned (.tuple #[.int .i64 ((Fm.free φ : Nat) : Int), .int .i64 ((0 + Fm.len φ : Nat) : Int)]) ∧ w' = w) := fun w => l2Free_any f (by have := HAT.2; omega) φ 0 0 w rfl HAT.1
    have hfl := Fm.free_lt φ
    clear hr HAT
    generalize Fm.free φ = fr at *
    go_enter Tryd.func66, Tryd.ntmps66
    go_wp2_with fail
    refine (HFV.out _).mono ?_; rintro _ w2 ⟨rfl, hw2⟩; rw [hw2]; clear hw2 w2
    go_wp2_with fail
    refine (HLF.out _).mono ?_; rintro _ w2 ⟨rfl, hw2⟩; rw [hw2]; clear hw2 w2
    go_wp2_with fail
    go_ret
    refine ⟨ret_bool ?_, rfl⟩
    rw [HO.out, Bool.eq_iff_iff, beq_iff_eq, decide_eq_true_eq]; omega
end Go.Proofs.YtjepegkbbbebkaaDoor

/- ReverseSentence of the program and of the reference. Condition: the text's length fits an integer. -/
import Derived.Test.YtenjojakjdaamaaDoorPullB
namespace Go.Proofs.YtenjojakjdaamaaDoor
open Go.RowKit
set_option linter.unusedVariables false
set_option maxRecDepth 100000

/-- What ReverseSentence returns. -/
def rvRes (f : ByteArray) : Option Fm.T :=
  match readB f with
  | some χ => if Fm.free χ = 0 then pbRes f ⟨#[80, 97]⟩ ⟨#[69, 98, 97]⟩ else none
  | none => none
theorem rv_none {f : ByteArray} (h : readB f = none) : rvRes f = none := by unfold rvRes; rw [h]
theorem rv_some {f : ByteArray} {χ : Fm.T} (h : readB f = some χ) : rvRes f = if Fm.free χ = 0 then pbRes f ⟨#[80, 97]⟩ ⟨#[69, 98, 97]⟩ else none := by unfold rvRes; rw [h]
theorem implReverse_any (f : ByteArray) (hf : f.size ≤ 9223372036854775807) (w : World) : Calls Tryd.prog 21 #[.string f] w fun e w' => e = .returned (shortV (rvRes f)) ∧ Below w.heap.size w w' := by
  obtain ⟨R, hR⟩ : ∃ R, rvRes f = R := ⟨_, rfl⟩
  rw [hR]
  go_enter Tryd.func21, Tryd.ntmps21
  go_wp2_with fail
  refine (parseFormula_any f _ hf).mono ?_
  rintro en w1 ⟨hb1, hor⟩
  have HB1 := Lib.hid hb1
  clear hb1
  rcases hor with ⟨hr, rfl⟩ | ⟨χ, p, hr, rfl, ht⟩
  · have HV : Hid (shortV R = .tuple #[.string ⟨#[]⟩, .bool false]) := by show _ = _; rw [← hR, rv_none hr]; rfl
    clear hr hR
    go_wp2_with fail
    go_ret2
    exact ⟨congrArg Ending.returned HV.out.symm, HB1.out⟩
  · obtain ⟨v, u, qs, nd, _⟩ := ht.node
    have c3 := nd.cells.2.2.2.1
    have HI := Lib.hid (hR.symm.trans (rv_some hr))
    have hfl := Fm.free_lt χ
    clear nd ht hr hR
    generalize Fm.free χ = fr at *
    unfold ptrV
    by_cases h0 : fr = 0
    · have HC := Lib.hid (fun w => implPullBack_any f ⟨#[80, 97]⟩ ⟨#[69, 98, 97]⟩ hf (by decide) (by decide) w)
      have hRR := HI.out.trans (if_pos h0)
      rw [← hRR] at HC
      obtain ⟨s, b, hsf⟩ := short_form R
      rw [hsf] at HC
      have HSF := Lib.hid hsf
      clear hRR hsf HI
      go_wp2_with fail
      refine (HC.out _).mono ?_; rintro e w2 ⟨rfl, hb2⟩
      have HB2 := Lib.hid (HB1.out.trans (hb2.mono HB1.out.size))
      clear hb2
      go_wp2_with fail
      go_ret2
      exact ⟨congrArg Ending.returned HSF.out.symm, HB2.out⟩
    · have HV : Hid (shortV R = .tuple #[.string ⟨#[]⟩, .bool false]) := by show _ = _; rw [HI.out, if_neg h0]; rfl
      clear HI
      go_wp2_with fail
      go_ret2
      exact ⟨congrArg Ending.returned HV.out.symm, HB1.out⟩
theorem revView_0 (f : ByteArray) (hf : f.size ≤ 9223372036854775807) (w : World) : Calls Tryd.prog 80 #[.string f, .int .i64 0] w fun en w' => en = .returned (.bool (okV f 1)) ∧ w' = w := by
  have HFV := Lib.hid (fun w => FormulaValid_any f w hf)
  cases hr : readB f with
  | none =>
    have HO := Lib.hid (okV_none (d := 1) hr)
    rw [hr] at HFV
    clear hr
    go_enter Tryd.func80, Tryd.ntmps80
    go_wp2_with fail
    refine (HFV.out _).mono ?_; rintro _ w2 ⟨rfl, hw2⟩; rw [hw2]; clear hw2 w2
    go_wp2_with fail
    go_ret
    exact ⟨ret_bool HO.out.symm, rfl⟩
  | some φ =>
    have HO := Lib.hid (okV_some (d := 1) hr)
    rw [hr] at HFV
    have HAT := readO_at hr
    have HLF : Hid (∀ w, Calls Tryd.prog 141 #[.string f, .int .i64 0] w fun e w' => e = .returned (.tuple #[.int .i64 ((Fm.free φ : Nat) : Int), .int .i64 ((0 + Fm.len φ : Nat) : Int)]) ∧ w' = w) := fun w => l2Free_any f (by have := HAT.2; omega) φ 0 0 w rfl HAT.1
    have hfl := Fm.free_lt φ
    clear hr HAT
    generalize Fm.free φ = fr at *
    go_enter Tryd.func80, Tryd.ntmps80
    go_wp2_with fail
    refine (HFV.out _).mono ?_; rintro _ w2 ⟨rfl, hw2⟩; rw [hw2]; clear hw2 w2
    go_wp2_with fail
    refine (HLF.out _).mono ?_; rintro _ w2 ⟨rfl, hw2⟩; rw [hw2]; clear hw2 w2
    go_wp2_with fail
    go_ret
    refine ⟨ret_bool ?_, rfl⟩
    rw [HO.out, Nat.div_one, Bool.eq_iff_iff, beq_iff_eq, decide_eq_true_eq]; omega
theorem specReverse_any (f : ByteArray) (hf : f.size ≤ 9223372036854775807) (w : World) : Calls Tryd.prog 22 #[.string f] w fun e w' => e = .returned (shortV (rvRes f)) ∧ Below w.heap.size w w' := by
  have HV := Lib.hid (fun w => revView_0 f hf w)
  have key : (okV f 1 = false ∧ rvRes f = none) ∨ (okV f 1 = true ∧ rvRes f = pbRes f ⟨#[80, 97]⟩ ⟨#[69, 98, 97]⟩) := by
    cases hr : readB f with
    | none => exact .inl ⟨okV_none hr, rv_none hr⟩
    | some χ =>
      rw [okV_some hr, rv_some hr, Nat.div_one]
      by_cases h0 : Fm.free χ = 0
      · exact .inr ⟨by rw [decide_eq_true_iff]; exact h0, if_pos h0⟩
      · exact .inl ⟨by rw [decide_eq_false_iff_not]; exact h0, if_neg h0⟩
  rcases key with ⟨h1, h2⟩ | ⟨h1, h2⟩
  · rw [h1] at HV
    have HS : Hid (shortV (rvRes f) = .tuple #[.string ⟨#[]⟩, .bool false]) := by show _ = _; rw [h2]; rfl
    generalize shortV (rvRes f) = SV at *
    clear h1 h2
    go_enter Tryd.func22, Tryd.ntmps22
    go_wp2_with fail
    refine (HV.out _).mono ?_; rintro _ w2 ⟨rfl, hw2⟩; rw [hw2]; clear hw2 w2
    go_wp2_with fail
    go_ret2
    exact ⟨congrArg Ending.returned HS.out.symm, Below.refl _ _⟩
  · rw [h1] at HV
    have HC := Lib.hid (fun w => specPullBack_any f ⟨#[80, 97]⟩ ⟨#[69, 98, 97]⟩ hf (by decide) (by decide) w)
    rw [← h2] at HC
    obtain ⟨s, b, hsf⟩ := short_form (rvRes f)
    rw [hsf] at HC
    have HS := Lib.hid hsf
    generalize shortV (rvRes f) = SV at *
    clear h1 h2 hsf
    go_enter Tryd.func22, Tryd.ntmps22
    go_wp2_with fail
    refine (HV.out _).mono ?_; rintro _ w2 ⟨rfl, hw2⟩; rw [hw2]; clear hw2 w2
    go_wp2_with fail
    refine (HC.out _).mono ?_; rintro e w2 ⟨rfl, hb2⟩
    have HB2 := Lib.hid hb2
    clear hb2
    go_wp2_with fail
    go_ret2
    exact ⟨congrArg Ending.returned HS.out.symm, HB2.out⟩
end Go.Proofs.YtenjojakjdaamaaDoor

/- LengthSentence of the program and of the reference; the law FnExactLengthSentence: it returns true. No condition but that the integers fit their kind. -/
import Derived.Test.YtembkkooofmchaaLong3
namespace Go.Proofs.Ytembkkooofmchaa
open Go.RowKit
set_option linter.unusedVariables false

theorem shortFormula_yes (s : ByteArray) (w : World) (h : (s.size : Int) ≤ 4000) :
    Calls Try.prog 44 #[.string s, .bool true] w fun e w' => e = .returned (.tuple #[.string s, .bool true]) ∧ w = w' := by
  go_enter Try.func44, Try.ntmps44
  go_wp2_with fail
  go_ret2
  exact ⟨rfl, rfl⟩

/-- What LengthSentence returns. -/
def lengthRes (n : Int) : Value := .tuple #[.string (if inB n 0 100 then longP n.toNat ByteArray.empty ByteArray.empty else ByteArray.empty), .bool (inB n 0 100)]
theorem long_small (n : Nat) (h : n ≤ 100) : ((longP n ByteArray.empty ByteArray.empty).size : Int) ≤ 4000 := by
  have := (longP_size n ByteArray.empty ByteArray.empty (by decide) (by decide)).1
  omega

theorem implLength_any (n : Int) (w : World) :
    Calls Try.prog 28 #[.int .i64 n] w fun e w' => e = .returned (lengthRes n) ∧ Below w.heap.size w w' := by
  unfold lengthRes
  by_cases h0 : 0 ≤ n
  · by_cases h1 : n ≤ 100
    · rw [inB_true h0 h1, if_pos rfl]
      obtain ⟨k, rfl⟩ := Int.eq_ofNat_of_zero_le h0
      rw [Int.toNat_natCast]
      have HL := Lib.hid (fun w => lenB_any k ByteArray.empty ByteArray.empty w (by omega) (by decide) (by decide))
      have hz := long_small k (by omega)
      generalize longP k ByteArray.empty ByteArray.empty = s at *
      go_enter Try.func28, Try.ntmps28
      go_wp2_with fail
      refine (HL.out _).mono ?_; rintro e w1 ⟨rfl, hb⟩
      have HB := Lib.hid hb; clear hb
      go_wp2_with fail
      refine (shortFormula_yes s _ hz).mono ?_; rintro e w2 ⟨rfl, rfl⟩
      go_wp2_with fail
      go_ret2
      exact ⟨rfl, HB.out⟩
    · rw [inB_hi h1]
      go_enter Try.func28, Try.ntmps28
      go_wp2_with fail
      go_ret2
      exact ⟨rfl, Below.refl _ _⟩
  · rw [inB_lo h0]
    go_enter Try.func28, Try.ntmps28
    go_wp2_with fail
    go_ret2
    exact ⟨rfl, Below.refl _ _⟩
theorem specLength_any (n : Int) (w : World) :
    Calls Try.prog 27 #[.int .i64 n] w fun e w' => e = .returned (lengthRes n) ∧ Below w.heap.size w w' := by
  unfold lengthRes
  cases hk : inB n 0 100
  · have HK := Lib.hid hk; clear hk
    go_enter Try.func27, Try.ntmps27
    go_wp2_with fail
    refine (l1In_is _ HK.out).mono ?_; rintro e w' ⟨rfl, rfl⟩
    go_wp2_with fail
    go_ret2
    exact ⟨rfl, Below.refl _ _⟩
  · obtain ⟨h0, h1⟩ := inB_iff.1 hk
    rw [if_pos rfl]
    have HK := Lib.hid hk; clear hk
    obtain ⟨k, rfl⟩ := Int.eq_ofNat_of_zero_le h0
    rw [Int.toNat_natCast]
    have HL := Lib.hid (fun w => longer_any k ByteArray.empty ByteArray.empty w (by omega) (by decide) (by decide))
    generalize longP k ByteArray.empty ByteArray.empty = s at *
    go_enter Try.func27, Try.ntmps27
    go_wp2_with fail
    refine (l1In_is _ HK.out).mono ?_; rintro e w' ⟨rfl, rfl⟩
    go_wp2_with fail
    refine (HL.out _).mono ?_; rintro e w1 ⟨rfl, hb⟩
    have HB := Lib.hid hb; clear hb
    go_wp2_with fail
    go_ret2
    exact ⟨rfl, HB.out⟩

theorem fnExactLengthSentence_walk (a0 : Int) (w : World) (_w0 : (Lit.int .i64 a0).wf = true) :
    Calls Try.prog 11 #[.int .i64 a0] w fun e w' => e = .returned (.bool true) ∧ Below w.heap.size w w' := by
  have H1 := Lib.hid (fun w => specLength_any a0 w)
  have H2 := Lib.hid (fun w => implLength_any a0 w)
  unfold lengthRes at H1 H2
  generalize (if inB a0 0 100 then longP a0.toNat ByteArray.empty ByteArray.empty else ByteArray.empty) = s at *
  generalize inB a0 0 100 = b at *
  go_enter Try.func11, Try.ntmps11
  go_wp2_with fail
  refine (H1.out _).mono ?_; rintro e w1 ⟨rfl, hb⟩
  have HB1 := Lib.hid hb; clear hb
  go_wp2_with fail
  refine (H2.out _).mono ?_; rintro e w2 ⟨rfl, hb⟩
  have HB2 := Lib.hid (HB1.out.trans (hb.mono HB1.out.size)); clear hb
  go_wp2_with fail
  go_ret
  exact ⟨rfl, HB2.out⟩
end Go.Proofs.Ytembkkooofmchaa

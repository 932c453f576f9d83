/- LengthSentence of the program and of the reference; the law FnExactLengthSentence: it returns true. No condition but that the integers fit their kind. -/
import Derived.Test.YtenjojakjdaamaaDoorLong3
namespace Go.Proofs.YtenjojakjdaamaaDoor
open Go.RowKit
set_option linter.unusedVariables false

theorem shortFormula_yes (s : ByteArray) (w : World) (h : (s.size : Int) ≤ 4000) :
    Calls Tryd.prog 79 #[.string s, .bool true] w fun e w' => e = .returned (.tuple #[.string s, .bool true]) ∧ w = w' := by
  go_enter Tryd.func79, Tryd.ntmps79
  go_wp2_with fail
  go_ret2
  exact ⟨rfl, rfl⟩

/-- What LengthSentence returns. -/
def lengthRes (n : Int) : Value := .tuple #[.string (if inB n 0 100 then longP n.toNat ByteArray.empty ByteArray.empty else ByteArray.empty), .bool (inB n 0 100)]
theorem long_small (n : Nat) (h : n ≤ 100) : ((longP n ByteArray.empty ByteArray.empty).size : Int) ≤ 4000 := by
  have := (longP_size n ByteArray.empty ByteArray.empty (by decide) (by decide)).1
  omega

theorem implLength_any (n : Int) (w : World) :
    Calls Tryd.prog 46 #[.int .i64 n] w fun e w' => e = .returned (lengthRes n) ∧ Below w.heap.size w w' := by
  unfold lengthRes
  by_cases h0 : 0 ≤ n
  · by_cases h1 : n ≤ 100
    · rw [inB_true h0 h1, if_pos rfl]
      obtain ⟨k, rfl⟩ := Int.eq_ofNat_of_zero_le h0
      rw [Int.toNat_natCast]
      have HL := Lib.hid (fun w => lenB_any k ByteArray.empty ByteArray.empty w (by omega) (by decide) (by decide))
      have hz := long_small k (by omega)
      generalize longP k ByteArray.empty ByteArray.empty = s at *
      go_enter Tryd.func46, Tryd.ntmps46
      go_wp2_with fail
      refine (HL.out _).mono ?_; rintro e w1 ⟨rfl, hb⟩
      have HB := Lib.hid hb; clear hb
      go_wp2_with fail
      refine (shortFormula_yes s _ hz).mono ?_; rintro e w2 ⟨rfl, rfl⟩
      go_wp2_with fail
      go_ret2
      exact ⟨rfl, HB.out⟩
    · rw [inB_hi h1]
      go_enter Tryd.func46, Tryd.ntmps46
      go_wp2_with fail
      go_ret2
      exact ⟨rfl, Below.refl _ _⟩
  · rw [inB_lo h0]
    go_enter Tryd.func46, Tryd.ntmps46
    go_wp2_with fail
    go_ret2
    exact ⟨rfl, Below.refl _ _⟩
theorem specLength_any (n : Int) (w : World) :
    Calls Tryd.prog 47 #[.int .i64 n] w fun e w' => e = .returned (lengthRes n) ∧ Below w.heap.size w w' := by
  unfold lengthRes
  cases hk : inB n 0 100
  · have HK := Lib.hid hk; clear hk
    go_enter Tryd.func47, Tryd.ntmps47
    go_wp2_with fail
    refine (l1In_is _ HK.out).mono ?_; rintro e w' ⟨rfl, rfl⟩
    go_wp2_with fail
    go_ret2
    exact ⟨rfl, Below.refl _ _⟩
  · obtain ⟨h0, h1⟩ := inB_iff.1 hk
    rw [if_pos rfl]
    have HK := Lib.hid hk; clear hk
    obtain ⟨k, rfl⟩ := Int.eq_ofNat_of_zero_le h0
    rw [Int.toNat_natCast]
    have HL := Lib.hid (fun w => longer_any k ByteArray.empty ByteArray.empty w (by omega) (by decide) (by decide))
    generalize longP k ByteArray.empty ByteArray.empty = s at *
    go_enter Tryd.func47, Tryd.ntmps47
    go_wp2_with fail
    refine (l1In_is _ HK.out).mono ?_; rintro e w' ⟨rfl, rfl⟩
    go_wp2_with fail
    refine (HL.out _).mono ?_; rintro e w1 ⟨rfl, hb⟩
    have HB := Lib.hid hb; clear hb
    go_wp2_with fail
    go_ret2
    exact ⟨rfl, HB.out⟩

end Go.Proofs.YtenjojakjdaamaaDoor

/- Orders: of the program and of the reference; OrderOf; the law FnExactOrderOf: it returns true. No condition but that the integers fit their kind. -/
import Derived.Test.YtmabpmkkleelaaaDoorWordStr
import Derived.Test.YtmabpmkkleelaaaDoorCircle
import Derived.Test.YtmabpmkkleelaaaDoorShelfR
namespace Go.Proofs.YtmabpmkkleelaaaDoor
open Go.RowKit
set_option linter.unusedVariables false

theorem rep_list (b : UInt8) (n : Nat) : (⟨(Lib.repeatL [b] n).toArray⟩ : ByteArray) = rep ⟨#[b]⟩ n := by
  apply ByteArray.ext
  induction n with
  | zero => simp [rep, Lib.repeatL]
  | succ n ih =>
    show _ = ((⟨#[b]⟩ : ByteArray) ++ rep ⟨#[b]⟩ n).data
    rw [ByteArray.data_append, ← ih]
    simp [Lib.repeatL]

def orderV (n : Nat) : Value := wordV (rep ⟨#[121]⟩ n)
theorem yrep_size (n : Nat) : (rep ⟨#[121]⟩ n).size = n := by
  rw [rep_size]; exact Nat.mul_one n
/-- What OrderOf returns. -/
def orderRes (k : Int) : Value := .tuple #[if inB k 1 8 then orderV k.toNat else strV 0 ByteArray.empty ByteArray.empty, .bool (inB k 1 8)]

theorem l13Order_any (n : Nat) (w : World) (hn : n ≤ 8) :
    Calls Tryd.prog 96 #[.int .i64 (n : Int)] w fun e w' => e = .returned (orderV n) ∧ Below w.heap.size w w' := by
  have HM := Lib.hid (fun w => l15Many_any ⟨#[121]⟩ n w (by decide) (by omega))
  have HZ := Lib.hid (yrep_size n)
  unfold orderV
  generalize rep ⟨#[121]⟩ n = s at *
  go_enter Tryd.func96, Tryd.ntmps96
  go_wp2_with fail
  refine (HM.out _).mono ?_; rintro e w' ⟨rfl, rfl⟩
  go_wp2_with fail
  refine (l12Structure_any s _ (by have := HZ.out; omega)).mono ?_; rintro e w2 ⟨rfl, hb⟩
  have hB : Below w.heap.size w w2 := ((Below.refl _ _).alloc (Nat.le_refl _) _).trans (hb.mono (by simp))
  have hR : SBlk w2 w.heap.size 0 ByteArray.empty ByteArray.empty := (SBlk.new w 0 ByteArray.empty ByteArray.empty).below hb (by simp)
  have HB := Lib.hid hB
  have HR := Lib.hid hR
  clear hb hB
  obtain ⟨d0, d1, d2, g0, g1, g2, hb'⟩ := hR.cells
  clear hR
  unfold wordV strV
  go_wp2_with fail
  refine bodyPost_ret (v := wordV s) ?_ rfl ⟨rfl, ?_⟩
  · exact results_str rfl rfl HR.out.set3
  · exact ((HB.out.setCell (by simp) _).setCell (by simp) _).setCell (by simp) _

theorem implOrderOf_any (k : Int) (w : World) :
    Calls Tryd.prog 30 #[.int .i64 k] w fun e w' => e = .returned (orderRes k) ∧ Below w.heap.size w w' := by
  unfold orderRes
  by_cases h3 : 1 ≤ k
  · by_cases h8 : k ≤ 8
    · rw [inB_true h3 h8, if_pos rfl]
      obtain ⟨n, rfl⟩ := Int.eq_ofNat_of_zero_le (show 0 ≤ k by omega)
      rw [Int.toNat_natCast]
      have HZ := Lib.hid (yrep_size n)
      have HL : Hid ((⟨(Lib.repeatL (⟨#[121]⟩ : ByteArray).data.toList n).toArray⟩ : ByteArray) = rep ⟨#[121]⟩ n) := rep_list 121 n
      unfold orderV
      generalize rep ⟨#[121]⟩ n = s at *
      go_enter Tryd.func30, Tryd.ntmps30
      go_wp2_with fail
      refine (Tryd.strings_Repeat ⟨#[121]⟩ n _ (by omega) (by show 1 * n ≤ _; omega)).mono ?_
      rintro e w1 ⟨rfl, hb⟩
      rw [HL.out]
      have hB : Below w.heap.size w w1 := ((Below.refl _ _).alloc (Nat.le_refl _) _).trans (hb.mono (by simp))
      have hR : SBlk w1 w.heap.size 0 ByteArray.empty ByteArray.empty := (SBlk.new w 0 ByteArray.empty ByteArray.empty).below hb (by simp)
      have HB := Lib.hid hB; have HS := Lib.hid hR; clear hb hB hR
      go_wp2_with fail
      refine (implWordStr_any s _ (by have := HZ.out; omega)).mono ?_
      rintro e w2 ⟨rfl, hb⟩
      have hB : Below w.heap.size w w2 := HB.out.trans (hb.mono HB.out.size)
      have hR : SBlk w2 w.heap.size 0 ByteArray.empty ByteArray.empty := HS.out.below hb (HS.out.cells.2.2.2.2.2.2)
      have HB := Lib.hid hB; have HS := Lib.hid hR; clear hb hB
      obtain ⟨d0, d1, d2, g0, g1, g2, hb'⟩ := hR.cells
      clear hR
      unfold wordV strV
      go_wp2_with fail
      refine bodyPost_ret (v := .tuple #[wordV s, .bool true]) ?_ rfl ⟨rfl, ?_⟩
      · exact results_str2 rfl rfl HS.out.set3 rfl
      · exact ((HB.out.setCell (by simp) _).setCell (by simp) _).setCell (by simp) _
    · rw [inB_hi h8, if_neg (by decide)]
      go_enter Tryd.func30, Tryd.ntmps30
      go_wp2_with fail
      refine bodyPost_ret (v := .tuple #[strV 0 ByteArray.empty ByteArray.empty, .bool false]) ?_ rfl ⟨rfl, ?_⟩
      · exact results_str2 rfl rfl (SBlk.new w 0 ByteArray.empty ByteArray.empty) rfl
      · exact (Below.refl _ _).alloc (Nat.le_refl _) _
  · rw [inB_lo h3, if_neg (by decide)]
    go_enter Tryd.func30, Tryd.ntmps30
    go_wp2_with fail
    refine bodyPost_ret (v := .tuple #[strV 0 ByteArray.empty ByteArray.empty, .bool false]) ?_ rfl ⟨rfl, ?_⟩
    · exact results_str2 rfl rfl (SBlk.new w 0 ByteArray.empty ByteArray.empty) rfl
    · exact (Below.refl _ _).alloc (Nat.le_refl _) _

theorem specOrderOf_any (k : Int) (w : World) :
    Calls Tryd.prog 31 #[.int .i64 k] w fun e w' => e = .returned (orderRes k) ∧ Below w.heap.size w w' := by
  unfold orderRes
  cases hk : inB k 1 8
  · have HK := Lib.hid hk; clear hk
    go_enter Tryd.func31, Tryd.ntmps31
    go_wp2_with fail
    refine (l1In_is _ HK.out).mono ?_; rintro e w' ⟨rfl, rfl⟩
    go_wp2_with fail
    refine bodyPost_ret (v := .tuple #[strV 0 ByteArray.empty ByteArray.empty, .bool false]) ?_ rfl ⟨rfl, ?_⟩
    · exact results_str2 rfl rfl (SBlk.new w 0 ByteArray.empty ByteArray.empty) rfl
    · exact (Below.refl _ _).alloc (Nat.le_refl _) _
  · obtain ⟨h3, h8⟩ := inB_iff.1 hk
    rw [if_pos rfl]
    have HK := Lib.hid hk; clear hk
    obtain ⟨n, rfl⟩ := Int.eq_ofNat_of_zero_le (show 0 ≤ k by omega)
    rw [Int.toNat_natCast]
    go_enter Tryd.func31, Tryd.ntmps31
    go_wp2_with fail
    refine (l1In_is _ HK.out).mono ?_; rintro e w' ⟨rfl, rfl⟩
    go_wp2_with fail
    refine (l13Order_any n _ (by omega)).mono ?_
    rintro e w1 ⟨rfl, hb⟩
    have hB : Below w.heap.size w w1 := ((Below.refl _ _).alloc (Nat.le_refl _) _).trans (hb.mono (by simp))
    have hR : SBlk w1 w.heap.size 0 ByteArray.empty ByteArray.empty := (SBlk.new w 0 ByteArray.empty ByteArray.empty).below hb (by simp)
    have HB := Lib.hid hB
    have HR := Lib.hid hR
    clear hb hB
    obtain ⟨d0, d1, d2, g0, g1, g2, hb'⟩ := hR.cells
    clear hR
    unfold orderV wordV strV
    go_wp2_with fail
    refine bodyPost_ret (v := .tuple #[orderV n, .bool true]) ?_ rfl ⟨rfl, ?_⟩
    · exact results_str2 rfl rfl HR.out.set3 rfl
    · exact ((HB.out.setCell (by simp) _).setCell (by simp) _).setCell (by simp) _

theorem orderRes_form (k : Int) : ∃ n S R b, orderRes k = .tuple #[strV n S R, .bool b] := by
  unfold orderRes
  cases inB k 1 8
  · exact ⟨_, _, _, _, rfl⟩
  · exact ⟨_, _, _, _, rfl⟩

end Go.Proofs.YtmabpmkkleelaaaDoor

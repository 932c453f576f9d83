/- Orders: of the program and of the reference; OrderOf; the law FnExactOrderOf: it returns true. No condition but that the integers fit their kind. -/
import Derived.Test.YtembkkooofmchaaWordStr
import Derived.Test.YtembkkooofmchaaCircle
namespace Go.Proofs.Ytembkkooofmchaa
open Go.RowKit
set_option linter.unusedVariables false

theorem rep_list (b : UInt8) (n : Nat) : (⟨(Lib.repeatL [b] n).toArray⟩ : ByteArray) = rep ⟨#[b]⟩ n := by
  apply ByteArray.ext
  induction n with
  | zero => simp [rep, Lib.repeatL]
  | succ n ih =>
    show _ = ((⟨#[b]⟩ : ByteArray) ++ rep ⟨#[b]⟩ n).data
    rw [ByteArray.data_append, ← ih]
    simp [Lib.repeatL]

def orderV (n : Nat) : Value := wordV (rep ⟨#[121]⟩ n)
theorem yrep_size (n : Nat) : (rep ⟨#[121]⟩ n).size = n := by
  rw [rep_size]; exact Nat.mul_one n
/-- What OrderOf returns. -/
def orderRes (k : Int) : Value := .tuple #[if inB k 1 8 then orderV k.toNat else strV 0 ByteArray.empty ByteArray.empty, .bool (inB k 1 8)]

theorem l13Order_any (n : Nat) (w : World) (hn : n ≤ 8) :
    Calls Try.prog 46 #[.int .i64 (n : Int)] w fun e w' => e = .returned (orderV n) ∧ Below w.heap.size w w' := by
  have HM := Lib.hid (fun w => l15Many_any ⟨#[121]⟩ n w (by decide) (by omega))
  have HZ := Lib.hid (yrep_size n)
  unfold orderV
  generalize rep ⟨#[121]⟩ n = s at *
  go_enter Try.func46, Try.ntmps46
  go_wp2_with fail
  refine (HM.out _).mono ?_; rintro e w' ⟨rfl, rfl⟩
  go_wp2_with fail
  refine (l12Structure_any s _ (by have := HZ.out; omega)).mono ?_; rintro e w2 ⟨rfl, hb⟩
  have hB : Below w.heap.size w w2 := ((Below.refl _ _).alloc (Nat.le_refl _) _).trans (hb.mono (by simp))
  have hR : SBlk w2 w.heap.size 0 ByteArray.empty ByteArray.empty := (SBlk.new w 0 ByteArray.empty ByteArray.empty).below hb (by simp)
  have HB := Lib.hid hB
  have HR := Lib.hid hR
  clear hb hB
  obtain ⟨d0, d1, d2, g0, g1, g2, hb'⟩ := hR.cells
  clear hR
  unfold wordV strV
  go_wp2_with fail
  refine bodyPost_ret (v := wordV s) ?_ rfl ⟨rfl, ?_⟩
  · exact results_str rfl rfl HR.out.set3
  · exact ((HB.out.setCell (by simp) _).setCell (by simp) _).setCell (by simp) _

theorem implOrderOf_any (k : Int) (w : World) :
    Calls Try.prog 30 #[.int .i64 k] w fun e w' => e = .returned (orderRes k) ∧ Below w.heap.size w w' := by
  unfold orderRes
  by_cases h3 : 1 ≤ k
  · by_cases h8 : k ≤ 8
    · rw [inB_true h3 h8, if_pos rfl]
      obtain ⟨n, rfl⟩ := Int.eq_ofNat_of_zero_le (show 0 ≤ k by omega)
      rw [Int.toNat_natCast]
      have HZ := Lib.hid (yrep_size n)
      have HL : Hid ((⟨(Lib.repeatL (⟨#[121]⟩ : ByteArray).data.toList n).toArray⟩ : ByteArray) = rep ⟨#[121]⟩ n) := rep_list 121 n
      unfold orderV
      generalize rep ⟨#[121]⟩ n = s at *
      go_enter Try.func30, Try.ntmps30
      go_wp2_with fail
      refine (Try.strings_Repeat ⟨#[121]⟩ n _ (by omega) (by show 1 * n ≤ _; omega)).mono ?_
      rintro e w1 ⟨rfl, hb⟩
      rw [HL.out]
      have hB : Below w.heap.size w w1 := ((Below.refl _ _).alloc (Nat.le_refl _) _).trans (hb.mono (by simp))
      have hR : SBlk w1 w.heap.size 0 ByteArray.empty ByteArray.empty := (SBlk.new w 0 ByteArray.empty ByteArray.empty).below hb (by simp)
      have HB := Lib.hid hB; have HS := Lib.hid hR; clear hb hB hR
      go_wp2_with fail
      refine (implWordStr_any s _ (by have := HZ.out; omega)).mono ?_
      rintro e w2 ⟨rfl, hb⟩
      have hB : Below w.heap.size w w2 := HB.out.trans (hb.mono HB.out.size)
      have hR : SBlk w2 w.heap.size 0 ByteArray.empty ByteArray.empty := HS.out.below hb (HS.out.cells.2.2.2.2.2.2)
      have HB := Lib.hid hB; have HS := Lib.hid hR; clear hb hB
      obtain ⟨d0, d1, d2, g0, g1, g2, hb'⟩ := hR.cells
      clear hR
      unfold wordV strV
      go_wp2_with fail
      refine bodyPost_ret (v := .tuple #[wordV s, .bool true]) ?_ rfl ⟨rfl, ?_⟩
      · exact results_str2 rfl rfl HS.out.set3 rfl
      · exact ((HB.out.setCell (by simp) _).setCell (by simp) _).setCell (by simp) _
    · rw [inB_hi h8, if_neg (by decide)]
      go_enter Try.func30, Try.ntmps30
      go_wp2_with fail
      refine bodyPost_ret (v := .tuple #[strV 0 ByteArray.empty ByteArray.empty, .bool false]) ?_ rfl ⟨rfl, ?_⟩
      · exact results_str2 rfl rfl (SBlk.new w 0 ByteArray.empty ByteArray.empty) rfl
      · exact (Below.refl _ _).alloc (Nat.le_refl _) _
  · rw [inB_lo h3, if_neg (by decide)]
    go_enter Try.func30, Try.ntmps30
    go_wp2_with fail
    refine bodyPost_ret (v := .tuple #[strV 0 ByteArray.empty ByteArray.empty, .bool false]) ?_ rfl ⟨rfl, ?_⟩
    · exact results_str2 rfl rfl (SBlk.new w 0 ByteArray.empty ByteArray.empty) rfl
    · exact (Below.refl _ _).alloc (Nat.le_refl _) _

theorem specOrderOf_any (k : Int) (w : World) :
    Calls Try.prog 29 #[.int .i64 k] w fun e w' => e = .returned (orderRes k) ∧ Below w.heap.size w w' := by
  unfold orderRes
  cases hk : inB k 1 8
  · have HK := Lib.hid hk; clear hk
    go_enter Try.func29, Try.ntmps29
    go_wp2_with fail
    refine (l1In_is _ HK.out).mono ?_; rintro e w' ⟨rfl, rfl⟩
    go_wp2_with fail
    refine bodyPost_ret (v := .tuple #[strV 0 ByteArray.empty ByteArray.empty, .bool false]) ?_ rfl ⟨rfl, ?_⟩
    · exact results_str2 rfl rfl (SBlk.new w 0 ByteArray.empty ByteArray.empty) rfl
    · exact (Below.refl _ _).alloc (Nat.le_refl _) _
  · obtain ⟨h3, h8⟩ := inB_iff.1 hk
    rw [if_pos rfl]
    have HK := Lib.hid hk; clear hk
    obtain ⟨n, rfl⟩ := Int.eq_ofNat_of_zero_le (show 0 ≤ k by omega)
    rw [Int.toNat_natCast]
    go_enter Try.func29, Try.ntmps29
    go_wp2_with fail
    refine (l1In_is _ HK.out).mono ?_; rintro e w' ⟨rfl, rfl⟩
    go_wp2_with fail
    refine (l13Order_any n _ (by omega)).mono ?_
    rintro e w1 ⟨rfl, hb⟩
    have hB : Below w.heap.size w w1 := ((Below.refl _ _).alloc (Nat.le_refl _) _).trans (hb.mono (by simp))
    have hR : SBlk w1 w.heap.size 0 ByteArray.empty ByteArray.empty := (SBlk.new w 0 ByteArray.empty ByteArray.empty).below hb (by simp)
    have HB := Lib.hid hB
    have HR := Lib.hid hR
    clear hb hB
    obtain ⟨d0, d1, d2, g0, g1, g2, hb'⟩ := hR.cells
    clear hR
    unfold orderV wordV strV
    go_wp2_with fail
    refine bodyPost_ret (v := .tuple #[orderV n, .bool true]) ?_ rfl ⟨rfl, ?_⟩
    · exact results_str2 rfl rfl HR.out.set3 rfl
    · exact ((HB.out.setCell (by simp) _).setCell (by simp) _).setCell (by simp) _

theorem orderRes_form (k : Int) : ∃ n S R b, orderRes k = .tuple #[strV n S R, .bool b] := by
  unfold orderRes
  cases inB k 1 8
  · exact ⟨_, _, _, _, rfl⟩
  · exact ⟨_, _, _, _, rfl⟩

theorem fnExactOrderOf_walk (a0 : Int) (w : World) (_w0 : (Lit.int .i64 a0).wf = true) :
    Calls Try.prog 12 #[.int .i64 a0] w fun e w' => e = .returned (.bool true) ∧ Below w.heap.size w w' := by
  obtain ⟨n, S, R, b, hv⟩ := orderRes_form a0
  have h1 := fun w => specOrderOf_any a0 w
  have h2 := fun w => implOrderOf_any a0 w
  rw [hv] at h1 h2
  have H1 := Lib.hid h1; have H2 := Lib.hid h2; clear h1 h2 hv
  go_enter Try.func12, Try.ntmps12
  go_wp2_with fail
  refine (H1.out _).mono ?_; rintro e w1 ⟨rfl, hb⟩
  have HB1 := Lib.hid hb; clear hb
  unfold strV
  go_wp2_with fail
  refine (H2.out _).mono ?_; rintro e w2 ⟨rfl, hb⟩
  have hR1 : SBlk w2 w1.heap.size n S R := by
    have h := SBlk.new w1 n S R
    exact h.below hb (by simp)
  have HB2 : Hid (Below w.heap.size w w2) := (HB1.out.alloc HB1.out.size _).trans (hb.mono (by have := HB1.out.size; simp; omega))
  clear hb
  have HR1 := Lib.hid hR1
  obtain ⟨c0, c1, c2, f0, f1, f2, hs1⟩ := hR1.cells
  clear hR1
  unfold strV
  go_wp2_with fail
  refine (eqStr_same n S R _).mono ?_; rintro e w3 ⟨rfl, hb⟩
  have HB3 : Hid (Below w.heap.size w w3) := (HB2.out.alloc HB2.out.size _).trans (hb.mono (by have := HB2.out.size; simp; omega))
  clear hb
  go_wp2_with fail
  go_ret
  exact ⟨rfl, HB3.out⟩
end Go.Proofs.Ytembkkooofmchaa

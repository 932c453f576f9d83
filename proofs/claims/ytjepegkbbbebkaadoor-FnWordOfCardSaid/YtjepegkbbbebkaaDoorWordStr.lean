/- WordStructure of the program and of the reference; the law FnExactWordStructure. Condition: a text's length fits an integer. -/
import Derived.Test.YtjepegkbbbebkaaDoorWord
namespace Go.Proofs.YtjepegkbbbebkaaDoor
open Go.RowKit
set_option linter.unusedVariables false

/-- What WordStructure returns. -/
def wordRes (s : ByteArray) : Value := .tuple #[if wordB s then wordV s else strV 0 ByteArray.empty ByteArray.empty, .bool (wordB s)]
theorem wordB_size {s : ByteArray} (h : wordB s = true) : 1 ≤ s.size ∧ s.size ≤ 8 := by
  simp only [wordB, Bool.and_eq_true, inB_iff] at h
  omega

theorem implWordStructure_any (s : ByteArray) (w : World) (hs : s.size ≤ 9223372036854775807) :
    Calls Tryd.prog 12 #[.string s] w fun e w' => e = .returned (wordRes s) ∧ Below w.heap.size w w' := by
  cases hw : wordB s
  · have HW := Lib.hid hw
    have HR : Hid (wordRes s = .tuple #[strV 0 ByteArray.empty ByteArray.empty, .bool false]) := by simp [Hid, wordRes, hw]
    clear hw
    go_enter Tryd.func12, Tryd.ntmps12
    go_wp2_with fail
    refine (isWord_any s _ hs).mono ?_; rintro e w1 ⟨rfl, hb⟩
    rw [HW.out]
    have hB : Below w.heap.size w w1 := ((Below.refl _ _).alloc (Nat.le_refl _) _).trans (hb.mono (by simp))
    have hR : SBlk w1 w.heap.size 0 ByteArray.empty ByteArray.empty := (SBlk.new w 0 ByteArray.empty ByteArray.empty).below hb (by simp)
    have HB := Lib.hid hB; have HS := Lib.hid hR; clear hb hB
    obtain ⟨d0, d1, d2, g0, g1, g2, hb'⟩ := hR.cells
    clear hR
    go_wp2_with fail
    refine bodyPost_ret (v := .tuple #[strV 0 ByteArray.empty ByteArray.empty, .bool false]) ?_ rfl ⟨by rw [HR.out], ?_⟩
    · exact results_str2 rfl rfl HS.out.set3 rfl
    · exact ((HB.out.setCell (by simp) _).setCell (by simp) _).setCell (by simp) _
  · obtain ⟨h1, h8⟩ := wordB_size hw
    have HW := Lib.hid hw
    have HR : Hid (wordRes s = .tuple #[wordV s, .bool true]) := by simp [Hid, wordRes, hw]
    clear hw
    go_enter Tryd.func12, Tryd.ntmps12
    go_wp2_with fail
    refine (isWord_any s _ hs).mono ?_; rintro e w1 ⟨rfl, hb⟩
    rw [HW.out]
    have hB : Below w.heap.size w w1 := ((Below.refl _ _).alloc (Nat.le_refl _) _).trans (hb.mono (by simp))
    have hR : SBlk w1 w.heap.size 0 ByteArray.empty ByteArray.empty := (SBlk.new w 0 ByteArray.empty ByteArray.empty).below hb (by simp)
    have HB := Lib.hid hB; have HS := Lib.hid hR; clear hb hB
    clear hR
    go_wp2_with fail
    refine (implWordStr_any s _ h8).mono ?_; rintro e w2 ⟨rfl, hb⟩
    have hB : Below w.heap.size w w2 := HB.out.trans (hb.mono HB.out.size)
    have hR : SBlk w2 w.heap.size 0 ByteArray.empty ByteArray.empty := HS.out.below hb (HS.out.cells.2.2.2.2.2.2)
    have HB := Lib.hid hB; have HS := Lib.hid hR; clear hb hB
    obtain ⟨d0, d1, d2, g0, g1, g2, hb'⟩ := hR.cells
    clear hR
    unfold wordV strV
    go_wp2_with fail
    refine bodyPost_ret (v := .tuple #[wordV s, .bool true]) ?_ rfl ⟨by rw [HR.out], ?_⟩
    · exact results_str2 rfl rfl HS.out.set3 rfl
    · exact ((HB.out.setCell (by simp) _).setCell (by simp) _).setCell (by simp) _

theorem wordRes_form (s : ByteArray) : ∃ n S R b, wordRes s = .tuple #[strV n S R, .bool b] := by
  unfold wordRes
  cases wordB s
  · exact ⟨_, _, _, _, rfl⟩
  · exact ⟨_, _, _, _, rfl⟩

end Go.Proofs.YtjepegkbbbebkaaDoor

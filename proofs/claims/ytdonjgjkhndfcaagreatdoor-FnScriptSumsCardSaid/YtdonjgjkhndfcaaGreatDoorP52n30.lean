/- Contracts of the program's functions and what they compute: part 30. Conditions: those that each theorem states. -/
import Derived.Test.YtdonjgjkhndfcaaGreatDoorP52n2
import Derived.Test.YtdonjgjkhndfcaaGreatDoorP52n4
import Derived.Test.YtdonjgjkhndfcaaGreatDoorP52n6
import Derived.Test.YtdonjgjkhndfcaaGreatDoorP52n8
import Derived.Test.YtdonjgjkhndfcaaGreatDoorP52n9
import Derived.Deep.RegionLaw
import Derived.Deep.DeepCutAuto
import Derived.Deep.CutBlock
import Derived.Deep.AppendLies
namespace Go.Proofs.YtdonjgjkhndfcaaGreatDoor
open Go.RowKit
set_option linter.unusedVariables false
set_option maxRecDepth 100000
/-- The lines of the script. -/
def sumsLines (s t : ByteArray) : List ByteArray := [(⟨#[108, 101, 102, 116, 32]⟩ : ByteArray) ++ s, (⟨#[114, 105, 103, 104, 116, 32]⟩ : ByteArray) ++ t, (⟨#[115, 117, 109]⟩ : ByteArray), (⟨#[115, 116, 97, 98, 108, 101]⟩ : ByteArray), (⟨#[112, 105, 101, 99, 101, 115]⟩ : ByteArray), (⟨#[115, 121, 109, 109, 101, 116, 114, 105, 101, 115]⟩ : ByteArray), (⟨#[108, 101, 102, 116, 32]⟩ : ByteArray) ++ s, (⟨#[111, 114, 100, 101, 114, 101, 100]⟩ : ByteArray), (⟨#[108, 101, 102, 116, 32]⟩ : ByteArray) ++ s, (⟨#[112, 114, 111, 100, 117, 99, 116]⟩ : ByteArray), (⟨#[108, 101, 102, 116, 32]⟩ : ByteArray) ++ s, (⟨#[115, 104, 97, 112, 101]⟩ : ByteArray)]
theorem sumsScript (s t : ByteArray) : (⟨#[108, 101, 102, 116, 32]⟩ ++ s ++ ⟨#[10]⟩) ++ (⟨#[114, 105, 103, 104, 116, 32]⟩ : ByteArray) ++ t ++ (⟨#[10, 115, 117, 109, 10, 115, 116, 97, 98, 108, 101, 10, 112, 105, 101, 99, 101, 115, 10, 115, 121, 109, 109, 101, 116, 114, 105, 101, 115, 10]⟩ : ByteArray) ++ (⟨#[108, 101, 102, 116, 32]⟩ ++ s ++ ⟨#[10]⟩) ++ (⟨#[111, 114, 100, 101, 114, 101, 100, 10]⟩ : ByteArray) ++ (⟨#[108, 101, 102, 116, 32]⟩ ++ s ++ ⟨#[10]⟩) ++ (⟨#[112, 114, 111, 100, 117, 99, 116, 10]⟩ : ByteArray) ++ (⟨#[108, 101, 102, 116, 32]⟩ ++ s ++ ⟨#[10]⟩) ++ (⟨#[115, 104, 97, 112, 101, 10]⟩ : ByteArray) = linesB (sumsLines s t) := by
  apply ByteArray.ext
  apply Array.toList_inj.1
  simp [linesB, sumsLines, linesL, ByteArray.data_append, Array.toList_append]
theorem sumsLines_no (s t : ByteArray) (hs : (10 : UInt8) ∉ s.data.toList) (ht : (10 : UInt8) ∉ t.data.toList) : ∀ l ∈ sumsLines s t, (10 : UInt8) ∉ l.data.toList := by
  intro l hl
  simp only [sumsLines, List.mem_cons, List.not_mem_nil, or_false] at hl
  rcases hl with rfl | rfl | rfl | rfl | rfl | rfl | rfl | rfl | rfl | rfl | rfl | rfl
  · simp [ByteArray.data_append, Array.toList_append, hs]
  · simp [ByteArray.data_append, Array.toList_append, ht]
  · decide
  · decide
  · decide
  · decide
  · simp [ByteArray.data_append, Array.toList_append, hs]
  · decide
  · simp [ByteArray.data_append, Array.toList_append, hs]
  · decide
  · simp [ByteArray.data_append, Array.toList_append, hs]
  · decide
theorem sumsLines_ne (s t : ByteArray) : ∀ l ∈ sumsLines s t, l ≠ ByteArray.empty := by
  intro l hl
  simp only [sumsLines, List.mem_cons, List.not_mem_nil, or_false] at hl
  rcases hl with rfl | rfl | rfl | rfl | rfl | rfl | rfl | rfl | rfl | rfl | rfl | rfl
  · intro h; have := congrArg (fun b : ByteArray => b.data.toList.length) h; simp [ByteArray.data_append, Array.toList_append] at this
  · intro h; have := congrArg (fun b : ByteArray => b.data.toList.length) h; simp [ByteArray.data_append, Array.toList_append] at this
  · decide
  · decide
  · decide
  · decide
  · intro h; have := congrArg (fun b : ByteArray => b.data.toList.length) h; simp [ByteArray.data_append, Array.toList_append] at this
  · decide
  · intro h; have := congrArg (fun b : ByteArray => b.data.toList.length) h; simp [ByteArray.data_append, Array.toList_append] at this
  · decide
  · intro h; have := congrArg (fun b : ByteArray => b.data.toList.length) h; simp [ByteArray.data_append, Array.toList_append] at this
  · decide
/-- The answers of the script. -/
def sumsAns (c nl nk pc sy d e sh : ByteArray) : List ByteArray := [(⟨#[111, 107]⟩ : ByteArray), (⟨#[111, 107]⟩ : ByteArray), c, nl ++ (⟨#[32, 47, 32]⟩ : ByteArray) ++ nk, pc, sy, (⟨#[111, 107]⟩ : ByteArray), d, (⟨#[111, 107]⟩ : ByteArray), e, (⟨#[111, 107]⟩ : ByteArray), sh]
theorem sumsOut (c nl nk pc sy d e sh : ByteArray) : (⟨#[111, 107, 10, 111, 107, 10]⟩ : ByteArray) ++ c ++ (⟨#[10]⟩ : ByteArray) ++ nl ++ (⟨#[32, 47, 32]⟩ : ByteArray) ++ nk ++ (⟨#[10]⟩ : ByteArray) ++ pc ++ (⟨#[10]⟩ : ByteArray) ++ sy ++ (⟨#[10, 111, 107, 10]⟩ : ByteArray) ++ d ++ (⟨#[10, 111, 107, 10]⟩ : ByteArray) ++ (e ++ ⟨#[10]⟩) ++ (⟨#[111, 107, 10]⟩ : ByteArray) ++ (sh ++ ⟨#[10]⟩) = outT (sumsAns c nl nk pc sy d e sh) := by
  apply ByteArray.ext
  apply Array.toList_inj.1
  simp [outT, sumsAns, ByteArray.data_append, Array.toList_append]
end Go.Proofs.YtdonjgjkhndfcaaGreatDoor

namespace Go.Proofs.YtdonjgjkhndfcaaGreatDoor
open Go.RowKit
set_option linter.unusedVariables false
set_option maxRecDepth 100000
/-- A text is cut at a byte that its first part lacks. -/
theorem cut_sep (c : UInt8) (p r : ByteArray) (h : c ∉ p.data.toList) (hs : (p ++ ⟨#[c]⟩ ++ r).size ≤ 9223372036854775807) (w : World) :
    Calls Tryz.prog 64 #[.string (p ++ ⟨#[c]⟩ ++ r), .string ⟨#[c]⟩] w fun e w' => e = .returned (.tuple #[.string p, .string r, .bool true]) ∧ Below w.heap.size w w' := by
  have hd : (p ++ ⟨#[c]⟩ ++ r).data.toList = p.data.toList ++ c :: r.data.toList := by simp [ByteArray.data_append, Array.toList_append]
  have hsz : (p ++ ⟨#[c]⟩ ++ r).size = p.size + 1 + r.size := by rw [ByteArray.size_append, ByteArray.size_append]; rfl
  have h1 : Lib.indexByte (p ++ ⟨#[c]⟩ ++ r).data.toList c = (p.size : Int) := by
    rw [← index_bytes, hd, index_at c r.data.toList p.data.toList h]
    simp
  have h2 := cutB_at (p ++ ⟨#[c]⟩ ++ r) c p.size h1 (by omega) hs w
  have e1 : (p ++ ⟨#[c]⟩ ++ r).extract 0 p.size = p := by
    apply ByteArray.ext
    apply Array.toList_inj.1
    rw [Lib.extract_from_zero, hd]
    simp
  have e2 : (p ++ ⟨#[c]⟩ ++ r).extract (p.size + 1) (p ++ ⟨#[c]⟩ ++ r).size = r := by
    apply ByteArray.ext
    apply Array.toList_inj.1
    rw [Lib.extract_to_end, hd]
    have : p.size = p.data.toList.length := by simp
    rw [this, List.drop_append]
    simp
  rw [e1, e2] at h2
  exact h2
theorem bits_mem {s : ByteArray} {n : Int} (h : bitsB s n = true) : ∀ c ∈ s.data.toList, c = 48 ∨ c = 49 := by
  intro c hc
  simp only [bitsB, Bool.and_eq_true, List.all_eq_true] at h
  have := h.2 c hc
  unfold is01 at this
  simpa using this
theorem fmt_mem {n : Nat} {S R : ByteArray} (hv : validB n S R = true) : ∀ c ∈ (fmtS S R).data.toList, c = 48 ∨ c = 49 ∨ c = 58 := by
  obtain ⟨_, _, _, _, hS, hR⟩ := valid_is hv
  intro c hc
  simp only [fmtS, ByteArray.data_append, Array.toList_append, List.mem_append] at hc
  rcases hc with (hc | hc) | hc
  · rcases bits_mem hS c hc with h | h <;> simp [h]
  · simp at hc; simp [hc]
  · rcases bits_mem hR c hc with h | h <;> simp [h]
theorem fmt_no {n : Nat} {S R : ByteArray} (hv : validB n S R = true) : (10 : UInt8) ∉ (fmtS S R).data.toList := by
  intro h
  rcases fmt_mem hv 10 h with h | h | h <;> exact absurd h (by decide)
theorem fmt_size {n : Nat} {S R : ByteArray} (hv : validB n S R = true) : (fmtS S R).size ≤ 73 := by
  obtain ⟨h1, h8, hS, hR, _, _⟩ := valid_is hv
  have hnn : n * n ≤ 64 := Nat.mul_le_mul h8 h8
  have h58 : (⟨#[58]⟩ : ByteArray).size = 1 := rfl
  unfold fmtS
  rw [ByteArray.size_append, ByteArray.size_append]
  omega
set_option maxHeartbeats 1000000 in
theorem ParseStructure_any (n : Nat) (S R : ByteArray) (hv : validB n S R = true) (w : World) :
    Calls Tryz.prog 66 #[.string (fmtS S R)] w fun e w' => e = .returned (.tuple #[strV n S R, .bool true]) ∧ Below w.heap.size w w' := by
  have hfz := fmt_size hv
  have HCU := Lib.hid (fun w => cut_sep 58 S R (by
    intro h
    obtain ⟨_, _, _, _, hS, _⟩ := valid_is hv
    rcases bits_mem hS 58 h with h | h <;> exact absurd h (by decide)) (by show (fmtS S R).size ≤ _; omega) w)
  change Hid (∀ w, Calls _ _ #[.string (fmtS S R), _] w _) at HCU
  obtain ⟨h1, h8, hS, hR, _, _⟩ := valid_is hv
  have hnn : n * n ≤ 64 := Nat.mul_le_mul h8 h8
  have HIS : Hid (∀ w, Calls Tryz.prog 22 #[strV n S R] w fun e w' => e = .returned (.bool true) ∧ Below w.heap.size w w') := fun w => by
    have := isStructure_any n S R w (by omega) (by rw [hR]; omega)
    rw [hv] at this
    exact this
  have hSn : (S.size : Int) = (n : Int) := by omega
  have hb0 : Below w.heap.size w (boxS w 0 ByteArray.empty ByteArray.empty) := boxS_below _ _ _ _
  have HB : Hid (SBlk (boxS w 0 ByteArray.empty ByteArray.empty) w.heap.size 0 ByteArray.empty ByteArray.empty ∧ Below w.heap.size w (boxS w 0 ByteArray.empty ByteArray.empty)) := ⟨boxS_SBlk _ _ _ _, hb0⟩
  obtain ⟨W, hW⟩ : ∃ W, boxS w 0 ByteArray.empty ByteArray.empty = W := ⟨_, rfl⟩
  rw [hW] at HB
  unfold boxS at hW
  have HW := Lib.hid hW
  generalize fmtS S R = s at *
  clear hv hS hR hW hb0
  unfold strV at HIS
  unfold strV
  go_enter Tryz.func66, Tryz.ntmps66
  go_upto_region 1 with fail
  rw [show w.alloc (.cells #[.int .i64 0, .string ⟨#[]⟩, .string ⟨#[]⟩] 24) = W from HW.out]
  go_wp2_with fail
  refine (HCU.out _).mono ?_; rintro e w1 ⟨rfl, hb⟩
  have HB1 : Hid (SBlk w1 w.heap.size 0 ByteArray.empty ByteArray.empty ∧ Below w.heap.size w w1) := ⟨HB.out.1.below hb HB.out.1.cells.2.2.2.2.2.2, HB.out.2.trans (hb.mono HB.out.2.size)⟩
  clear hb HB HW
  have HB2 : Hid (SBlk (boxS w1 n S R) w1.heap.size n S R ∧ SBlk (boxS w1 n S R) w.heap.size 0 ByteArray.empty ByteArray.empty ∧ Below w.heap.size w (boxS w1 n S R)) := ⟨boxS_SBlk _ _ _ _, HB1.out.1.below (boxS_below _ _ _ _) HB1.out.1.cells.2.2.2.2.2.2, HB1.out.2.trans ((boxS_below w1 n S R).mono HB1.out.2.size)⟩
  have hlt : w.heap.size < w1.heap.size := HB1.out.1.cells.2.2.2.2.2.2
  unfold boxS at HB2
  obtain ⟨s0, s1, s2, f0, f1, f2, hl⟩ := HB2.out.1.cells
  clear HB1
  go_wp2_with fail
  refine (HIS.out _).mono ?_; rintro e w3 ⟨rfl, hb⟩
  have HB3 : Hid (SBlk w3 w1.heap.size n S R ∧ SBlk w3 w.heap.size 0 ByteArray.empty ByteArray.empty ∧ Below w.heap.size w w3) := ⟨HB2.out.1.below hb hl, HB2.out.2.1.below hb HB2.out.2.1.cells.2.2.2.2.2.2, HB2.out.2.2.trans (hb.mono HB2.out.2.2.size)⟩
  clear s0 s1 s2 f0 f1 f2 hl hb HB2
  obtain ⟨s0, s1, s2, f0, f1, f2, hl⟩ := HB3.out.1.cells
  obtain ⟨r0, r1, r2, g0, g1, g2, hr⟩ := HB3.out.2.1.cells
  go_wp2_with fail
  refine bodyPost_ret (v := .tuple #[strV n S R, .bool true]) ?_ rfl ⟨rfl, ?_⟩
  · exact results_str2 rfl rfl HB3.out.2.1.set3 rfl
  · exact ((HB3.out.2.2.setCell (Nat.le_refl _) _).setCell (Nat.le_refl _) _).setCell (Nat.le_refl _) _
theorem DeskAt.setB {w : World} {d : Nat} {a : DS} (h : DeskAt w d a) (n : Int) (S R : ByteArray) : DeskAt (((w.setCell ⟨d, 3, none⟩ (.int .i64 n)).setCell ⟨d, 4, none⟩ (.string S)).setCell ⟨d, 5, none⟩ (.string R)) d { a with m := n, T := S, U := R } := ⟨by
  have hb := h.blk
  simp [World.setCell, Array.getElem?_modify, hb]⟩
theorem off_setB3 {w : World} {d : Nat} {x y z : Value} : Off (fun b => b = d) w (((w.setCell ⟨d, 3, none⟩ x).setCell ⟨d, 4, none⟩ y).setCell ⟨d, 5, none⟩ z) :=
  ⟨rfl, rfl, rfl, by simp [World.setCell], fun k _ hk => by rw [Below.heap_setCell _ _ _ _ hk, Below.heap_setCell _ _ _ _ hk, Below.heap_setCell _ _ _ _ hk]⟩
set_option maxHeartbeats 1000000 in
/-- The line "left s". -/
theorem run_left (w0 : World) (a : DS) (n : Nat) (S R : ByteArray) (hv : validB n S R = true) : RunOK w0 (⟨#[108, 101, 102, 116]⟩ ++ ⟨#[32]⟩ ++ fmtS S R) a { a with n := (n : Int), S := S, R := R } ⟨#[111, 107]⟩ := by
  intro W d hd hB hD
  have hfz := fmt_size hv
  have HCU := Lib.hid (fun w => cut_line ⟨#[108, 101, 102, 116]⟩ (fmtS S R) (by decide) (by rw [ByteArray.size_append, ByteArray.size_append]; show 4 + 1 + (fmtS S R).size ≤ _; omega) w)
  have HPS := Lib.hid (fun w => ParseStructure_any n S R hv w)
  have HD := Lib.hid hD
  generalize (⟨#[108, 101, 102, 116]⟩ : ByteArray) ++ ⟨#[32]⟩ ++ fmtS S R = line at *
  generalize fmtS S R = s at *
  clear hv hD hfz
  unfold strV at HPS
  go_enter Tryz.func39, Tryz.ntmps39
  go_wp2_with fail
  refine (HCU.out _).mono ?_; rintro e w1 ⟨rfl, hb⟩
  have HD1 : Hid (DeskAt w1 d a ∧ Off (fun x => x = d) W w1) := ⟨HD.out.below hb, Off.of_below hb⟩
  clear hb HD
  go_wp2_with fail
  refine (HPS.out _).mono ?_; rintro e w2 ⟨rfl, hb⟩
  have hb2 := boxS_below w2 n S R
  have HD2 : Hid (DeskAt (boxS w2 n S R) d a ∧ Off (fun x => x = d) W (boxS w2 n S R) ∧ SBlk (boxS w2 n S R) w2.heap.size n S R ∧ d < w2.heap.size) :=
    ⟨(HD1.out.1.below hb).below hb2, (HD1.out.2.trans (Off.of_below (F := fun _ => False) hb) (fun _ h => h.elim)).trans (Off.of_below (F := fun _ => False) hb2) (fun _ h => h.elim), boxS_SBlk _ _ _ _, Nat.lt_of_lt_of_le HD1.out.1.lt hb.size⟩
  clear hb hb2 HD1
  have HF : Hid (DeskAt ((((boxS w2 n S R).setCell ⟨d, 0, none⟩ (.int .i64 (n : Int))).setCell ⟨d, 1, none⟩ (.string S)).setCell ⟨d, 2, none⟩ (.string R)) d { a with n := (n : Int), S := S, R := R } ∧ Off (fun x => x = d) W ((((boxS w2 n S R).setCell ⟨d, 0, none⟩ (.int .i64 (n : Int))).setCell ⟨d, 1, none⟩ (.string S)).setCell ⟨d, 2, none⟩ (.string R))) :=
    ⟨HD2.out.1.setA n S R, HD2.out.2.1.trans off_setD3 (fun _ h => .inl h)⟩
  unfold boxS at HD2 HF
  obtain ⟨c0, c1, c2, c3, c4, c5, c6, cf⟩ := HD2.out.1.cells
  obtain ⟨s0, s1, s2, _, _, _, hl⟩ := HD2.out.2.2.1.cells
  have hne : w2.heap.size ≠ d := by have := HD2.out.2.2.2; omega
  have hne2 : d ≠ w2.heap.size := by have := HD2.out.2.2.2; omega
  have f0 := cf 0
  have f1 := cf 1
  have f2 := cf 2
  clear cf
  go_wp2_with fail
  go_ret
  exact ⟨rfl, HF.out⟩
set_option maxHeartbeats 1000000 in
/-- The line "right s". -/
theorem run_right (w0 : World) (a : DS) (n : Nat) (S R : ByteArray) (hv : validB n S R = true) : RunOK w0 (⟨#[114, 105, 103, 104, 116]⟩ ++ ⟨#[32]⟩ ++ fmtS S R) a { a with m := (n : Int), T := S, U := R } ⟨#[111, 107]⟩ := by
  intro W d hd hB hD
  have hfz := fmt_size hv
  have HCU := Lib.hid (fun w => cut_line ⟨#[114, 105, 103, 104, 116]⟩ (fmtS S R) (by decide) (by rw [ByteArray.size_append, ByteArray.size_append]; show 5 + 1 + (fmtS S R).size ≤ _; omega) w)
  have HPS := Lib.hid (fun w => ParseStructure_any n S R hv w)
  have HD := Lib.hid hD
  generalize (⟨#[114, 105, 103, 104, 116]⟩ : ByteArray) ++ ⟨#[32]⟩ ++ fmtS S R = line at *
  generalize fmtS S R = s at *
  clear hv hD hfz
  unfold strV at HPS
  go_enter Tryz.func39, Tryz.ntmps39
  go_wp2_with fail
  refine (HCU.out _).mono ?_; rintro e w1 ⟨rfl, hb⟩
  have HD1 : Hid (DeskAt w1 d a ∧ Off (fun x => x = d) W w1) := ⟨HD.out.below hb, Off.of_below hb⟩
  clear hb HD
  go_wp2_with fail
  refine (HPS.out _).mono ?_; rintro e w2 ⟨rfl, hb⟩
  have hb2 := boxS_below w2 n S R
  have HD2 : Hid (DeskAt (boxS w2 n S R) d a ∧ Off (fun x => x = d) W (boxS w2 n S R) ∧ SBlk (boxS w2 n S R) w2.heap.size n S R ∧ d < w2.heap.size) :=
    ⟨(HD1.out.1.below hb).below hb2, (HD1.out.2.trans (Off.of_below (F := fun _ => False) hb) (fun _ h => h.elim)).trans (Off.of_below (F := fun _ => False) hb2) (fun _ h => h.elim), boxS_SBlk _ _ _ _, Nat.lt_of_lt_of_le HD1.out.1.lt hb.size⟩
  clear hb hb2 HD1
  have HF : Hid (DeskAt ((((boxS w2 n S R).setCell ⟨d, 3, none⟩ (.int .i64 (n : Int))).setCell ⟨d, 4, none⟩ (.string S)).setCell ⟨d, 5, none⟩ (.string R)) d { a with m := (n : Int), T := S, U := R } ∧ Off (fun x => x = d) W ((((boxS w2 n S R).setCell ⟨d, 3, none⟩ (.int .i64 (n : Int))).setCell ⟨d, 4, none⟩ (.string S)).setCell ⟨d, 5, none⟩ (.string R))) :=
    ⟨HD2.out.1.setB n S R, HD2.out.2.1.trans off_setB3 (fun _ h => .inl h)⟩
  unfold boxS at HD2 HF
  obtain ⟨c0, c1, c2, c3, c4, c5, c6, cf⟩ := HD2.out.1.cells
  obtain ⟨s0, s1, s2, _, _, _, hl⟩ := HD2.out.2.2.1.cells
  have hne : w2.heap.size ≠ d := by have := HD2.out.2.2.2; omega
  have hne2 : d ≠ w2.heap.size := by have := HD2.out.2.2.2; omega
  have f0 := cf 3
  have f1 := cf 4
  have f2 := cf 5
  clear cf
  go_wp2_with fail
  go_ret
  exact ⟨rfl, HF.out⟩
end Go.Proofs.YtdonjgjkhndfcaaGreatDoor

/- Contracts of the program's functions and what they compute: part 43. Conditions: those that each theorem states. -/
import Derived.Test.YtihomcedaaiidaaGreatDoorP55n9
import Derived.Test.YtihomcedaaiidaaGreatDoorP55n42
import Derived.Test.YtihomcedaaiidaaGreatDoorP55n19
import Derived.Test.YtihomcedaaiidaaGreatDoorP55n18
namespace Go.Proofs.YtihomcedaaiidaaGreatDoor
open Go.RowKit
set_option linter.unusedVariables false
set_option maxRecDepth 100000
set_option maxHeartbeats 1000000 in
theorem l2Some_any (b K : Nat) (w : World) (h : RdB w b K) (hk : K < 1000000000) :
    Calls Tryz.prog 47 #[.pointer (some ⟨b, 0, none⟩)] w (TxtN b (K + 251) 63 w) := by
  have H := Lib.hid h; clear h
  go_enter Tryz.func47, Tryz.ntmps47
  go_wp2_with fail
  refine (pickB _ b K _ H.out (by omega) (by omega) (by omega)).mono ?_; rintro e w1 ⟨d, rfl, d0, d1, hr, hg⟩
  have HR1 := Lib.hid hr; have HG1 := Lib.hid hg; clear hr hg H
  go_wp2_with fail
  refine (of_ne w1 b _ 4 [⟨#[97, 98]⟩, ⟨#[97, 98, 99]⟩, ⟨#[97]⟩, ⟨#[97, 98, 99, 100]⟩] _ HR1.out (by omega) (by decide) (by decide) (by intro x hx; simp at hx; rcases hx with rfl | rfl | rfl | rfl <;> decide)).mono ?_; rintro e w2 ⟨vs, v1, v4, rfl, hr, hg⟩
  have HR2 := Lib.hid hr; have HG2 := Lib.hid (HG1.out.trans hg); clear hr hg HR1 HG1
  go_wp2_with fail
  refine (pickB _ b _ _ HR2.out (by omega) (by omega) (by omega)).mono ?_; rintro e w3 ⟨c, rfl, c0, c1, hr, hg⟩
  have HR3 := Lib.hid hr; have HG3 := Lib.hid (HG2.out.trans hg); clear hr hg HR2 HG2
  obtain ⟨m, rfl⟩ := Int.eq_ofNat_of_zero_le d0
  have hm := nP4 (d := m + 1) (by omega)
  have hm1 : (1 + (m : Int)) = ((m + 1 : Nat) : Int) := by omega
  have HC : Hid (∀ cnt, Calls Tryz.prog 45 #[.pointer (some ⟨b, 0, none⟩), .int .i64 (1 + (m : Int)), .string vs, .bool cnt] w3 (TxtN b (K + 1 + 1 + 1 + nP (m + 1)) (tP (m + 1)) w3)) := by
    intro cnt
    rw [hm1]
    exact l2Draw_any b vs cnt v1 (by omega) (m + 1) (by omega) w3 _ HR3.out (by omega)
  clear hm1
  generalize nP (m + 1) = N at *
  generalize tP (m + 1) = M at *
  go_wp2_with fail
  refine (HC.out _).mono ?_; rintro e w4 ⟨f, f1, f2, rfl, hr, hg⟩
  have HQ : Hid (TxtN b (K + 251) 63 w (.returned (.string f)) w4) := ⟨f, f1, by omega, rfl, hr.mono (by omega), HG3.out.trans hg⟩
  clear hr hg
  go_wp2_with fail
  go_ret
  exact HQ.out
theorem l2Open_any (b K : Nat) (w : World) (h : RdB w b K) (hk : K < 1000000000) :
    Calls Tryz.prog 24 #[.pointer (some ⟨b, 0, none⟩)] w (TxtM b (K + 254) 64 w) := by
  have H := Lib.hid h; clear h
  go_enter Tryz.func24, Tryz.ntmps24
  go_wp2_with fail
  refine (l2Some_any b K _ H.out hk).mono ?_; rintro e w1 ⟨f, f1, f2, rfl, hr, hg⟩
  have HR1 := Lib.hid hr; have HG1 := Lib.hid hg; clear hr hg H
  go_wp2_with fail
  refine (l2Bad_any b 63 f f1 f2 (by omega) w1 _ HR1.out (by omega)).mono ?_; rintro e w2 ⟨g, g2, rfl, hr, hg⟩
  have HQ : Hid (TxtM b (K + 254) 64 w (.returned (.string g)) w2) := ⟨g, g2, rfl, hr.mono (by omega), HG1.out.trans hg⟩
  clear hr hg
  go_wp2_with fail
  go_ret
  exact HQ.out
/-- A structure and a text that are drawn. -/
def DrawSF (k : Nat) (w : World) (e : Ending) (w' : World) : Prop := ∃ (n : Int) (S R f : ByteArray), -1 ≤ n ∧ n ≤ 9223372036854775807 ∧ S.size ≤ 10 ∧ R.size ≤ 100 ∧ f.size ≤ k ∧ e = .returned (.tuple #[strV n S R, .string f]) ∧ Below w.heap.size w w'
/-- The reader, the result's box and the drawn structure's box. -/
structure Dv (w : World) (b K x : Nat) (n : Int) (S R : ByteArray) (wr : World) : Prop where
  rd : RdB wr b K
  res : SBlk wr w.heap.size 0 ⟨#[]⟩ ⟨#[]⟩
  a : SBlk wr x n S R
  ne : w.heap.size < b ∧ b < x
  old : Below w.heap.size w wr
section
variable {w : World} {b K K' x : Nat} {n : Int} {S R : ByteArray} {wr w' : World}
theorem Dv.pick (h : Dv w b K x n S R wr) (hr : RdB w' b K') (hg : wr.grownBy w' (some b)) : Dv w b K' x n S R w' := by
  have l1 := h.res.cells.2.2.2.2.2.2
  have l2 := h.a.cells.2.2.2.2.2.2
  obtain ⟨n1, n2⟩ := h.ne
  exact ⟨hr, (hg.block w.heap.size l1 (by intro e; injection e; omega)).trans h.res, (hg.block x l2 (by intro e; injection e; omega)).trans h.a, h.ne, below_of_grown h.old (by omega) hg⟩
theorem Dv.drew (h : Dv w b K x n S R wr) : Dv w b K x n S R wr.drew := ⟨rdB_drew h.rd, h.res.drew, h.a.drew, h.ne, h.old.drew⟩
end
/-- The beginning of a draw of a structure and formulas. -/
theorem Dv.first {w w1 w2 : World} {K : Nat} {m : Int} {T U : ByteArray} (hz : w.heap.size + 1 ≤ w1.heap.size) (hw1 : Below w.heap.size w w1) (hx : SBlk w1 w.heap.size 0 ⟨#[]⟩ ⟨#[]⟩) (b : Nat) (hb : w.heap.size < b) (hr : RdB w2 b K) (hg : w1.grownBy w2 (some b)) :
    Dv w b K w2.heap.size m T U (w2.alloc (.cells #[.int .i64 m, .string T, .string U] 24)) := by
  have hal : Below w2.heap.size w2 (w2.alloc (.cells #[.int .i64 m, .string T, .string U] 24)) := (Below.refl _ _).alloc (Nat.le_refl _) _
  have hlt := hx.cells.2.2.2.2.2.2
  have hx2 : SBlk w2 w.heap.size 0 ⟨#[]⟩ ⟨#[]⟩ := (hg.block w.heap.size hlt (by intro e; injection e; omega)).trans hx
  have hb2 := below_of_grown hw1 (by omega) hg
  exact ⟨rdB_bel hr hal, hx2.below hal hx2.cells.2.2.2.2.2.2, SBlk.new w2 m T U, ⟨hb, hr.block⟩, hb2.trans (hal.mono hb2.size)⟩
end Go.Proofs.YtihomcedaaiidaaGreatDoor

namespace Go.Proofs.YtihomcedaaiidaaGreatDoor
open Go.RowKit
set_option linter.unusedVariables false
set_option maxRecDepth 100000
set_option maxHeartbeats 2000000 in
theorem DrawHoldsIn_any (w : World) (a : Option Addr) (len cap : Nat) (zs : List Int) (h : IsRow .u8 w a len cap zs) :
    Calls Tryz.prog 4 #[.slice a len cap] w (DrawSF 72 w) := by
  have HB0 : Hid (Below w.heap.size w (w.alloc (.cells #[.int .i64 0, .string ⟨#[]⟩, .string ⟨#[]⟩] 24))) := (Below.refl _ _).alloc (Nat.le_refl _) _
  have HB1 : Hid (SBlk (w.alloc (.cells #[.int .i64 0, .string ⟨#[]⟩, .string ⟨#[]⟩] 24)) w.heap.size 0 ⟨#[]⟩ ⟨#[]⟩) := SBlk.new w 0 ⟨#[]⟩ ⟨#[]⟩
  have H := Lib.hid (h.below HB0.out); clear h
  have hz : (w.alloc (.cells #[.int .i64 0, .string ⟨#[]⟩, .string ⟨#[]⟩] 24)).heap.size = w.heap.size + 1 := by simp
  have HZ := Lib.hid hz; clear hz
  obtain ⟨W, hW⟩ : ∃ W, w.alloc (.cells #[.int .i64 0, .string ⟨#[]⟩, .string ⟨#[]⟩] 24) = W := ⟨_, rfl⟩
  rw [hW] at HB0 HB1 H HZ
  have HW := Lib.hid hW; clear hW
  go_enter Tryz.func4, Tryz.ntmps4
  go_upto_region 1 with fail
  rw [HW.out]
  go_wp2_with fail
  refine (l15Open_any _ _ _ _ _ H.out).mono ?_; rintro e w1 ⟨rfl, hr, hb, hs⟩
  have HR1 := Lib.hid hr
  have HBL1 := Lib.hid (HB0.out.trans (hb.mono HB0.out.size))
  have HX1 : Hid (SBlk w1 w.heap.size 0 ⟨#[]⟩ ⟨#[]⟩) := HB1.out.below hb HB1.out.cells.2.2.2.2.2.2
  have hlt : w.heap.size < W.heap.size := by rw [HZ.out]; omega
  have HZ1 : Hid (w.heap.size + 1 ≤ w1.heap.size) := by have := hb.size; have := HZ.out; show _ ≤ _; omega
  clear hr hb hs
  generalize W.heap.size = B at *
  go_wp2_with fail
  refine (l1Open_any B _ w1 HR1.out (by omega)).mono ?_; rintro e w2 ⟨m, T, U, m0, m1, hT, hU, rfl, hr, hg⟩
  have HD := Lib.hid (Dv.first (m := m) (T := T) (U := U) HZ1.out HBL1.out HX1.out B hlt hr hg)
  clear hr hg
  unfold strV
  go_upto_region 3 with fail
  obtain ⟨W3, hW3⟩ : ∃ W3, w2.alloc (.cells #[.int .i64 m, .string T, .string U] 24) = W3 := ⟨_, rfl⟩
  rw [hW3] at HD ⊢
  generalize w2.heap.size = X at *
  clear hW3
  go_wp2_with fail
  refine (pickB _ B _ _ HD.out.rd (by omega) (by omega) (by omega)).mono ?_; rintro e w4 ⟨d, rfl, d0, d1, hr, hg⟩
  have HD4 := Lib.hid (HD.out.pick hr hg); clear hr hg
  go_wp2_with fail
  refine (of_ne w4 B _ 3 [⟨#[97, 98]⟩, ⟨#[97, 98, 99]⟩] _ HD4.out.rd (by omega) (by decide) (by decide) (by intro x hx; simp at hx; rcases hx with rfl | rfl <;> decide)).mono ?_; rintro e w5 ⟨vs, v1, v3, rfl, hr, hg⟩
  have HD5 := Lib.hid (HD4.out.pick hr hg); clear hr hg
  go_wp2_with fail
  refine (pickB _ B _ _ HD5.out.rd (by omega) (by omega) (by omega)).mono ?_; rintro e w6 ⟨c, rfl, c0, c1, hr, hg⟩
  have HD6 := Lib.hid (HD5.out.pick hr hg); clear hr hg
  obtain ⟨p, rfl⟩ := Int.eq_ofNat_of_zero_le d0
  have hm := nP4 (d := p + 1) (by omega)
  have hm1 : (1 + (p : Int)) = ((p + 1 : Nat) : Int) := by omega
  have HC : Hid (∀ cnt, Calls Tryz.prog 21 #[.pointer (some ⟨B, 0, none⟩), .int .i64 (1 + (p : Int)), .string vs, .bool cnt] w6 (TxtN B (0 + 63 + 1 + 1 + 1 + nP (p + 1) + 4) (tP (p + 1) + 8) w6)) := by
    intro cnt
    rw [hm1]
    exact l2Closed_any B vs cnt v1 (by omega) (p + 1) (by omega) w6 _ HD6.out.rd (by omega)
  clear hm1
  generalize nP (p + 1) = N at *
  generalize tP (p + 1) = M at *
  go_wp2_with fail
  refine (HC.out _).mono ?_; rintro e w7 ⟨f, f1, f2, rfl, hr, hg⟩
  have HD7 := Lib.hid (HD6.out.pick hr hg); clear hr hg
  go_wp2_with fail
  refine (l2Bad_any B 71 f f1 (by omega) (by omega) w7 _ HD7.out.rd (by omega)).mono ?_; rintro e w8 ⟨g, g2, rfl, hr, hg⟩
  have HD8 := Lib.hid (HD7.out.pick hr hg); clear hr hg
  go_wp2_with fail
  refine (pickB _ B _ _ HD8.out.rd (by omega) (by omega) (by omega)).mono ?_; rintro e w9 ⟨q, rfl, q0, q1, hr, hg⟩
  have HD9 := Lib.hid (HD8.out.pick hr hg); clear hr hg HD8 HD7 HD6 HD5 HD4 HD HC
  by_cases hq : q = 0
  · subst hq
    go_wp2_with fail
    refine (l2Open_any B _ w9 HD9.out.rd (by omega)).mono ?_; rintro e w10 ⟨u, uz, rfl, hr, hg⟩
    have HD10 := Lib.hid (HD9.out.pick hr hg); clear hr hg
    obtain ⟨a0, a1, a2, k0, k1, k2, hac⟩ := HD10.out.a.cells
    obtain ⟨b0, b1, b2, g0, g1, g2', hbc⟩ := HD10.out.res.cells
    have HP : Hid (DrawSF 72 w (.returned (.tuple #[strV m T U, .string u])) (((w10.setCell ⟨w.heap.size, 0, none⟩ (.int .i64 m)).setCell ⟨w.heap.size, 1, none⟩ (.string T)).setCell ⟨w.heap.size, 2, none⟩ (.string U))) :=
      ⟨m, T, U, u, m0, m1, hT, hU, by omega, rfl, ((HD10.out.old.setCell (Nat.le_refl _) _).setCell (Nat.le_refl _) _).setCell (Nat.le_refl _) _⟩
    go_wp2_with fail
    refine bodyPost_ret (v := .tuple #[strV m T U, .string u]) ?_ rfl HP.out
    exact results_str2 rfl rfl HD10.out.res.set3 rfl
  · have hqB : (q == 0) = false := by simpa using hq
    obtain ⟨a0, a1, a2, k0, k1, k2, hac⟩ := HD9.out.a.cells
    obtain ⟨b0, b1, b2, g0, g1, g2', hbc⟩ := HD9.out.res.cells
    have HP : Hid (DrawSF 72 w (.returned (.tuple #[strV m T U, .string g])) (((w9.setCell ⟨w.heap.size, 0, none⟩ (.int .i64 m)).setCell ⟨w.heap.size, 1, none⟩ (.string T)).setCell ⟨w.heap.size, 2, none⟩ (.string U))) :=
      ⟨m, T, U, g, m0, m1, hT, hU, by omega, rfl, ((HD9.out.old.setCell (Nat.le_refl _) _).setCell (Nat.le_refl _) _).setCell (Nat.le_refl _) _⟩
    go_wp2_with fail
    refine bodyPost_ret (v := .tuple #[strV m T U, .string g]) ?_ rfl HP.out
    exact results_str2 rfl rfl HD9.out.res.set3 rfl
end Go.Proofs.YtihomcedaaiidaaGreatDoor

namespace Go.Proofs.YtihomcedaaiidaaGreatDoor
open Go.RowKit
set_option linter.unusedVariables false
set_option maxRecDepth 100000
theorem implHoldsAtNo (f : ByteArray) (hf : f.size ≤ 9223372036854775807) (n : Int) (S R : ByteArray) (hS : S.size ≤ 9223372036854775807) (hR : R.size ≤ 9223372036854775807) (hv : validB n S R = false) (w : World) :
    Calls Tryz.prog 25 #[strV n S R, .string f, .slice none 0 0] w fun en w' => en = .returned (.tuple #[.bool false, .bool false]) ∧ Below w.heap.size w w' := by
  have HIS : Hid (∀ w, Calls Tryz.prog 30 #[strV n S R] w fun e w' => e = .returned (.bool false) ∧ Below w.heap.size w w') := fun w => by
    have := isStructure_any n S R w hS hR
    rw [hv] at this
    exact this
  have HB : Hid (SBlk (boxS w n S R) w.heap.size n S R ∧ Below w.heap.size w (boxS w n S R)) := ⟨boxS_SBlk _ _ _ _, boxS_below _ _ _ _⟩
  obtain ⟨W, hW⟩ : ∃ W, boxS w n S R = W := ⟨_, rfl⟩
  rw [hW] at HB
  unfold boxS at hW
  obtain ⟨x3, hx3⟩ : ∃ x, w.heap.size = x := ⟨_, rfl⟩
  rw [hx3] at HB
  have HX3 := Lib.hid hx3
  have HW := Lib.hid hW
  clear hW hx3 hv
  unfold strV at HIS
  unfold strV
  go_enter Tryz.func25, Tryz.ntmps25
  go_upto_region 1 with fail
  rw [HW.out, HX3.out]
  go_wp2_with fail
  refine (parseFormula_any f _ hf).mono ?_
  rintro en w2 ⟨hb2, hor⟩
  have HB2 : Hid (SBlk w2 x3 n S R ∧ Below w.heap.size w w2) := ⟨HB.out.1.below hb2 HB.out.1.cells.2.2.2.2.2.2, (by rw [HX3.out]; exact HB.out.2.trans (hb2.mono (by have := HB.out.2.size; rw [HX3.out] at this; exact this)))⟩
  clear hb2
  rcases hor with ⟨hr, rfl⟩ | ⟨φ, p, hr, rfl, ht⟩
  · clear hr
    go_wp2_with fail
    go_ret2
    exact ⟨rfl, HB2.out.2⟩
  · clear hr ht
    have s0 := HB2.out.1.cells.1
    have s1 := HB2.out.1.cells.2.1
    have s2 := HB2.out.1.cells.2.2.1
    unfold ptrV
    go_wp2_with fail
    refine (HIS.out _).mono ?_; rintro _ w3 ⟨rfl, hb3⟩
    have HB3 : Hid (Below w.heap.size w w3) := HB2.out.2.trans (hb3.mono HB2.out.2.size)
    clear s0 s1 s2 hb3
    go_wp2_with fail
    go_ret2
    exact ⟨rfl, HB3.out⟩
theorem implHoldsIn_no (f : ByteArray) (hf : f.size ≤ 9223372036854775807) (n : Int) (S R : ByteArray) (hS : S.size ≤ 9223372036854775807) (hR : R.size ≤ 9223372036854775807) (hv : validB n S R = false) (w : World) :
    Calls Tryz.prog 5 #[strV n S R, .string f] w fun en w' => en = .returned (.tuple #[.bool false, .bool false]) ∧ Below w.heap.size w w' := by
  have HC := Lib.hid (fun w => implHoldsAtNo f hf n S R hS hR hv w)
  unfold strV at HC
  unfold strV
  go_enter Tryz.func5, Tryz.ntmps5
  go_wp2_with fail
  refine (HC.out _).mono ?_; rintro _ w1 ⟨rfl, hb1⟩
  go_wp2_with fail
  go_ret2
  refine ⟨rfl, ?_⟩
  exact Below.trans ((Below.refl w.heap.size w).alloc (Nat.le_refl _) _) (hb1.mono (by simp))
end Go.Proofs.YtihomcedaaiidaaGreatDoor

namespace Go.Proofs.YtihomcedaaiidaaGreatDoor
open Go.RowKit
set_option linter.unusedVariables false
set_option maxRecDepth 100000
theorem specHoldsAtNo (f : ByteArray) (n : Int) (S R : ByteArray) (hS : S.size ≤ 9223372036854775807) (hR : R.size ≤ 9223372036854775807) (hv : validB n S R = false) (a : Option Addr) (c : Nat) (w : World) :
    Calls Tryz.prog 26 #[strV n S R, .string f, .slice a 0 c] w fun en w' => en = .returned (.tuple #[.bool false, .bool false]) ∧ Below w.heap.size w w' := by
  have HSV : Hid (∀ w, Calls Tryz.prog 51 #[strV n S R] w fun e w' => e = .returned (.bool false) ∧ Below w.heap.size w w') := fun w => by
    have := specValid_any n S R w hS hR
    rw [hv] at this
    exact this
  have hA : Below w.heap.size w (w.alloc (.cells #[.int .i64 n, .string S, .string R] 24)) := (Below.refl _ _).alloc (Nat.le_refl _) _
  have hA2 : Below (w.alloc (.cells #[.int .i64 n, .string S, .string R] 24)).heap.size (w.alloc (.cells #[.int .i64 n, .string S, .string R] 24)) ((w.alloc (.cells #[.int .i64 n, .string S, .string R] 24)).alloc (.cells #[.int .i64 0, .int .i64 0, .int .i64 0, .int .i64 0] 78)) := (Below.refl _ _).alloc (Nat.le_refl _) _
  have hs := (SBlk.new w n S R)
  have HB : Hid (SBlk ((w.alloc (.cells #[.int .i64 n, .string S, .string R] 24)).alloc (.cells #[.int .i64 0, .int .i64 0, .int .i64 0, .int .i64 0] 78)) w.heap.size n S R ∧ Below w.heap.size w ((w.alloc (.cells #[.int .i64 n, .string S, .string R] 24)).alloc (.cells #[.int .i64 0, .int .i64 0, .int .i64 0, .int .i64 0] 78))) := ⟨hs.below hA2 hs.cells.2.2.2.2.2.2, hA.trans (hA2.mono hA.size)⟩
  clear hA hA2 hs
  obtain ⟨x4, hx4⟩ : ∃ x, w.heap.size = x := ⟨_, rfl⟩
  obtain ⟨W, hW⟩ : ∃ W, (w.alloc (.cells #[.int .i64 n, .string S, .string R] 24)).alloc (.cells #[.int .i64 0, .int .i64 0, .int .i64 0, .int .i64 0] 78) = W := ⟨_, rfl⟩
  rw [hW, hx4] at HB
  have HW := Lib.hid hW; have HX4 := Lib.hid hx4
  clear hW hx4 hv
  unfold strV at HSV
  unfold strV
  go_enter Tryz.func26, Tryz.ntmps26
  go_upto_region 2 with fail
  rw [HW.out, HX4.out]
  obtain ⟨s0, s1, s2, _, _, _, _⟩ := HB.out.1.cells
  go_wp2_with fail
  refine (HSV.out _).mono ?_; rintro _ w1 ⟨rfl, hb1⟩
  have HB1 : Hid (Below w.heap.size w w1) := by
    have := HB.out.2
    have hx := HX4.out
    show Below w.heap.size w w1
    rw [hx]
    exact this.trans (hb1.mono (by rw [← hx]; exact this.size))
  clear s0 s1 s2 hb1
  go_wp2_with fail
  go_ret2
  exact ⟨rfl, HB1.out⟩
theorem specHoldsIn_no (f : ByteArray) (n : Int) (S R : ByteArray) (hS : S.size ≤ 9223372036854775807) (hR : R.size ≤ 9223372036854775807) (hv : validB n S R = false) (w : World) :
    Calls Tryz.prog 6 #[strV n S R, .string f] w fun en w' => en = .returned (.tuple #[.bool false, .bool false]) ∧ Below w.heap.size w w' := by
  have HC := Lib.hid (fun a c w => specHoldsAtNo f n S R hS hR hv a c w)
  unfold strV at HC
  unfold strV
  go_enter Tryz.func6, Tryz.ntmps6
  go_wp2_with fail
  refine (HC.out _ _ _).mono ?_; rintro _ w1 ⟨rfl, hb1⟩
  go_wp2_with fail
  go_ret2
  refine ⟨rfl, ?_⟩
  exact Below.trans (((Below.refl w.heap.size w).alloc (Nat.le_refl _) _).alloc (by simp) _) (hb1.mono (by simp; omega))
end Go.Proofs.YtihomcedaaiidaaGreatDoor

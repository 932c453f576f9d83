/- The walk of the law, and what it leans on last. Conditions: those that each theorem states. -/
import Derived.Test.YtfhogenjpepfnaaGreatDoorP51n30
import Derived.Test.YtfhogenjpepfnaaGreatDoorP51n35
import Derived.Test.YtfhogenjpepfnaaGreatDoorP51n37
import Derived.Test.YtfhogenjpepfnaaGreatDoorP51n39
import Derived.Test.YtfhogenjpepfnaaGreatDoorP51n42
import Derived.Test.YtfhogenjpepfnaaGreatDoorP51n43
namespace Go.Proofs.YtfhogenjpepfnaaGreatDoor
open Go.RowKit
set_option linter.unusedVariables false
set_option maxRecDepth 100000
theorem rowLen51 {k : IntKind} {w : World} {a : Option Addr} {len cap : Nat} {zs : List Int} (h : IsRow k w a len cap zs) : len ≤ maxLen := by
  rcases h with ⟨_, h, _⟩ | ⟨_, _, h1, h2, _⟩
  · rw [h]; decide
  · omega
theorem DrawCirclesOf_any (w : World) (a : Option Addr) (len cap : Nat) (zs : List Int) (h : IsRow .u8 w a len cap zs) :
    Calls Tryz.prog 4 #[.slice a len cap] w fun e w' => ∃ n m : Int, (n = 3 ∨ n = 4 ∨ n = 5 ∨ n = 2 ∨ n = 8) ∧ (m = 3 ∨ m = 4 ∨ m = 5 ∨ m = 2 ∨ m = 9223372036854775807) ∧ e = .returned (.tuple #[.int .i64 n, .int .i64 m]) ∧ Below w.heap.size w w' := by
  have H := Lib.hid h; clear h
  go_enter Tryz.func4, Tryz.ntmps4
  go_wp2_with fail
  refine (l15Open_any _ _ _ _ _ H.out).mono ?_; rintro e w1 ⟨rfl, hr, hb, hs⟩
  have HR := Lib.hid hr; have HB := Lib.hid hb
  clear hr hb hs
  generalize hB : w.heap.size = B at *
  have HW := Lib.hid hB; clear hB
  have HN := Lib.hid (fun T => num_list w1 B 0 [3, 4, 5, 3, 2, 8] T HR.out (by omega) (by decide) (by decide))
  go_wp2_with fail
  refine (HN.out _).mono ?_; rintro e w2 ⟨n, hn, rfl, hr, hg⟩
  have HP : Hid (Below B w w2) := by
    have hB := HW.out
    subst hB
    exact below_of_grown HB.out (Nat.le_refl _) hg
  have hn2 : n = 3 ∨ n = 4 ∨ n = 5 ∨ n = 2 ∨ n = 8 := by
    simp at hn
    omega
  have HN2 := Lib.hid (fun T => num_list w2 B 1 [3, 4, 3, 5, 2, 9223372036854775807] T hr (by omega) (by decide) (by decide))
  have HM := Lib.hid hn2
  clear hr hg hn hn2 HN
  go_wp2_with fail
  refine (HN2.out _).mono ?_; rintro e w3 ⟨m, hm, rfl, hr, hg⟩
  have HP3 : Hid (Below B w w3) := by
    have hB := HW.out
    subst hB
    exact below_of_grown HP.out (Nat.le_refl _) hg
  have HM2 : Hid (m = 3 ∨ m = 4 ∨ m = 5 ∨ m = 2 ∨ m = 9223372036854775807) := by
    show _ ∨ _
    simp at hm
    omega
  clear hr hg hm
  go_wp2_with fail
  go_ret2
  exact ⟨n, m, HM.out, HM2.out, rfl, by rw [HW.out]; exact HP3.out⟩
/-- Either there are no two circles, or their sizes are small. -/
theorem cir_case (n m : Int) (hn : n = 3 ∨ n = 4 ∨ n = 5 ∨ n = 2 ∨ n = 8) (hm : m = 3 ∨ m = 4 ∨ m = 5 ∨ m = 2 ∨ m = 9223372036854775807) :
    circlesRes n m = .tuple #[strV 0 ByteArray.empty ByteArray.empty, .bool false] ∨ ∃ n' m' : Nat, n = (n' : Int) ∧ m = (m' : Int) ∧ (n' = 3 ∨ n' = 4 ∨ n' = 5) ∧ (m' = 3 ∨ m' = 4 ∨ m' = 5) ∧ n' + m' ≤ 8 := by
  rcases hn with rfl | rfl | rfl | rfl | rfl <;> rcases hm with rfl | rfl | rfl | rfl | rfl
  all_goals first
    | exact .inr ⟨3, 3, rfl, rfl, by omega, by omega, by omega⟩
    | exact .inr ⟨3, 4, rfl, rfl, by omega, by omega, by omega⟩
    | exact .inr ⟨3, 5, rfl, rfl, by omega, by omega, by omega⟩
    | exact .inr ⟨4, 3, rfl, rfl, by omega, by omega, by omega⟩
    | exact .inr ⟨4, 4, rfl, rfl, by omega, by omega, by omega⟩
    | exact .inr ⟨5, 3, rfl, rfl, by omega, by omega, by omega⟩
    | exact .inl (by kernel_rfl)
/-- All that the law's walk calls, of two circles. -/
structure CirF (n m N q : Nat) (Z D C : ByteArray) (PL QL : List Nat) : Prop where
  im : ∀ w, Calls Tryz.prog 5 #[.int .i64 (n : Int), .int .i64 (m : Int)] w fun e w' => e = .returned (.tuple #[strV N Z D, .bool true]) ∧ Below w.heap.size w w'
  sp : ∀ w, Calls Tryz.prog 6 #[.int .i64 (n : Int), .int .i64 (m : Int)] w fun e w' => e = .returned (.tuple #[strV N Z D, .bool true]) ∧ Below w.heap.size w w'
  one : ∀ w, Calls Tryz.prog 7 #[.int .i64 (N : Int)] w fun e w' => e = .returned (.tuple #[strV N Z C, .bool true]) ∧ Below w.heap.size w w'
  shp : ∀ w, Calls Tryz.prog 8 #[strV N Z D, strV N Z C] w fun e w' => (∃ v, e = .returned (.tuple #[v, .bool false])) ∧ Below w.heap.size w w'
  bal : ∀ w, Calls Tryz.prog 9 #[strV N Z D, strV N Z C, .int .i64 1] w fun e w' => e = .returned (.bool (decide (3 < n) && decide (3 < m))) ∧ Below w.heap.size w w'
  col : ∀ w, Calls Tryz.prog 10 #[strV N Z D, strV N Z C] w fun e w' => e = .returned (.bool true) ∧ Below w.heap.size w w'
  pa : ∀ w, Calls Tryz.prog 11 #[strV N Z D] w fun e w' => ∃ g cap, e = .returned (.slice (some ⟨g, 0, none⟩) N cap) ∧ w'.cell? ⟨g, q, none⟩ = some (.int .i64 1) ∧ Below w.heap.size w w'
  pb : ∀ w, Calls Tryz.prog 11 #[strV N Z C] w fun e w' => ∃ g cap, e = .returned (.slice (some ⟨g, 0, none⟩) N cap) ∧ w'.cell? ⟨g, q, none⟩ = some (.int .i64 0) ∧ Below w.heap.size w w'
  win : ∀ w, Calls Tryz.prog 12 #[strV N Z D, strV N Z C, .int .i64 1] w fun e w' => e = .returned (.bool true) ∧ Below w.heap.size w w'
  hN : n + m = N
  hq : N = q + 1
  h8 : N ≤ 8
theorem pieces_at (N q : Nat) (Z R : ByteArray) (z : Nat) (hv : validB N Z R = true) (hq : N = q + 1) (hz : (clsN (piF N R) N).1.getD q 0 = z) (w : World) :
    Calls Tryz.prog 11 #[strV N Z R] w fun e w' => ∃ g cap, e = .returned (.slice (some ⟨g, 0, none⟩) N cap) ∧ w'.cell? ⟨g, q, none⟩ = some (.int .i64 (z : Int)) ∧ Below w.heap.size w w' := by
  refine (PiecesOf_any N Z R hv w).mono ?_
  rintro e w' ⟨v, rfl, ho, hb⟩
  have hl := (clsN_len (piF N R) N).1
  obtain ⟨g, cap, rfl, _, _, _, _, hc⟩ := ho.cells
  have := hc q (by omega)
  rw [hz] at this
  exact ⟨g, cap, by rw [hl], this, hb⟩
theorem cirF_ok (n m : Nat) (hn : n = 3 ∨ n = 4 ∨ n = 5) (hm : m = 3 ∨ m = 4 ∨ m = 5) (h8 : n + m ≤ 8) : ∃ (N q : Nat) (Z D C : ByteArray) (PL QL : List Nat), CirF n m N q Z D C PL QL := by
  obtain ⟨N, Z, D, C, cv, hsc⟩ := cir_ok n m hn hm h8
  have hN := cv.hN
  have hz1 := (valid_is cv.va).2.2
  have hz2 := (valid_is cv.vb).2.2
  have h64 : N * N ≤ 64 := Nat.mul_le_mul cv.pos.2 cv.pos.2
  refine ⟨N, N - 1, Z, D, C, [], [], ⟨fun w => ?_, fun w => ?_, fun w => ?_, fun w => ?_, fun w => ?_, fun w => ?_, fun w => ?_, fun w => ?_, fun w => ?_, hN, by have := cv.pos.1; omega, cv.pos.2⟩⟩
  · have h := implCirclesOf_any n m w
    rw [cv.two] at h
    exact h
  · have h := specCirclesOf_any n m w
    rw [cv.two] at h
    exact h
  · have h := implCircleOf_any N w
    have e : inB (N : Int) 3 8 = true := inB_true (by omega) (by omega)
    rw [e, if_pos rfl, Int.toNat_natCast, cv.one] at h
    exact h
  · have h := SameShape_any N Z D N Z C (by omega) (by omega) (by omega) (by omega) w
    have e : ssB N Z D N Z C = false := by
      unfold ssB
      simp only [Int.toNat_natCast, cv.shp, Bool.not_true, Bool.and_false]
    rw [e] at h
    exact h
  · have h := SameBalls_any N Z D Z C 1 cv.va cv.vb (by omega) w
    rw [cv.bal] at h
    exact h
  · have h := SameColours_any N Z D N Z C cv.va cv.vb w
    rw [hsc] at h
    exact h
  · exact pieces_at N (N - 1) Z D 1 cv.va (by have := cv.pos.1; omega) cv.pa w
  · exact pieces_at N (N - 1) Z C 0 cv.vb (by have := cv.pos.1; omega) cv.pb w
  · have h := SameRank_any N Z D N Z C 1 w (by omega) cv.va cv.vb
    rw [cv.win] at h
    exact h
set_option maxHeartbeats 8000000 in
theorem fnCircles_walk (a0 : Option Addr) (len0 cap0 : Nat) (z0 : List Int) (w : World) (w0 : IsRow .u8 w a0 len0 cap0 z0) :
    Calls Tryz.prog 3 #[.slice a0 len0 cap0] w fun e w' => e = .returned (.bool true) ∧ Below w.heap.size w w' := by
  have m0 := rowLen51 w0
  unfold maxLen at m0
  have W0 := Lib.hid w0; clear w0
  by_cases l0 : (len0 : Int) ≤ 1048576
  · go_enter Tryz.func3, Tryz.ntmps3
    go_wp2_with fail
    refine (DrawCirclesOf_any _ _ _ _ _ W0.out).mono ?_; rintro e w1 ⟨n, m, hn, hm, rfl, hb⟩
    have HB1 := Lib.hid hb; clear hb
    rcases cir_case n m hn hm with hno | ⟨n, m, rfl, rfl, hn3, hm3, h8⟩
    · have HI : Hid (∀ w, Calls Tryz.prog 5 #[.int .i64 n, .int .i64 m] w fun e w' => e = .returned (.tuple #[strV 0 ByteArray.empty ByteArray.empty, .bool false]) ∧ Below w.heap.size w w') := fun w => by
        have h := implCirclesOf_any n m w
        rw [hno] at h
        exact h
      have HS : Hid (∀ w, Calls Tryz.prog 6 #[.int .i64 n, .int .i64 m] w fun e w' => e = .returned (.tuple #[strV 0 ByteArray.empty ByteArray.empty, .bool false]) ∧ Below w.heap.size w w') := fun w => by
        have h := specCirclesOf_any n m w
        rw [hno] at h
        exact h
      clear hno hn hm
      unfold strV at HI HS
      go_wp2_with fail
      refine (HI.out _).mono ?_; rintro e w2 ⟨rfl, hb⟩
      have HB2 := Lib.hid (HB1.out.trans (hb.mono HB1.out.size))
      clear hb
      have hal : Below w2.heap.size w2 (w2.alloc (.cells #[.int .i64 0, .string ByteArray.empty, .string ByteArray.empty] 26)) := (Below.refl _ _).alloc (Nat.le_refl _) _
      have HB3 := Lib.hid (HB2.out.trans (hal.mono HB2.out.size))
      have HXc3 : Hid (SBlk (w2.alloc (.cells #[.int .i64 0, .string ByteArray.empty, .string ByteArray.empty] 26)) w2.heap.size 0 ByteArray.empty ByteArray.empty) := SBlk.new w2 0 ByteArray.empty ByteArray.empty
      clear hal
      go_wp2_with fail
      refine (HS.out _).mono ?_; rintro e w4 ⟨rfl, hb⟩
      have HB4 := Lib.hid (HB3.out.trans (hb.mono HB3.out.size))
      have HXc4 := Lib.hid (HXc3.out.below hb HXc3.out.cells.2.2.2.2.2.2)
      clear hb
      have hal : Below w4.heap.size w4 (w4.alloc (.cells #[.int .i64 0, .string ByteArray.empty, .string ByteArray.empty] 26)) := (Below.refl _ _).alloc (Nat.le_refl _) _
      have HB5 := Lib.hid (HB4.out.trans (hal.mono HB4.out.size))
      have HXc5 := Lib.hid (HXc4.out.below hal HXc4.out.cells.2.2.2.2.2.2)
      have HXd5 : Hid (SBlk (w4.alloc (.cells #[.int .i64 0, .string ByteArray.empty, .string ByteArray.empty] 26)) w4.heap.size 0 ByteArray.empty ByteArray.empty) := SBlk.new w4 0 ByteArray.empty ByteArray.empty
      clear hal
      obtain ⟨cc0, cc1, cc2, fc0, fc1, fc2, bc⟩ := HXc5.out.cells
      obtain ⟨cd0, cd1, cd2, fd0, fd1, fd2, bd⟩ := HXd5.out.cells
      go_wp2_with fail
      go_ret
      exact ⟨ret_bool (by simp), HB5.out⟩
    · obtain ⟨N, q, Z, D, C, PL, QL, cf⟩ := cirF_ok n m hn3 hm3 h8
      have HI := Lib.hid cf.im
      have HS := Lib.hid cf.sp
      have HC1 := Lib.hid cf.one
      have HSH := Lib.hid cf.shp
      have HBL := Lib.hid cf.bal
      have HSC := Lib.hid cf.col
      have HPA := Lib.hid cf.pa
      have HPB := Lib.hid cf.pb
      have HSR := Lib.hid cf.win
      have hN := cf.hN
      have hq := cf.hq
      have hN8 := cf.h8
      have hwN : IntKind.i64.wrap ((n : Int) + (m : Int)) = (N : Int) := by rw [← hN, Int.natCast_add]; exact IntWalk.i64_in _ (by omega)
      have hwq : IntKind.i64.wrap ((N : Int) - 1) = (q : Int) := by rw [show (N : Int) - 1 = (q : Int) by omega]; exact IntWalk.i64_in _ (by omega)
      have hqN : (q : Int) < (N : Int) := by omega
      have hqI : q < N := by omega
      have h3n : decide ((3 : Int) < (n : Int)) = decide (3 < n) := decide_eq_decide.2 (by omega)
      have h3m : decide ((3 : Int) < (m : Int)) = decide (3 < m) := decide_eq_decide.2 (by omega)
      have H3N := Lib.hid h3n
      have H3M := Lib.hid h3m
      clear cf hN hq hn hm hn3 hm3 h3n h3m
      unfold strV at HI HS HC1 HSH HBL HSC HPA HPB HSR
      go_wp2_with fail
      refine (HI.out _).mono ?_; rintro e w2 ⟨rfl, hb⟩
      have HB2 := Lib.hid (HB1.out.trans (hb.mono HB1.out.size))
      clear hb
      have hal : Below w2.heap.size w2 (w2.alloc (.cells #[.int .i64 (N : Int), .string Z, .string D] 26)) := (Below.refl _ _).alloc (Nat.le_refl _) _
      have HB3 := Lib.hid (HB2.out.trans (hal.mono HB2.out.size))
      have HXc3 : Hid (SBlk (w2.alloc (.cells #[.int .i64 (N : Int), .string Z, .string D] 26)) w2.heap.size (N : Int) Z D) := SBlk.new w2 (N : Int) Z D
      clear hal
      go_wp2_with fail
      refine (HS.out _).mono ?_; rintro e w4 ⟨rfl, hb⟩
      have HB4 := Lib.hid (HB3.out.trans (hb.mono HB3.out.size))
      have HXc4 := Lib.hid (HXc3.out.below hb HXc3.out.cells.2.2.2.2.2.2)
      clear hb
      have hal : Below w4.heap.size w4 (w4.alloc (.cells #[.int .i64 (N : Int), .string Z, .string D] 26)) := (Below.refl _ _).alloc (Nat.le_refl _) _
      have HB5 := Lib.hid (HB4.out.trans (hal.mono HB4.out.size))
      have HXc5 := Lib.hid (HXc4.out.below hal HXc4.out.cells.2.2.2.2.2.2)
      have HXd5 : Hid (SBlk (w4.alloc (.cells #[.int .i64 (N : Int), .string Z, .string D] 26)) w4.heap.size (N : Int) Z D) := SBlk.new w4 (N : Int) Z D
      clear hal
      obtain ⟨cc0, cc1, cc2, fc0, fc1, fc2, bc⟩ := HXc5.out.cells
      obtain ⟨cd0, cd1, cd2, fd0, fd1, fd2, bd⟩ := HXd5.out.cells
      go_wp2_with fail
      refine (HC1.out _).mono ?_; rintro e w6 ⟨rfl, hb⟩
      have HB6 := Lib.hid (HB5.out.trans (hb.mono HB5.out.size))
      have HXc6 := Lib.hid (HXc5.out.below hb HXc5.out.cells.2.2.2.2.2.2)
      have HXd6 := Lib.hid (HXd5.out.below hb HXd5.out.cells.2.2.2.2.2.2)
      clear hb
      clear cc0 cc1 cc2 fc0 fc1 fc2 bc cd0 cd1 cd2 fd0 fd1 fd2 bd
      have hal : Below w6.heap.size w6 (w6.alloc (.cells #[.int .i64 (N : Int), .string Z, .string C] 26)) := (Below.refl _ _).alloc (Nat.le_refl _) _
      have HB7 := Lib.hid (HB6.out.trans (hal.mono HB6.out.size))
      have HXc7 := Lib.hid (HXc6.out.below hal HXc6.out.cells.2.2.2.2.2.2)
      have HXe7 : Hid (SBlk (w6.alloc (.cells #[.int .i64 (N : Int), .string Z, .string C] 26)) w6.heap.size (N : Int) Z C) := SBlk.new w6 (N : Int) Z C
      clear hal
      obtain ⟨cc0, cc1, cc2, fc0, fc1, fc2, bc⟩ := HXc7.out.cells
      obtain ⟨ce0, ce1, ce2, fe0, fe1, fe2, be⟩ := HXe7.out.cells
      go_wp2_with fail
      refine (HSH.out _).mono ?_; rintro e w8 ⟨⟨sv, rfl⟩, hb⟩
      have HB8 := Lib.hid (HB7.out.trans (hb.mono HB7.out.size))
      have HXc8 := Lib.hid (HXc7.out.below hb HXc7.out.cells.2.2.2.2.2.2)
      have HXe8 := Lib.hid (HXe7.out.below hb HXe7.out.cells.2.2.2.2.2.2)
      clear hb
      clear cc0 cc1 cc2 fc0 fc1 fc2 bc ce0 ce1 ce2 fe0 fe1 fe2 be
      obtain ⟨cc0, cc1, cc2, fc0, fc1, fc2, bc⟩ := HXc8.out.cells
      obtain ⟨ce0, ce1, ce2, fe0, fe1, fe2, be⟩ := HXe8.out.cells
      go_wp2_with fail
      refine (HBL.out _).mono ?_; rintro e w9 ⟨rfl, hb⟩
      have HB9 := Lib.hid (HB8.out.trans (hb.mono HB8.out.size))
      have HXc9 := Lib.hid (HXc8.out.below hb HXc8.out.cells.2.2.2.2.2.2)
      have HXe9 := Lib.hid (HXe8.out.below hb HXe8.out.cells.2.2.2.2.2.2)
      clear hb
      clear cc0 cc1 cc2 fc0 fc1 fc2 bc ce0 ce1 ce2 fe0 fe1 fe2 be
      go_upto_region 11 with fail
      have HCELL : Hid (∀ W', Below w9.heap.size w9 W' → SBlk W' w2.heap.size (N : Int) Z D ∧ SBlk W' w6.heap.size (N : Int) Z C) := fun W' hb => ⟨HXc9.out.below hb HXc9.out.cells.2.2.2.2.2.2, HXe9.out.below hb HXe9.out.cells.2.2.2.2.2.2⟩
      have HCUR : Hid (Below w9.heap.size w9 w9) := Below.refl _ _
      by_cases hn3 : 3 < n
      · have d1 : decide ((3 : Int) < (n : Int)) = true := by rw [H3N.out]; exact decide_eq_true hn3
        have d2 : (3 : Int) < (n : Int) := by omega
        have d5 : decide (3 < n) = true := decide_eq_true hn3
        rw [d5]
        clear d5
        by_cases hm3 : 3 < m
        · have d3 : decide ((3 : Int) < (m : Int)) = true := by rw [H3M.out]; exact decide_eq_true hm3
          have d4 : (3 : Int) < (m : Int) := by omega
          have d6 : decide (3 < m) = true := decide_eq_true hm3
          rw [d6]
          clear d6
          refine wp_region_U (by kernel_rfl) ?_
          refine wpU_seg 46 24 0 22 rfl (by decide) (by kernel_rfl) (fun c a d v w h => by cases d <;> exact h) (by kernel_rfl) ?_
          intro w7 hw7 K7 hK
          have HB7 := Lib.hid (HCUR.out.trans (hw7.below.mono HCUR.out.size))
          simp only [List.take_succ_cons, List.take_zero, List.drop_zero]
          obtain ⟨sc0, sc1, sc2, _, _, _, _⟩ := (HCELL.out _ HB7.out).1.cells
          have Ac0 := fun s' => Since.cell sc0 s'
          have Ac1 := fun s' => Since.cell sc1 s'
          have Ac2 := fun s' => Since.cell sc2 s'
          obtain ⟨se0, se1, se2, _, _, _, _⟩ := (HCELL.out _ HB7.out).2.cells
          have Ae0 := fun s' => Since.cell se0 s'
          have Ae1 := fun s' => Since.cell se1 s'
          have Ae2 := fun s' => Since.cell se2 s'
          have JC := Lib.hid (fun s' : Since w7 => HSC.out s'.w)
          repeat (go_big_quiet_step (first | (with_reducible exact Ac0 _) | (with_reducible exact Ac1 _) | (with_reducible exact Ac2 _) | (with_reducible exact Ae0 _) | (with_reducible exact Ae1 _) | (with_reducible exact Ae2 _) | (with_reducible exact Since.call (JC.out _))))
          refine wpQuiet_nil ?_
          refine hK _ ?_
          clear hK K7 hw7 HB7 sc0 Ac0 sc1 Ac1 sc2 Ac2 se0 Ae0 se1 Ae1 se2 Ae2 JC
          refine wpU_seg 24 21 23 3 rfl (by decide) (by kernel_rfl) (fun c a d v w h => by cases d <;> exact h) (by kernel_rfl) ?_
          intro w7 hw7 K7 hK
          have HB7 := Lib.hid (HCUR.out.trans (hw7.below.mono HCUR.out.size))
          simp only [List.take_succ_cons, List.take_zero, List.drop_succ_cons, List.drop_zero]
          obtain ⟨sc0, sc1, sc2, _, _, _, _⟩ := (HCELL.out _ HB7.out).1.cells
          have Ac0 := fun s' => Since.cell sc0 s'
          have Ac1 := fun s' => Since.cell sc1 s'
          have Ac2 := fun s' => Since.cell sc2 s'
          repeat (go_big_quiet_step (first | (with_reducible exact Ac0 _) | (with_reducible exact Ac1 _) | (with_reducible exact Ac2 _)))
          refine wpQuiet_nil ?_
          refine hK _ ?_
          clear hK K7 hw7 HB7 sc0 Ac0 sc1 Ac1 sc2 Ac2
          refine wpU_at 21 20 22 rfl (by kernel_rfl) ?_
          intro w8 hw8
          have HB8 := Lib.hid (HCUR.out.trans (hw8.below.mono HCUR.out.size))
          simp only [List.drop_succ_cons, List.drop_zero]
          refine ⟨by kernel_rfl, ?_⟩
          refine wp_enter (f := 11) (args := #[.agg #[.int .i64 (N : Int), .string Z, .string D]]) (by kernel_rfl) ?_
          refine (HPA.out _).mono ?_; rintro e wp ⟨g, cap, rfl, hcl, hb⟩
          refine ⟨.slice (some ⟨g, 0, none⟩) N cap, rfl, RS.of hb, ?_⟩
          have HNA : Hid (∀ W', Below wp.heap.size wp W' → W'.cell? ⟨g, q, none⟩ = some (.int .i64 1)) := fun W' hb => (hb.cell (p := ⟨g, q, none⟩) (World.block_lt_of_cell? _ _ hcl)).trans hcl
          replace HCUR : Hid (Below w9.heap.size w9 wp) := HB8.out.trans (hb.mono HB8.out.size)
          clear hcl hb hw8 HB8
          simp only [Act.put, List.setIfInBounds_toArray, List.set_cons_zero, List.set_cons_succ]
          refine wpU_seg 20 14 26 6 rfl (by decide) (by kernel_rfl) (fun c a d v w h => by cases d <;> exact h) (by kernel_rfl) ?_
          intro w7 hw7 K7 hK
          have HB7 := Lib.hid (HCUR.out.trans (hw7.below.mono HCUR.out.size))
          simp only [List.take_succ_cons, List.take_zero, List.drop_succ_cons, List.drop_zero]
          obtain ⟨se0, se1, se2, _, _, _, _⟩ := (HCELL.out _ HB7.out).2.cells
          have Ae0 := fun s' => Since.cell se0 s'
          have Ae1 := fun s' => Since.cell se1 s'
          have Ae2 := fun s' => Since.cell se2 s'
          have AC := fun s' : Since w7 => Since.cell (HNA.out _ hw7.below) s'
          repeat (go_big_quiet_step (first | (with_reducible exact Ae0 _) | (with_reducible exact Ae1 _) | (with_reducible exact Ae2 _) | (with_reducible exact AC _)))
          refine wpQuiet_nil ?_
          refine hK _ ?_
          clear hK K7 hw7 HB7 se0 Ae0 se1 Ae1 se2 Ae2 AC
          clear HNA
          refine wpU_seg 14 11 33 3 rfl (by decide) (by kernel_rfl) (fun c a d v w h => by cases d <;> exact h) (by kernel_rfl) ?_
          intro w7 hw7 K7 hK
          have HB7 := Lib.hid (HCUR.out.trans (hw7.below.mono HCUR.out.size))
          simp only [List.take_succ_cons, List.take_zero, List.drop_succ_cons, List.drop_zero]
          obtain ⟨se0, se1, se2, _, _, _, _⟩ := (HCELL.out _ HB7.out).2.cells
          have Ae0 := fun s' => Since.cell se0 s'
          have Ae1 := fun s' => Since.cell se1 s'
          have Ae2 := fun s' => Since.cell se2 s'
          repeat (go_big_quiet_step (first | (with_reducible exact Ae0 _) | (with_reducible exact Ae1 _) | (with_reducible exact Ae2 _)))
          refine wpQuiet_nil ?_
          refine hK _ ?_
          clear hK K7 hw7 HB7 se0 Ae0 se1 Ae1 se2 Ae2
          refine wpU_at 11 10 32 rfl (by kernel_rfl) ?_
          intro w8 hw8
          have HB8 := Lib.hid (HCUR.out.trans (hw8.below.mono HCUR.out.size))
          simp only [List.drop_succ_cons, List.drop_zero]
          refine ⟨by kernel_rfl, ?_⟩
          refine wp_enter (f := 11) (args := #[.agg #[.int .i64 (N : Int), .string Z, .string C]]) (by kernel_rfl) ?_
          refine (HPB.out _).mono ?_; rintro e wp ⟨g, cap, rfl, hcl, hb⟩
          refine ⟨.slice (some ⟨g, 0, none⟩) N cap, rfl, RS.of hb, ?_⟩
          have HNA : Hid (∀ W', Below wp.heap.size wp W' → W'.cell? ⟨g, q, none⟩ = some (.int .i64 0)) := fun W' hb => (hb.cell (p := ⟨g, q, none⟩) (World.block_lt_of_cell? _ _ hcl)).trans hcl
          replace HCUR : Hid (Below w9.heap.size w9 wp) := HB8.out.trans (hb.mono HB8.out.size)
          clear hcl hb hw8 HB8
          simp only [Act.put, List.setIfInBounds_toArray, List.set_cons_zero, List.set_cons_succ]
          refine wpU_seg 10 0 36 10 rfl (by decide) (by kernel_rfl) (fun c a d v w h => by cases d <;> exact h) (by kernel_rfl) ?_
          intro w7 hw7 K7 hK
          have HB7 := Lib.hid (HCUR.out.trans (hw7.below.mono HCUR.out.size))
          simp only [List.take_succ_cons, List.take_zero, List.drop_succ_cons, List.drop_zero]
          obtain ⟨sc0, sc1, sc2, _, _, _, _⟩ := (HCELL.out _ HB7.out).1.cells
          have Ac0 := fun s' => Since.cell sc0 s'
          have Ac1 := fun s' => Since.cell sc1 s'
          have Ac2 := fun s' => Since.cell sc2 s'
          obtain ⟨se0, se1, se2, _, _, _, _⟩ := (HCELL.out _ HB7.out).2.cells
          have Ae0 := fun s' => Since.cell se0 s'
          have Ae1 := fun s' => Since.cell se1 s'
          have Ae2 := fun s' => Since.cell se2 s'
          have AC := fun s' : Since w7 => Since.cell (HNA.out _ hw7.below) s'
          have JR := Lib.hid (fun s' : Since w7 => HSR.out s'.w)
          repeat (go_big_quiet_step (first | (with_reducible exact Ac0 _) | (with_reducible exact Ac1 _) | (with_reducible exact Ac2 _) | (with_reducible exact Ae0 _) | (with_reducible exact Ae1 _) | (with_reducible exact Ae2 _) | (with_reducible exact AC _) | (with_reducible exact Since.call (JR.out _))))
          refine wpQuiet_nil ?_
          refine hK _ ?_
          clear hK K7 hw7 HB7 sc0 Ac0 sc1 Ac1 sc2 Ac2 se0 Ae0 se1 Ae1 se2 Ae2 AC JR
          refine ⟨by kernel_rfl, fun w10 hw10 => ?_⟩
          have hb10 := HCUR.out.trans (hw10.below.mono HCUR.out.size)
          have HB10 := Lib.hid (HB9.out.trans (hb10.mono HB9.out.size))
          clear hw10 hb10 HCUR HCELL HNA
          go_wp2_with fail
          go_ret
          exact ⟨ret_bool (by simp), HB10.out⟩
        · have d3 : decide ((3 : Int) < (m : Int)) = false := by rw [H3M.out]; exact decide_eq_false hm3
          have d4 : ¬ (3 : Int) < (m : Int) := by omega
          have d6 : decide (3 < m) = false := decide_eq_false hm3
          rw [d6]
          clear d6
          refine wp_region_U (by kernel_rfl) ?_
          refine wpU_seg 46 24 0 22 rfl (by decide) (by kernel_rfl) (fun c a d v w h => by cases d <;> exact h) (by kernel_rfl) ?_
          intro w7 hw7 K7 hK
          have HB7 := Lib.hid (HCUR.out.trans (hw7.below.mono HCUR.out.size))
          simp only [List.take_succ_cons, List.take_zero, List.drop_zero]
          obtain ⟨sc0, sc1, sc2, _, _, _, _⟩ := (HCELL.out _ HB7.out).1.cells
          have Ac0 := fun s' => Since.cell sc0 s'
          have Ac1 := fun s' => Since.cell sc1 s'
          have Ac2 := fun s' => Since.cell sc2 s'
          obtain ⟨se0, se1, se2, _, _, _, _⟩ := (HCELL.out _ HB7.out).2.cells
          have Ae0 := fun s' => Since.cell se0 s'
          have Ae1 := fun s' => Since.cell se1 s'
          have Ae2 := fun s' => Since.cell se2 s'
          have JC := Lib.hid (fun s' : Since w7 => HSC.out s'.w)
          repeat (go_big_quiet_step (first | (with_reducible exact Ac0 _) | (with_reducible exact Ac1 _) | (with_reducible exact Ac2 _) | (with_reducible exact Ae0 _) | (with_reducible exact Ae1 _) | (with_reducible exact Ae2 _) | (with_reducible exact Since.call (JC.out _))))
          refine wpQuiet_nil ?_
          refine hK _ ?_
          clear hK K7 hw7 HB7 sc0 Ac0 sc1 Ac1 sc2 Ac2 se0 Ae0 se1 Ae1 se2 Ae2 JC
          refine wpU_seg 24 21 23 3 rfl (by decide) (by kernel_rfl) (fun c a d v w h => by cases d <;> exact h) (by kernel_rfl) ?_
          intro w7 hw7 K7 hK
          have HB7 := Lib.hid (HCUR.out.trans (hw7.below.mono HCUR.out.size))
          simp only [List.take_succ_cons, List.take_zero, List.drop_succ_cons, List.drop_zero]
          obtain ⟨sc0, sc1, sc2, _, _, _, _⟩ := (HCELL.out _ HB7.out).1.cells
          have Ac0 := fun s' => Since.cell sc0 s'
          have Ac1 := fun s' => Since.cell sc1 s'
          have Ac2 := fun s' => Since.cell sc2 s'
          repeat (go_big_quiet_step (first | (with_reducible exact Ac0 _) | (with_reducible exact Ac1 _) | (with_reducible exact Ac2 _)))
          refine wpQuiet_nil ?_
          refine hK _ ?_
          clear hK K7 hw7 HB7 sc0 Ac0 sc1 Ac1 sc2 Ac2
          refine wpU_at 21 20 22 rfl (by kernel_rfl) ?_
          intro w8 hw8
          have HB8 := Lib.hid (HCUR.out.trans (hw8.below.mono HCUR.out.size))
          simp only [List.drop_succ_cons, List.drop_zero]
          refine ⟨by kernel_rfl, ?_⟩
          refine wp_enter (f := 11) (args := #[.agg #[.int .i64 (N : Int), .string Z, .string D]]) (by kernel_rfl) ?_
          refine (HPA.out _).mono ?_; rintro e wp ⟨g, cap, rfl, hcl, hb⟩
          refine ⟨.slice (some ⟨g, 0, none⟩) N cap, rfl, RS.of hb, ?_⟩
          have HNA : Hid (∀ W', Below wp.heap.size wp W' → W'.cell? ⟨g, q, none⟩ = some (.int .i64 1)) := fun W' hb => (hb.cell (p := ⟨g, q, none⟩) (World.block_lt_of_cell? _ _ hcl)).trans hcl
          replace HCUR : Hid (Below w9.heap.size w9 wp) := HB8.out.trans (hb.mono HB8.out.size)
          clear hcl hb hw8 HB8
          simp only [Act.put, List.setIfInBounds_toArray, List.set_cons_zero, List.set_cons_succ]
          refine wpU_seg 20 14 26 6 rfl (by decide) (by kernel_rfl) (fun c a d v w h => by cases d <;> exact h) (by kernel_rfl) ?_
          intro w7 hw7 K7 hK
          have HB7 := Lib.hid (HCUR.out.trans (hw7.below.mono HCUR.out.size))
          simp only [List.take_succ_cons, List.take_zero, List.drop_succ_cons, List.drop_zero]
          obtain ⟨se0, se1, se2, _, _, _, _⟩ := (HCELL.out _ HB7.out).2.cells
          have Ae0 := fun s' => Since.cell se0 s'
          have Ae1 := fun s' => Since.cell se1 s'
          have Ae2 := fun s' => Since.cell se2 s'
          have AC := fun s' : Since w7 => Since.cell (HNA.out _ hw7.below) s'
          repeat (go_big_quiet_step (first | (with_reducible exact Ae0 _) | (with_reducible exact Ae1 _) | (with_reducible exact Ae2 _) | (with_reducible exact AC _)))
          refine wpQuiet_nil ?_
          refine hK _ ?_
          clear hK K7 hw7 HB7 se0 Ae0 se1 Ae1 se2 Ae2 AC
          clear HNA
          refine wpU_seg 14 11 33 3 rfl (by decide) (by kernel_rfl) (fun c a d v w h => by cases d <;> exact h) (by kernel_rfl) ?_
          intro w7 hw7 K7 hK
          have HB7 := Lib.hid (HCUR.out.trans (hw7.below.mono HCUR.out.size))
          simp only [List.take_succ_cons, List.take_zero, List.drop_succ_cons, List.drop_zero]
          obtain ⟨se0, se1, se2, _, _, _, _⟩ := (HCELL.out _ HB7.out).2.cells
          have Ae0 := fun s' => Since.cell se0 s'
          have Ae1 := fun s' => Since.cell se1 s'
          have Ae2 := fun s' => Since.cell se2 s'
          repeat (go_big_quiet_step (first | (with_reducible exact Ae0 _) | (with_reducible exact Ae1 _) | (with_reducible exact Ae2 _)))
          refine wpQuiet_nil ?_
          refine hK _ ?_
          clear hK K7 hw7 HB7 se0 Ae0 se1 Ae1 se2 Ae2
          refine wpU_at 11 10 32 rfl (by kernel_rfl) ?_
          intro w8 hw8
          have HB8 := Lib.hid (HCUR.out.trans (hw8.below.mono HCUR.out.size))
          simp only [List.drop_succ_cons, List.drop_zero]
          refine ⟨by kernel_rfl, ?_⟩
          refine wp_enter (f := 11) (args := #[.agg #[.int .i64 (N : Int), .string Z, .string C]]) (by kernel_rfl) ?_
          refine (HPB.out _).mono ?_; rintro e wp ⟨g, cap, rfl, hcl, hb⟩
          refine ⟨.slice (some ⟨g, 0, none⟩) N cap, rfl, RS.of hb, ?_⟩
          have HNA : Hid (∀ W', Below wp.heap.size wp W' → W'.cell? ⟨g, q, none⟩ = some (.int .i64 0)) := fun W' hb => (hb.cell (p := ⟨g, q, none⟩) (World.block_lt_of_cell? _ _ hcl)).trans hcl
          replace HCUR : Hid (Below w9.heap.size w9 wp) := HB8.out.trans (hb.mono HB8.out.size)
          clear hcl hb hw8 HB8
          simp only [Act.put, List.setIfInBounds_toArray, List.set_cons_zero, List.set_cons_succ]
          refine wpU_seg 10 0 36 10 rfl (by decide) (by kernel_rfl) (fun c a d v w h => by cases d <;> exact h) (by kernel_rfl) ?_
          intro w7 hw7 K7 hK
          have HB7 := Lib.hid (HCUR.out.trans (hw7.below.mono HCUR.out.size))
          simp only [List.take_succ_cons, List.take_zero, List.drop_succ_cons, List.drop_zero]
          obtain ⟨sc0, sc1, sc2, _, _, _, _⟩ := (HCELL.out _ HB7.out).1.cells
          have Ac0 := fun s' => Since.cell sc0 s'
          have Ac1 := fun s' => Since.cell sc1 s'
          have Ac2 := fun s' => Since.cell sc2 s'
          obtain ⟨se0, se1, se2, _, _, _, _⟩ := (HCELL.out _ HB7.out).2.cells
          have Ae0 := fun s' => Since.cell se0 s'
          have Ae1 := fun s' => Since.cell se1 s'
          have Ae2 := fun s' => Since.cell se2 s'
          have AC := fun s' : Since w7 => Since.cell (HNA.out _ hw7.below) s'
          have JR := Lib.hid (fun s' : Since w7 => HSR.out s'.w)
          repeat (go_big_quiet_step (first | (with_reducible exact Ac0 _) | (with_reducible exact Ac1 _) | (with_reducible exact Ac2 _) | (with_reducible exact Ae0 _) | (with_reducible exact Ae1 _) | (with_reducible exact Ae2 _) | (with_reducible exact AC _) | (with_reducible exact Since.call (JR.out _))))
          refine wpQuiet_nil ?_
          refine hK _ ?_
          clear hK K7 hw7 HB7 sc0 Ac0 sc1 Ac1 sc2 Ac2 se0 Ae0 se1 Ae1 se2 Ae2 AC JR
          refine ⟨by kernel_rfl, fun w10 hw10 => ?_⟩
          have hb10 := HCUR.out.trans (hw10.below.mono HCUR.out.size)
          have HB10 := Lib.hid (HB9.out.trans (hb10.mono HB9.out.size))
          clear hw10 hb10 HCUR HCELL HNA
          go_wp2_with fail
          go_ret
          exact ⟨ret_bool (by simp), HB10.out⟩
      · have d1 : decide ((3 : Int) < (n : Int)) = false := by rw [H3N.out]; exact decide_eq_false hn3
        have d2 : ¬ (3 : Int) < (n : Int) := by omega
        have d5 : decide (3 < n) = false := decide_eq_false hn3
        rw [d5]
        clear d5
        by_cases hm3 : 3 < m
        · have d3 : decide ((3 : Int) < (m : Int)) = true := by rw [H3M.out]; exact decide_eq_true hm3
          have d4 : (3 : Int) < (m : Int) := by omega
          have d6 : decide (3 < m) = true := decide_eq_true hm3
          rw [d6]
          clear d6
          refine wp_region_U (by kernel_rfl) ?_
          refine wpU_seg 46 24 0 22 rfl (by decide) (by kernel_rfl) (fun c a d v w h => by cases d <;> exact h) (by kernel_rfl) ?_
          intro w7 hw7 K7 hK
          have HB7 := Lib.hid (HCUR.out.trans (hw7.below.mono HCUR.out.size))
          simp only [List.take_succ_cons, List.take_zero, List.drop_zero]
          obtain ⟨sc0, sc1, sc2, _, _, _, _⟩ := (HCELL.out _ HB7.out).1.cells
          have Ac0 := fun s' => Since.cell sc0 s'
          have Ac1 := fun s' => Since.cell sc1 s'
          have Ac2 := fun s' => Since.cell sc2 s'
          obtain ⟨se0, se1, se2, _, _, _, _⟩ := (HCELL.out _ HB7.out).2.cells
          have Ae0 := fun s' => Since.cell se0 s'
          have Ae1 := fun s' => Since.cell se1 s'
          have Ae2 := fun s' => Since.cell se2 s'
          have JC := Lib.hid (fun s' : Since w7 => HSC.out s'.w)
          repeat (go_big_quiet_step (first | (with_reducible exact Ac0 _) | (with_reducible exact Ac1 _) | (with_reducible exact Ac2 _) | (with_reducible exact Ae0 _) | (with_reducible exact Ae1 _) | (with_reducible exact Ae2 _) | (with_reducible exact Since.call (JC.out _))))
          refine wpQuiet_nil ?_
          refine hK _ ?_
          clear hK K7 hw7 HB7 sc0 Ac0 sc1 Ac1 sc2 Ac2 se0 Ae0 se1 Ae1 se2 Ae2 JC
          refine wpU_seg 24 21 23 3 rfl (by decide) (by kernel_rfl) (fun c a d v w h => by cases d <;> exact h) (by kernel_rfl) ?_
          intro w7 hw7 K7 hK
          have HB7 := Lib.hid (HCUR.out.trans (hw7.below.mono HCUR.out.size))
          simp only [List.take_succ_cons, List.take_zero, List.drop_succ_cons, List.drop_zero]
          obtain ⟨sc0, sc1, sc2, _, _, _, _⟩ := (HCELL.out _ HB7.out).1.cells
          have Ac0 := fun s' => Since.cell sc0 s'
          have Ac1 := fun s' => Since.cell sc1 s'
          have Ac2 := fun s' => Since.cell sc2 s'
          repeat (go_big_quiet_step (first | (with_reducible exact Ac0 _) | (with_reducible exact Ac1 _) | (with_reducible exact Ac2 _)))
          refine wpQuiet_nil ?_
          refine hK _ ?_
          clear hK K7 hw7 HB7 sc0 Ac0 sc1 Ac1 sc2 Ac2
          refine wpU_at 21 20 22 rfl (by kernel_rfl) ?_
          intro w8 hw8
          have HB8 := Lib.hid (HCUR.out.trans (hw8.below.mono HCUR.out.size))
          simp only [List.drop_succ_cons, List.drop_zero]
          refine ⟨by kernel_rfl, ?_⟩
          refine wp_enter (f := 11) (args := #[.agg #[.int .i64 (N : Int), .string Z, .string D]]) (by kernel_rfl) ?_
          refine (HPA.out _).mono ?_; rintro e wp ⟨g, cap, rfl, hcl, hb⟩
          refine ⟨.slice (some ⟨g, 0, none⟩) N cap, rfl, RS.of hb, ?_⟩
          have HNA : Hid (∀ W', Below wp.heap.size wp W' → W'.cell? ⟨g, q, none⟩ = some (.int .i64 1)) := fun W' hb => (hb.cell (p := ⟨g, q, none⟩) (World.block_lt_of_cell? _ _ hcl)).trans hcl
          replace HCUR : Hid (Below w9.heap.size w9 wp) := HB8.out.trans (hb.mono HB8.out.size)
          clear hcl hb hw8 HB8
          simp only [Act.put, List.setIfInBounds_toArray, List.set_cons_zero, List.set_cons_succ]
          refine wpU_seg 20 14 26 6 rfl (by decide) (by kernel_rfl) (fun c a d v w h => by cases d <;> exact h) (by kernel_rfl) ?_
          intro w7 hw7 K7 hK
          have HB7 := Lib.hid (HCUR.out.trans (hw7.below.mono HCUR.out.size))
          simp only [List.take_succ_cons, List.take_zero, List.drop_succ_cons, List.drop_zero]
          obtain ⟨se0, se1, se2, _, _, _, _⟩ := (HCELL.out _ HB7.out).2.cells
          have Ae0 := fun s' => Since.cell se0 s'
          have Ae1 := fun s' => Since.cell se1 s'
          have Ae2 := fun s' => Since.cell se2 s'
          have AC := fun s' : Since w7 => Since.cell (HNA.out _ hw7.below) s'
          repeat (go_big_quiet_step (first | (with_reducible exact Ae0 _) | (with_reducible exact Ae1 _) | (with_reducible exact Ae2 _) | (with_reducible exact AC _)))
          refine wpQuiet_nil ?_
          refine hK _ ?_
          clear hK K7 hw7 HB7 se0 Ae0 se1 Ae1 se2 Ae2 AC
          clear HNA
          refine wpU_seg 14 11 33 3 rfl (by decide) (by kernel_rfl) (fun c a d v w h => by cases d <;> exact h) (by kernel_rfl) ?_
          intro w7 hw7 K7 hK
          have HB7 := Lib.hid (HCUR.out.trans (hw7.below.mono HCUR.out.size))
          simp only [List.take_succ_cons, List.take_zero, List.drop_succ_cons, List.drop_zero]
          obtain ⟨se0, se1, se2, _, _, _, _⟩ := (HCELL.out _ HB7.out).2.cells
          have Ae0 := fun s' => Since.cell se0 s'
          have Ae1 := fun s' => Since.cell se1 s'
          have Ae2 := fun s' => Since.cell se2 s'
          repeat (go_big_quiet_step (first | (with_reducible exact Ae0 _) | (with_reducible exact Ae1 _) | (with_reducible exact Ae2 _)))
          refine wpQuiet_nil ?_
          refine hK _ ?_
          clear hK K7 hw7 HB7 se0 Ae0 se1 Ae1 se2 Ae2
          refine wpU_at 11 10 32 rfl (by kernel_rfl) ?_
          intro w8 hw8
          have HB8 := Lib.hid (HCUR.out.trans (hw8.below.mono HCUR.out.size))
          simp only [List.drop_succ_cons, List.drop_zero]
          refine ⟨by kernel_rfl, ?_⟩
          refine wp_enter (f := 11) (args := #[.agg #[.int .i64 (N : Int), .string Z, .string C]]) (by kernel_rfl) ?_
          refine (HPB.out _).mono ?_; rintro e wp ⟨g, cap, rfl, hcl, hb⟩
          refine ⟨.slice (some ⟨g, 0, none⟩) N cap, rfl, RS.of hb, ?_⟩
          have HNA : Hid (∀ W', Below wp.heap.size wp W' → W'.cell? ⟨g, q, none⟩ = some (.int .i64 0)) := fun W' hb => (hb.cell (p := ⟨g, q, none⟩) (World.block_lt_of_cell? _ _ hcl)).trans hcl
          replace HCUR : Hid (Below w9.heap.size w9 wp) := HB8.out.trans (hb.mono HB8.out.size)
          clear hcl hb hw8 HB8
          simp only [Act.put, List.setIfInBounds_toArray, List.set_cons_zero, List.set_cons_succ]
          refine wpU_seg 10 0 36 10 rfl (by decide) (by kernel_rfl) (fun c a d v w h => by cases d <;> exact h) (by kernel_rfl) ?_
          intro w7 hw7 K7 hK
          have HB7 := Lib.hid (HCUR.out.trans (hw7.below.mono HCUR.out.size))
          simp only [List.take_succ_cons, List.take_zero, List.drop_succ_cons, List.drop_zero]
          obtain ⟨sc0, sc1, sc2, _, _, _, _⟩ := (HCELL.out _ HB7.out).1.cells
          have Ac0 := fun s' => Since.cell sc0 s'
          have Ac1 := fun s' => Since.cell sc1 s'
          have Ac2 := fun s' => Since.cell sc2 s'
          obtain ⟨se0, se1, se2, _, _, _, _⟩ := (HCELL.out _ HB7.out).2.cells
          have Ae0 := fun s' => Since.cell se0 s'
          have Ae1 := fun s' => Since.cell se1 s'
          have Ae2 := fun s' => Since.cell se2 s'
          have AC := fun s' : Since w7 => Since.cell (HNA.out _ hw7.below) s'
          have JR := Lib.hid (fun s' : Since w7 => HSR.out s'.w)
          repeat (go_big_quiet_step (first | (with_reducible exact Ac0 _) | (with_reducible exact Ac1 _) | (with_reducible exact Ac2 _) | (with_reducible exact Ae0 _) | (with_reducible exact Ae1 _) | (with_reducible exact Ae2 _) | (with_reducible exact AC _) | (with_reducible exact Since.call (JR.out _))))
          refine wpQuiet_nil ?_
          refine hK _ ?_
          clear hK K7 hw7 HB7 sc0 Ac0 sc1 Ac1 sc2 Ac2 se0 Ae0 se1 Ae1 se2 Ae2 AC JR
          refine ⟨by kernel_rfl, fun w10 hw10 => ?_⟩
          have hb10 := HCUR.out.trans (hw10.below.mono HCUR.out.size)
          have HB10 := Lib.hid (HB9.out.trans (hb10.mono HB9.out.size))
          clear hw10 hb10 HCUR HCELL HNA
          go_wp2_with fail
          go_ret
          exact ⟨ret_bool (by simp), HB10.out⟩
        · have d3 : decide ((3 : Int) < (m : Int)) = false := by rw [H3M.out]; exact decide_eq_false hm3
          have d4 : ¬ (3 : Int) < (m : Int) := by omega
          have d6 : decide (3 < m) = false := decide_eq_false hm3
          rw [d6]
          clear d6
          refine wp_region_U (by kernel_rfl) ?_
          refine wpU_seg 46 24 0 22 rfl (by decide) (by kernel_rfl) (fun c a d v w h => by cases d <;> exact h) (by kernel_rfl) ?_
          intro w7 hw7 K7 hK
          have HB7 := Lib.hid (HCUR.out.trans (hw7.below.mono HCUR.out.size))
          simp only [List.take_succ_cons, List.take_zero, List.drop_zero]
          obtain ⟨sc0, sc1, sc2, _, _, _, _⟩ := (HCELL.out _ HB7.out).1.cells
          have Ac0 := fun s' => Since.cell sc0 s'
          have Ac1 := fun s' => Since.cell sc1 s'
          have Ac2 := fun s' => Since.cell sc2 s'
          obtain ⟨se0, se1, se2, _, _, _, _⟩ := (HCELL.out _ HB7.out).2.cells
          have Ae0 := fun s' => Since.cell se0 s'
          have Ae1 := fun s' => Since.cell se1 s'
          have Ae2 := fun s' => Since.cell se2 s'
          have JC := Lib.hid (fun s' : Since w7 => HSC.out s'.w)
          repeat (go_big_quiet_step (first | (with_reducible exact Ac0 _) | (with_reducible exact Ac1 _) | (with_reducible exact Ac2 _) | (with_reducible exact Ae0 _) | (with_reducible exact Ae1 _) | (with_reducible exact Ae2 _) | (with_reducible exact Since.call (JC.out _))))
          refine wpQuiet_nil ?_
          refine hK _ ?_
          clear hK K7 hw7 HB7 sc0 Ac0 sc1 Ac1 sc2 Ac2 se0 Ae0 se1 Ae1 se2 Ae2 JC
          refine wpU_seg 24 21 23 3 rfl (by decide) (by kernel_rfl) (fun c a d v w h => by cases d <;> exact h) (by kernel_rfl) ?_
          intro w7 hw7 K7 hK
          have HB7 := Lib.hid (HCUR.out.trans (hw7.below.mono HCUR.out.size))
          simp only [List.take_succ_cons, List.take_zero, List.drop_succ_cons, List.drop_zero]
          obtain ⟨sc0, sc1, sc2, _, _, _, _⟩ := (HCELL.out _ HB7.out).1.cells
          have Ac0 := fun s' => Since.cell sc0 s'
          have Ac1 := fun s' => Since.cell sc1 s'
          have Ac2 := fun s' => Since.cell sc2 s'
          repeat (go_big_quiet_step (first | (with_reducible exact Ac0 _) | (with_reducible exact Ac1 _) | (with_reducible exact Ac2 _)))
          refine wpQuiet_nil ?_
          refine hK _ ?_
          clear hK K7 hw7 HB7 sc0 Ac0 sc1 Ac1 sc2 Ac2
          refine wpU_at 21 20 22 rfl (by kernel_rfl) ?_
          intro w8 hw8
          have HB8 := Lib.hid (HCUR.out.trans (hw8.below.mono HCUR.out.size))
          simp only [List.drop_succ_cons, List.drop_zero]
          refine ⟨by kernel_rfl, ?_⟩
          refine wp_enter (f := 11) (args := #[.agg #[.int .i64 (N : Int), .string Z, .string D]]) (by kernel_rfl) ?_
          refine (HPA.out _).mono ?_; rintro e wp ⟨g, cap, rfl, hcl, hb⟩
          refine ⟨.slice (some ⟨g, 0, none⟩) N cap, rfl, RS.of hb, ?_⟩
          have HNA : Hid (∀ W', Below wp.heap.size wp W' → W'.cell? ⟨g, q, none⟩ = some (.int .i64 1)) := fun W' hb => (hb.cell (p := ⟨g, q, none⟩) (World.block_lt_of_cell? _ _ hcl)).trans hcl
          replace HCUR : Hid (Below w9.heap.size w9 wp) := HB8.out.trans (hb.mono HB8.out.size)
          clear hcl hb hw8 HB8
          simp only [Act.put, List.setIfInBounds_toArray, List.set_cons_zero, List.set_cons_succ]
          refine wpU_seg 20 14 26 6 rfl (by decide) (by kernel_rfl) (fun c a d v w h => by cases d <;> exact h) (by kernel_rfl) ?_
          intro w7 hw7 K7 hK
          have HB7 := Lib.hid (HCUR.out.trans (hw7.below.mono HCUR.out.size))
          simp only [List.take_succ_cons, List.take_zero, List.drop_succ_cons, List.drop_zero]
          obtain ⟨se0, se1, se2, _, _, _, _⟩ := (HCELL.out _ HB7.out).2.cells
          have Ae0 := fun s' => Since.cell se0 s'
          have Ae1 := fun s' => Since.cell se1 s'
          have Ae2 := fun s' => Since.cell se2 s'
          have AC := fun s' : Since w7 => Since.cell (HNA.out _ hw7.below) s'
          repeat (go_big_quiet_step (first | (with_reducible exact Ae0 _) | (with_reducible exact Ae1 _) | (with_reducible exact Ae2 _) | (with_reducible exact AC _)))
          refine wpQuiet_nil ?_
          refine hK _ ?_
          clear hK K7 hw7 HB7 se0 Ae0 se1 Ae1 se2 Ae2 AC
          clear HNA
          refine wpU_seg 14 11 33 3 rfl (by decide) (by kernel_rfl) (fun c a d v w h => by cases d <;> exact h) (by kernel_rfl) ?_
          intro w7 hw7 K7 hK
          have HB7 := Lib.hid (HCUR.out.trans (hw7.below.mono HCUR.out.size))
          simp only [List.take_succ_cons, List.take_zero, List.drop_succ_cons, List.drop_zero]
          obtain ⟨se0, se1, se2, _, _, _, _⟩ := (HCELL.out _ HB7.out).2.cells
          have Ae0 := fun s' => Since.cell se0 s'
          have Ae1 := fun s' => Since.cell se1 s'
          have Ae2 := fun s' => Since.cell se2 s'
          repeat (go_big_quiet_step (first | (with_reducible exact Ae0 _) | (with_reducible exact Ae1 _) | (with_reducible exact Ae2 _)))
          refine wpQuiet_nil ?_
          refine hK _ ?_
          clear hK K7 hw7 HB7 se0 Ae0 se1 Ae1 se2 Ae2
          refine wpU_at 11 10 32 rfl (by kernel_rfl) ?_
          intro w8 hw8
          have HB8 := Lib.hid (HCUR.out.trans (hw8.below.mono HCUR.out.size))
          simp only [List.drop_succ_cons, List.drop_zero]
          refine ⟨by kernel_rfl, ?_⟩
          refine wp_enter (f := 11) (args := #[.agg #[.int .i64 (N : Int), .string Z, .string C]]) (by kernel_rfl) ?_
          refine (HPB.out _).mono ?_; rintro e wp ⟨g, cap, rfl, hcl, hb⟩
          refine ⟨.slice (some ⟨g, 0, none⟩) N cap, rfl, RS.of hb, ?_⟩
          have HNA : Hid (∀ W', Below wp.heap.size wp W' → W'.cell? ⟨g, q, none⟩ = some (.int .i64 0)) := fun W' hb => (hb.cell (p := ⟨g, q, none⟩) (World.block_lt_of_cell? _ _ hcl)).trans hcl
          replace HCUR : Hid (Below w9.heap.size w9 wp) := HB8.out.trans (hb.mono HB8.out.size)
          clear hcl hb hw8 HB8
          simp only [Act.put, List.setIfInBounds_toArray, List.set_cons_zero, List.set_cons_succ]
          refine wpU_seg 10 0 36 10 rfl (by decide) (by kernel_rfl) (fun c a d v w h => by cases d <;> exact h) (by kernel_rfl) ?_
          intro w7 hw7 K7 hK
          have HB7 := Lib.hid (HCUR.out.trans (hw7.below.mono HCUR.out.size))
          simp only [List.take_succ_cons, List.take_zero, List.drop_succ_cons, List.drop_zero]
          obtain ⟨sc0, sc1, sc2, _, _, _, _⟩ := (HCELL.out _ HB7.out).1.cells
          have Ac0 := fun s' => Since.cell sc0 s'
          have Ac1 := fun s' => Since.cell sc1 s'
          have Ac2 := fun s' => Since.cell sc2 s'
          obtain ⟨se0, se1, se2, _, _, _, _⟩ := (HCELL.out _ HB7.out).2.cells
          have Ae0 := fun s' => Since.cell se0 s'
          have Ae1 := fun s' => Since.cell se1 s'
          have Ae2 := fun s' => Since.cell se2 s'
          have AC := fun s' : Since w7 => Since.cell (HNA.out _ hw7.below) s'
          have JR := Lib.hid (fun s' : Since w7 => HSR.out s'.w)
          repeat (go_big_quiet_step (first | (with_reducible exact Ac0 _) | (with_reducible exact Ac1 _) | (with_reducible exact Ac2 _) | (with_reducible exact Ae0 _) | (with_reducible exact Ae1 _) | (with_reducible exact Ae2 _) | (with_reducible exact AC _) | (with_reducible exact Since.call (JR.out _))))
          refine wpQuiet_nil ?_
          refine hK _ ?_
          clear hK K7 hw7 HB7 sc0 Ac0 sc1 Ac1 sc2 Ac2 se0 Ae0 se1 Ae1 se2 Ae2 AC JR
          refine ⟨by kernel_rfl, fun w10 hw10 => ?_⟩
          have hb10 := HCUR.out.trans (hw10.below.mono HCUR.out.size)
          have HB10 := Lib.hid (HB9.out.trans (hb10.mono HB9.out.size))
          clear hw10 hb10 HCUR HCELL HNA
          go_wp2_with fail
          go_ret
          exact ⟨ret_bool (by simp), HB10.out⟩
  · go_enter Tryz.func3, Tryz.ntmps3
    go_wp2_with fail
    go_ret
    exact ⟨rfl, Below.refl _ _⟩
end Go.Proofs.YtfhogenjpepfnaaGreatDoor

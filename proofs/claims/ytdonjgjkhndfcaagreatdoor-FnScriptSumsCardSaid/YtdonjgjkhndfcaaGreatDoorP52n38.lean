/- Contracts of the program's functions and what they compute: part 38. Conditions: those that each theorem states. -/
import Derived.Test.YtdonjgjkhndfcaaGreatDoorP52n37
namespace Go.Proofs.YtdonjgjkhndfcaaGreatDoor
open Go.RowKit
set_option linter.unusedVariables false
set_option maxRecDepth 100000
set_option maxHeartbeats 4000000 in
theorem l1Some_any (b K : Nat) (w : World) (h : RdB w b K) (hk : K < 10000000000) :
    Calls Tryz.prog 42 #[.pointer (some ⟨b, 0, none⟩)] w fun e w' => ∃ n : Nat, 1 ≤ n ∧ n ≤ 5 ∧ StrD b (K + 61) (n : Int) n (n * n) w e w' := by
  have hb := h.block
  have HB0 : Hid (Below w.heap.size w (w.alloc (.cells #[.int .i64 0, .string ⟨#[]⟩, .string ⟨#[]⟩] 24))) := (Below.refl _ _).alloc (Nat.le_refl _) _
  have HB1 : Hid (SBlk (w.alloc (.cells #[.int .i64 0, .string ⟨#[]⟩, .string ⟨#[]⟩] 24)) w.heap.size 0 ⟨#[]⟩ ⟨#[]⟩) := SBlk.new w 0 ⟨#[]⟩ ⟨#[]⟩
  have HR := Lib.hid (rdB_bel h HB0.out)
  clear h
  obtain ⟨W, hW⟩ : ∃ W, w.alloc (.cells #[.int .i64 0, .string ⟨#[]⟩, .string ⟨#[]⟩] 24) = W := ⟨_, rfl⟩
  have HN := Lib.hid (fun T => num_list W b K [3, 4, 2, 1, 5, 3] T (hW ▸ HR.out) (by omega) (by decide) (by decide))
  have hz : w.heap.size + 1 = W.heap.size := by rw [← hW]; simp
  rw [hW] at HB0 HB1 HR
  have HWW := Lib.hid hW
  have HZ := Lib.hid hz
  clear hW hz
  go_enter Tryz.func42, Tryz.ntmps42
  go_wp2_with fail
  rw [HWW.out, HZ.out]
  refine (HN.out _).mono ?_; rintro e w1 ⟨v, hv, rfl, hr, hg⟩
  have hv' : ∃ n : Nat, v = (n : Int) ∧ 1 ≤ n ∧ n ≤ 5 := by
    simp at hv
    rcases hv with rfl | rfl | rfl | rfl | rfl | rfl
    · exact ⟨3, rfl, by omega, by omega⟩
    · exact ⟨4, rfl, by omega, by omega⟩
    · exact ⟨2, rfl, by omega, by omega⟩
    · exact ⟨1, rfl, by omega, by omega⟩
    · exact ⟨5, rfl, by omega, by omega⟩
    · exact ⟨3, rfl, by omega, by omega⟩
  obtain ⟨n, rfl, n1, n5⟩ := hv'
  clear hv
  have HR1 := Lib.hid hr
  have HG1 := Lib.hid hg
  clear hr hg
  go_wp2_with fail
  refine (l1Draw_any b (K + 1) n n1 n5 w1 HR1.out (by omega)).mono ?_; rintro e w2 ⟨S, R, hS, hR, rfl, hr, hg⟩
  have HR2 := Lib.hid hr
  have HG2 := Lib.hid (HG1.out.trans hg)
  have HX : Hid (SBlk w2 w.heap.size 0 ⟨#[]⟩ ⟨#[]⟩) := (HG2.out.block w.heap.size HB1.out.cells.2.2.2.2.2.2 (by intro e; injection e; omega)).trans HB1.out
  clear hr hg
  obtain ⟨d0, d1, d2, g0, g1, g2, hbc⟩ := HX.out.cells
  have HP : Hid (RdB (((w2.setCell ⟨w.heap.size, 0, none⟩ (.int .i64 (n : Int))).setCell ⟨w.heap.size, 1, none⟩ (.string S)).setCell ⟨w.heap.size, 2, none⟩ (.string R)) b (K + 61) ∧ w.grownBy (((w2.setCell ⟨w.heap.size, 0, none⟩ (.int .i64 (n : Int))).setCell ⟨w.heap.size, 1, none⟩ (.string S)).setCell ⟨w.heap.size, 2, none⟩ (.string R)) (some b)) :=
    ⟨rdB_set (rdB_set (rdB_set (HR2.out.mono (by omega)) hb) hb) hb, grown_setS (grown_setS (grown_setS ((grown_belowS HB0.out).trans HG2.out) (Nat.le_refl _)) (Nat.le_refl _)) (Nat.le_refl _)⟩
  unfold strV
  go_wp2_with fail
  refine bodyPost_ret (v := strV n S R) ?_ rfl ⟨n, n1, n5, S, R, hS, hR, rfl, HP.out.1, HP.out.2⟩
  exact results_str rfl rfl HX.out.set3
theorem Dst.set0 {w : World} {b K g go : Nat} {n n' : Int} {S R : ByteArray} {wr : World} (h : Dst w b K g go n S R wr) : Dst w b K g go n' S R (wr.setCell ⟨g, 0, none⟩ (.int .i64 n')) := by
  refine ⟨rdB_set h.rd h.ne.1, ?_, h.res.far (fun e => h.ne.2.2 e.symm) _, h.ne, h.lo, grown_setS h.old h.lo.1⟩
  have := h.out
  unfold SBlk at this ⊢
  simp [World.setCell, Array.getElem?_modify, this]
/-- A structure that is drawn, sometimes one that is not valid. -/
def StrO (b K : Nat) (w : World) (e : Ending) (w' : World) : Prop := ∃ (n : Int) (S R : ByteArray), -1 ≤ n ∧ n ≤ 9223372036854775807 ∧ S.size ≤ 10 ∧ R.size ≤ 100 ∧ e = .returned (strV n S R) ∧ RdB w' b K ∧ w.grownBy w' (some b)
theorem Dst.fin {w : World} {b K g go : Nat} {n : Int} {S R : ByteArray} {wr : World} (h : Dst w b K g go n S R wr) {m : Int} {T U : ByteArray} (m0 : -1 ≤ m) (m1 : m ≤ 9223372036854775807) (hT : T.size ≤ 10) (hU : U.size ≤ 100) :
    SBlk (((wr.setCell ⟨go, 0, none⟩ (.int .i64 m)).setCell ⟨go, 1, none⟩ (.string T)).setCell ⟨go, 2, none⟩ (.string U)) go m T U ∧ StrO b K w (.returned (strV m T U)) (((wr.setCell ⟨go, 0, none⟩ (.int .i64 m)).setCell ⟨go, 1, none⟩ (.string T)).setCell ⟨go, 2, none⟩ (.string U)) :=
  ⟨h.res.set3, m, T, U, m0, m1, hT, hU, rfl, rdB_set (rdB_set (rdB_set h.rd h.ne.2.1) h.ne.2.1) h.ne.2.1, grown_setS (grown_setS (grown_setS h.old h.lo.2) h.lo.2) h.lo.2⟩
set_option maxHeartbeats 4000000 in
theorem l1Bad_any (b K n : Nat) (S R : ByteArray) (h1 : 1 ≤ n) (h5 : n ≤ 5) (hS : S.size = n) (hR : R.size = n * n) (w : World) (h : RdB w b K) (hk : K < 1000000000) :
    Calls Tryz.prog 43 #[.pointer (some ⟨b, 0, none⟩), strV n S R] w (StrO b (K + 2) w) := by
  have hb := h.block
  have hnn : n * n ≤ 25 := Nat.mul_le_mul h5 h5
  have hn1 : 1 ≤ n * n := Nat.mul_le_mul h1 h1
  have HD : Hid (Dst w b K w.heap.size (w.heap.size + 1) (n : Int) S R ((w.alloc (.cells #[.int .i64 (n : Int), .string S, .string R] 24)).alloc (.cells #[.int .i64 0, .string ByteArray.empty, .string ByteArray.empty] 24))) := by
    have hB : Below w.heap.size w (w.alloc (.cells #[.int .i64 (n : Int), .string S, .string R] 24)) := (Below.refl _ _).alloc (Nat.le_refl _) _
    have hB2 := hB.alloc (o := .cells #[.int .i64 0, .string ByteArray.empty, .string ByteArray.empty] 24) hB.size
    refine ⟨rdB_bel h hB2, ?_, ?_, ⟨by omega, by omega, by omega⟩, ⟨Nat.le_refl _, by omega⟩, grown_belowS hB2⟩
    · exact (SBlk.new w (n : Int) S R).below ((Below.refl (w.heap.size + 1) _).alloc (by simp) _) (by simp)
    · have := SBlk.new (w.alloc (.cells #[.int .i64 (n : Int), .string S, .string R] 24)) 0 ByteArray.empty ByteArray.empty
      simpa using this
  clear h
  generalize hgz : w.heap.size = Z at *
  unfold strV
  go_enter Tryz.func43, Tryz.ntmps43
  go_wp2_with fail
  refine (pickB _ b K _ HD.out.rd (by omega) (by omega) (by omega)).mono ?_; rintro e w1 ⟨v, rfl, v0, v1, hr, hg⟩
  have HD1 := Lib.hid (HD.out.pick hr hg)
  clear hr hg HD
  have hnI : (1 : Int) ≤ (n : Int) ∧ (n : Int) ≤ 5 := by omega
  by_cases c0 : v = 0
  · subst c0
    obtain ⟨c0, c1, c2, f0, f1, f2, hbb⟩ := HD1.out.out.cells
    have hwr : IntKind.i64.wrap ((n : Int) + 1) = (n : Int) + 1 := IntWalk.i64_in _ (by omega)
    have HN := Lib.hid (fun T => num_list w1 b (K + 1) [0, -1, (n : Int) + 1, 9, 9223372036854775807] T HD1.out.rd (by omega) (by simp) (by simp))
    go_wp2_with fail
    refine (HN.out _).mono ?_; rintro e w2 ⟨u, hu, rfl, hr, hg⟩
    have hu2 : -1 ≤ u ∧ u ≤ 9223372036854775807 := by
      simp at hu
      rcases hu with rfl | rfl | rfl | rfl | rfl <;> omega
    have HD2 := Lib.hid (HD1.out.pick hr hg)
    have HD3 := Lib.hid (HD2.out.set0 (n' := u))
    clear hr hg hu c0 c1 c2 f0 f1 f2 hbb HN
    obtain ⟨a0, a1, a2, k0, k1, k2, hac⟩ := HD2.out.out.cells
    obtain ⟨c0, c1, c2, f0, f1, f2, hbb⟩ := HD3.out.out.cells
    obtain ⟨d0, d1, d2, g0, g1, g2, hbc⟩ := HD3.out.res.cells
    have HF := Lib.hid (HD3.out.fin (m := u) (T := S) (U := R) hu2.1 hu2.2 (by omega) (by omega))
    go_wp2_with fail
    refine bodyPost_ret (v := strV u S R) ?_ rfl HF.out.2
    exact results_str rfl rfl HF.out.1
  · have c0B : (v == 0) = false := by simpa using c0
    by_cases c1 : v = 1
    · subst c1
      have HD3 := Lib.hid (HD1.out.set1 (S' := S ++ ⟨#[48]⟩))
      obtain ⟨a0, a1, a2, k0, k1, k2, hac⟩ := HD1.out.out.cells
      obtain ⟨c0, c1, c2, f0, f1, f2, hbb⟩ := HD3.out.out.cells
      obtain ⟨d0, d1, d2, g0, g1, g2, hbc⟩ := HD3.out.res.cells
      have hz : ¬ 9223372036854775807 < S.size + (⟨#[48]⟩ : ByteArray).size := by have : (⟨#[48]⟩ : ByteArray).size = 1 := rfl; omega
      have HF := Lib.hid ((HD3.out.mono (K' := K + 2) (by omega)).fin (m := (n : Int)) (T := S ++ ⟨#[48]⟩) (U := R) (by omega) (by omega) (by rw [ByteArray.size_append]; have : (⟨#[48]⟩ : ByteArray).size = 1 := rfl; omega) (by omega))
      go_wp2_with fail
      refine bodyPost_ret (v := strV n (S ++ ⟨#[48]⟩) R) ?_ rfl HF.out.2
      exact results_str rfl rfl HF.out.1
    · have c1B : (v == 1) = false := by simpa using c1
      by_cases c2 : v = 2
      · subst c2
        obtain ⟨a0, a1, a2, k0, k1, k2, hac⟩ := HD1.out.out.cells
        have hwr : IntKind.i64.wrap ((R.size : Int) - 1) = (R.size : Int) - 1 := IntWalk.i64_in _ (by omega)
        have hsl : ∀ wx, (Instr.slice 9 (.string R) none (some (.int .i64 ((R.size : Int) - 1))) none).run Tryz.prog wx = .ok (.string (R.extract 0 (R.size - 1))) wx := fun wx => by
          rw [run_slice_string_to_if wx _ R _ _ Tryz.underlying9, if_pos ⟨by omega, by omega⟩, show ((R.size : Int) - 1).toNat = R.size - 1 by omega]
        have HRD := Lib.hid HD1.out.drew.rd
        have hx : (R.extract 0 (R.size - 1)).size = R.size - 1 := by rw [ByteArray.size_extract]; omega
        have HXS := Lib.hid hx
        generalize R.extract 0 (R.size - 1) = X at *
        clear hx
        have hXz : X.size ≤ 30 := by rw [HXS.out]; omega
        have hRI : (1 : Int) ≤ (R.size : Int) ∧ (R.size : Int) ≤ 25 := by omega
        have HSz := Lib.hid hS
        clear hR hS
        go_upto_region 8 with fail
        go_region_with (first | (go_at_call 81; refine (of_list w1.drew b _ 2 [⟨#[]⟩, ⟨#[50]⟩, ⟨#[48, 49]⟩] _ HRD.out (by omega) (by decide) (by decide) (by intro x hx; simp at hx; rcases hx with rfl | rfl | rfl <;> decide)).mono ?_; rintro e wz ⟨o, o2, rfl, hr, hg⟩; have HD2 := Lib.hid (HD1.out.drew.pick hr hg); clear hr hg; have hz : ¬ 9223372036854775807 < X.size + o.size := (by omega); obtain ⟨b0, b1, b2, m0, m1, m2, hbd⟩ := HD2.out.out.cells))
        all_goals
          have HD3 := Lib.hid (HD2.out.set2 (R' := X ++ o))
          obtain ⟨c0, c1, c2, f0, f1, f2, hbb⟩ := HD3.out.out.cells
          obtain ⟨d0, d1, d2, g0, g1, g2, hbc⟩ := HD3.out.res.cells
          have HF := Lib.hid (HD3.out.fin (m := (n : Int)) (T := S) (U := X ++ o) (by omega) (by omega) (by have := HSz.out; omega) (by rw [ByteArray.size_append]; omega))
          go_wp2_with fail
          refine bodyPost_ret (v := strV n S (X ++ o)) ?_ rfl HF.out.2
          exact results_str rfl rfl HF.out.1
      · have c2B : (v == 2) = false := by simpa using c2
        obtain ⟨a0, a1, a2, k0, k1, k2, hac⟩ := HD1.out.out.cells
        obtain ⟨d0, d1, d2, g0, g1, g2, hbc⟩ := HD1.out.res.cells
        by_cases c3 : v = 3
        · subst c3
          have r0 := rep_size ⟨#[48]⟩ 9
          have r1 := rep_size ⟨#[49]⟩ 81
          have HM0 := Lib.hid (fun W => l15Many_any ⟨#[48]⟩ 9 W (by decide) (by decide))
          have HM1 := Lib.hid (fun W => l15Many_any ⟨#[49]⟩ 81 W (by decide) (by decide))
          generalize rep ⟨#[48]⟩ 9 = T at *
          generalize rep ⟨#[49]⟩ 81 = U at *
          have hT : T.size = 9 := r0
          have hU : U.size = 81 := r1
          have HF := Lib.hid ((HD1.out.mono (K' := K + 2) (by omega)).fin (m := 9) (T := T) (U := U) (by omega) (by omega) (by omega) (by omega))
          go_wp2_with fail
          refine (HM0.out _).mono ?_; rintro e w2 ⟨rfl, hw⟩; rw [← hw]; clear hw
          go_wp2_with fail
          refine (HM1.out _).mono ?_; rintro e w2 ⟨rfl, hw⟩; rw [← hw]; clear hw
          go_wp2_with fail
          refine bodyPost_ret (v := strV 9 T U) ?_ rfl HF.out.2
          exact results_str rfl rfl HF.out.1
        · have c3B : (v == 3) = false := by simpa using c3
          have HF := Lib.hid ((HD1.out.mono (K' := K + 2) (by omega)).fin (m := (n : Int)) (T := S) (U := R) (by omega) (by omega) (by omega) (by omega))
          go_wp2_with fail
          refine bodyPost_ret (v := strV n S R) ?_ rfl HF.out.2
          exact results_str rfl rfl HF.out.1
end Go.Proofs.YtdonjgjkhndfcaaGreatDoor

/- Contracts of the program's functions and what they compute: part 45. Conditions: those that each theorem states. -/
import Derived.Test.YtnhlhjehocngcaaGreatDoorP50n44
import Derived.Test.YtnhlhjehocngcaaGreatDoorP50n1
import Derived.Test.YtnhlhjehocngcaaGreatDoorP50n3
import Derived.Test.YtnhlhjehocngcaaGreatDoorP50n5
import Derived.Test.YtnhlhjehocngcaaGreatDoorP50n41
import Derived.Test.YtnhlhjehocngcaaGreatDoorP50n2
import Derived.Test.YtnhlhjehocngcaaGreatDoorP50n9
import Derived.Test.YtnhlhjehocngcaaGreatDoorP50n12
import Derived.Deep.RegionHeld3
import Derived.Deep.DeepCutAuto
namespace Go.Proofs.YtnhlhjehocngcaaGreatDoor
open Go.RowKit
set_option linter.unusedVariables false
set_option maxRecDepth 100000
set_option maxHeartbeats 4000000 in
theorem l1Some_any (b K : Nat) (w : World) (h : RdB w b K) (hk : K < 10000000000) :
    Calls Tryz.prog 105 #[.pointer (some ⟨b, 0, none⟩)] w fun e w' => ∃ n : Nat, 1 ≤ n ∧ n ≤ 5 ∧ StrD b (K + 61) (n : Int) n (n * n) w e w' := by
  have hb := h.block
  have HB0 : Hid (Below w.heap.size w (w.alloc (.cells #[.int .i64 0, .string ⟨#[]⟩, .string ⟨#[]⟩] 24))) := (Below.refl _ _).alloc (Nat.le_refl _) _
  have HB1 : Hid (SBlk (w.alloc (.cells #[.int .i64 0, .string ⟨#[]⟩, .string ⟨#[]⟩] 24)) w.heap.size 0 ⟨#[]⟩ ⟨#[]⟩) := SBlk.new w 0 ⟨#[]⟩ ⟨#[]⟩
  have HR := Lib.hid (rdB_bel h HB0.out)
  clear h
  obtain ⟨W, hW⟩ : ∃ W, w.alloc (.cells #[.int .i64 0, .string ⟨#[]⟩, .string ⟨#[]⟩] 24) = W := ⟨_, rfl⟩
  have HN := Lib.hid (fun T => num_list W b K [3, 4, 2, 1, 5, 3] T (hW ▸ HR.out) (by omega) (by decide) (by decide))
  have hz : w.heap.size + 1 = W.heap.size := by rw [← hW]; simp
  rw [hW] at HB0 HB1 HR
  have HWW := Lib.hid hW
  have HZ := Lib.hid hz
  clear hW hz
  go_enter Tryz.func105, Tryz.ntmps105
  go_wp2_with fail
  rw [HWW.out, HZ.out]
  refine (HN.out _).mono ?_; rintro e w1 ⟨v, hv, rfl, hr, hg⟩
  have hv' : ∃ n : Nat, v = (n : Int) ∧ 1 ≤ n ∧ n ≤ 5 := by
    simp at hv
    rcases hv with rfl | rfl | rfl | rfl | rfl | rfl
    · exact ⟨3, rfl, by omega, by omega⟩
    · exact ⟨4, rfl, by omega, by omega⟩
    · exact ⟨2, rfl, by omega, by omega⟩
    · exact ⟨1, rfl, by omega, by omega⟩
    · exact ⟨5, rfl, by omega, by omega⟩
    · exact ⟨3, rfl, by omega, by omega⟩
  obtain ⟨n, rfl, n1, n5⟩ := hv'
  clear hv
  have HR1 := Lib.hid hr
  have HG1 := Lib.hid hg
  clear hr hg
  go_wp2_with fail
  refine (l1Draw_any b (K + 1) n n1 n5 w1 HR1.out (by omega)).mono ?_; rintro e w2 ⟨S, R, hS, hR, rfl, hr, hg⟩
  have HR2 := Lib.hid hr
  have HG2 := Lib.hid (HG1.out.trans hg)
  have HX : Hid (SBlk w2 w.heap.size 0 ⟨#[]⟩ ⟨#[]⟩) := (HG2.out.block w.heap.size HB1.out.cells.2.2.2.2.2.2 (by intro e; injection e; omega)).trans HB1.out
  clear hr hg
  obtain ⟨d0, d1, d2, g0, g1, g2, hbc⟩ := HX.out.cells
  have HP : Hid (RdB (((w2.setCell ⟨w.heap.size, 0, none⟩ (.int .i64 (n : Int))).setCell ⟨w.heap.size, 1, none⟩ (.string S)).setCell ⟨w.heap.size, 2, none⟩ (.string R)) b (K + 61) ∧ w.grownBy (((w2.setCell ⟨w.heap.size, 0, none⟩ (.int .i64 (n : Int))).setCell ⟨w.heap.size, 1, none⟩ (.string S)).setCell ⟨w.heap.size, 2, none⟩ (.string R)) (some b)) :=
    ⟨rdB_set (rdB_set (rdB_set (HR2.out.mono (by omega)) hb) hb) hb, grown_setS (grown_setS (grown_setS ((grown_belowS HB0.out).trans HG2.out) (Nat.le_refl _)) (Nat.le_refl _)) (Nat.le_refl _)⟩
  unfold strV
  go_wp2_with fail
  refine bodyPost_ret (v := strV n S R) ?_ rfl ⟨n, n1, n5, S, R, hS, hR, rfl, HP.out.1, HP.out.2⟩
  exact results_str rfl rfl HX.out.set3
theorem Dst.set0 {w : World} {b K g go : Nat} {n n' : Int} {S R : ByteArray} {wr : World} (h : Dst w b K g go n S R wr) : Dst w b K g go n' S R (wr.setCell ⟨g, 0, none⟩ (.int .i64 n')) := by
  refine ⟨rdB_set h.rd h.ne.1, ?_, h.res.far (fun e => h.ne.2.2 e.symm) _, h.ne, h.lo, grown_setS h.old h.lo.1⟩
  have := h.out
  unfold SBlk at this ⊢
  simp [World.setCell, Array.getElem?_modify, this]
/-- A structure that is drawn, sometimes one that is not valid. -/
def StrO (b K : Nat) (w : World) (e : Ending) (w' : World) : Prop := ∃ (n : Int) (S R : ByteArray), -1 ≤ n ∧ n ≤ 9223372036854775807 ∧ S.size ≤ 10 ∧ R.size ≤ 100 ∧ e = .returned (strV n S R) ∧ RdB w' b K ∧ w.grownBy w' (some b)
theorem Dst.fin {w : World} {b K g go : Nat} {n : Int} {S R : ByteArray} {wr : World} (h : Dst w b K g go n S R wr) {m : Int} {T U : ByteArray} (m0 : -1 ≤ m) (m1 : m ≤ 9223372036854775807) (hT : T.size ≤ 10) (hU : U.size ≤ 100) :
    SBlk (((wr.setCell ⟨go, 0, none⟩ (.int .i64 m)).setCell ⟨go, 1, none⟩ (.string T)).setCell ⟨go, 2, none⟩ (.string U)) go m T U ∧ StrO b K w (.returned (strV m T U)) (((wr.setCell ⟨go, 0, none⟩ (.int .i64 m)).setCell ⟨go, 1, none⟩ (.string T)).setCell ⟨go, 2, none⟩ (.string U)) :=
  ⟨h.res.set3, m, T, U, m0, m1, hT, hU, rfl, rdB_set (rdB_set (rdB_set h.rd h.ne.2.1) h.ne.2.1) h.ne.2.1, grown_setS (grown_setS (grown_setS h.old h.lo.2) h.lo.2) h.lo.2⟩
set_option maxHeartbeats 4000000 in
theorem l1Bad_any (b K n : Nat) (S R : ByteArray) (h1 : 1 ≤ n) (h5 : n ≤ 5) (hS : S.size = n) (hR : R.size = n * n) (w : World) (h : RdB w b K) (hk : K < 1000000000) :
    Calls Tryz.prog 58 #[.pointer (some ⟨b, 0, none⟩), strV n S R] w (StrO b (K + 2) w) := by
  have hb := h.block
  have hnn : n * n ≤ 25 := Nat.mul_le_mul h5 h5
  have hn1 : 1 ≤ n * n := Nat.mul_le_mul h1 h1
  have HD : Hid (Dst w b K w.heap.size (w.heap.size + 1) (n : Int) S R ((w.alloc (.cells #[.int .i64 (n : Int), .string S, .string R] 24)).alloc (.cells #[.int .i64 0, .string ByteArray.empty, .string ByteArray.empty] 24))) := by
    have hB : Below w.heap.size w (w.alloc (.cells #[.int .i64 (n : Int), .string S, .string R] 24)) := (Below.refl _ _).alloc (Nat.le_refl _) _
    have hB2 := hB.alloc (o := .cells #[.int .i64 0, .string ByteArray.empty, .string ByteArray.empty] 24) hB.size
    refine ⟨rdB_bel h hB2, ?_, ?_, ⟨by omega, by omega, by omega⟩, ⟨Nat.le_refl _, by omega⟩, grown_belowS hB2⟩
    · exact (SBlk.new w (n : Int) S R).below ((Below.refl (w.heap.size + 1) _).alloc (by simp) _) (by simp)
    · have := SBlk.new (w.alloc (.cells #[.int .i64 (n : Int), .string S, .string R] 24)) 0 ByteArray.empty ByteArray.empty
      simpa using this
  clear h
  generalize hgz : w.heap.size = Z at *
  unfold strV
  go_enter Tryz.func58, Tryz.ntmps58
  go_wp2_with fail
  refine (pickB _ b K _ HD.out.rd (by omega) (by omega) (by omega)).mono ?_; rintro e w1 ⟨v, rfl, v0, v1, hr, hg⟩
  have HD1 := Lib.hid (HD.out.pick hr hg)
  clear hr hg HD
  have hnI : (1 : Int) ≤ (n : Int) ∧ (n : Int) ≤ 5 := by omega
  by_cases c0 : v = 0
  · subst c0
    obtain ⟨c0, c1, c2, f0, f1, f2, hbb⟩ := HD1.out.out.cells
    have hwr : IntKind.i64.wrap ((n : Int) + 1) = (n : Int) + 1 := IntWalk.i64_in _ (by omega)
    have HN := Lib.hid (fun T => num_list w1 b (K + 1) [0, -1, (n : Int) + 1, 9, 9223372036854775807] T HD1.out.rd (by omega) (by simp) (by simp))
    go_wp2_with fail
    refine (HN.out _).mono ?_; rintro e w2 ⟨u, hu, rfl, hr, hg⟩
    have hu2 : -1 ≤ u ∧ u ≤ 9223372036854775807 := by
      simp at hu
      rcases hu with rfl | rfl | rfl | rfl | rfl <;> omega
    have HD2 := Lib.hid (HD1.out.pick hr hg)
    have HD3 := Lib.hid (HD2.out.set0 (n' := u))
    clear hr hg hu c0 c1 c2 f0 f1 f2 hbb HN
    obtain ⟨a0, a1, a2, k0, k1, k2, hac⟩ := HD2.out.out.cells
    obtain ⟨c0, c1, c2, f0, f1, f2, hbb⟩ := HD3.out.out.cells
    obtain ⟨d0, d1, d2, g0, g1, g2, hbc⟩ := HD3.out.res.cells
    have HF := Lib.hid (HD3.out.fin (m := u) (T := S) (U := R) hu2.1 hu2.2 (by omega) (by omega))
    go_wp2_with fail
    refine bodyPost_ret (v := strV u S R) ?_ rfl HF.out.2
    exact results_str rfl rfl HF.out.1
  · have c0B : (v == 0) = false := by simpa using c0
    by_cases c1 : v = 1
    · subst c1
      have HD3 := Lib.hid (HD1.out.set1 (S' := S ++ ⟨#[48]⟩))
      obtain ⟨a0, a1, a2, k0, k1, k2, hac⟩ := HD1.out.out.cells
      obtain ⟨c0, c1, c2, f0, f1, f2, hbb⟩ := HD3.out.out.cells
      obtain ⟨d0, d1, d2, g0, g1, g2, hbc⟩ := HD3.out.res.cells
      have hz : ¬ 9223372036854775807 < S.size + (⟨#[48]⟩ : ByteArray).size := by have : (⟨#[48]⟩ : ByteArray).size = 1 := rfl; omega
      have HF := Lib.hid ((HD3.out.mono (K' := K + 2) (by omega)).fin (m := (n : Int)) (T := S ++ ⟨#[48]⟩) (U := R) (by omega) (by omega) (by rw [ByteArray.size_append]; have : (⟨#[48]⟩ : ByteArray).size = 1 := rfl; omega) (by omega))
      go_wp2_with fail
      refine bodyPost_ret (v := strV n (S ++ ⟨#[48]⟩) R) ?_ rfl HF.out.2
      exact results_str rfl rfl HF.out.1
    · have c1B : (v == 1) = false := by simpa using c1
      by_cases c2 : v = 2
      · subst c2
        obtain ⟨a0, a1, a2, k0, k1, k2, hac⟩ := HD1.out.out.cells
        have hwr : IntKind.i64.wrap ((R.size : Int) - 1) = (R.size : Int) - 1 := IntWalk.i64_in _ (by omega)
        have hsl : ∀ wx, (Instr.slice 9 (.string R) none (some (.int .i64 ((R.size : Int) - 1))) none).run Tryz.prog wx = .ok (.string (R.extract 0 (R.size - 1))) wx := fun wx => by
          rw [run_slice_string_to_if wx _ R _ _ Tryz.underlying9, if_pos ⟨by omega, by omega⟩, show ((R.size : Int) - 1).toNat = R.size - 1 by omega]
        have HRD := Lib.hid HD1.out.drew.rd
        have hx : (R.extract 0 (R.size - 1)).size = R.size - 1 := by rw [ByteArray.size_extract]; omega
        have HXS := Lib.hid hx
        generalize R.extract 0 (R.size - 1) = X at *
        clear hx
        have hXz : X.size ≤ 30 := by rw [HXS.out]; omega
        have hRI : (1 : Int) ≤ (R.size : Int) ∧ (R.size : Int) ≤ 25 := by omega
        have HSz := Lib.hid hS
        clear hR hS
        go_upto_region 8 with fail
        go_region_with (first | (go_at_call 111; refine (of_list w1.drew b _ 2 [⟨#[]⟩, ⟨#[50]⟩, ⟨#[48, 49]⟩] _ HRD.out (by omega) (by decide) (by decide) (by intro x hx; simp at hx; rcases hx with rfl | rfl | rfl <;> decide)).mono ?_; rintro e wz ⟨o, o2, rfl, hr, hg⟩; have HD2 := Lib.hid (HD1.out.drew.pick hr hg); clear hr hg; have hz : ¬ 9223372036854775807 < X.size + o.size := (by omega); obtain ⟨b0, b1, b2, m0, m1, m2, hbd⟩ := HD2.out.out.cells))
        all_goals
          have HD3 := Lib.hid (HD2.out.set2 (R' := X ++ o))
          obtain ⟨c0, c1, c2, f0, f1, f2, hbb⟩ := HD3.out.out.cells
          obtain ⟨d0, d1, d2, g0, g1, g2, hbc⟩ := HD3.out.res.cells
          have HF := Lib.hid (HD3.out.fin (m := (n : Int)) (T := S) (U := X ++ o) (by omega) (by omega) (by have := HSz.out; omega) (by rw [ByteArray.size_append]; omega))
          go_wp2_with fail
          refine bodyPost_ret (v := strV n S (X ++ o)) ?_ rfl HF.out.2
          exact results_str rfl rfl HF.out.1
      · have c2B : (v == 2) = false := by simpa using c2
        obtain ⟨a0, a1, a2, k0, k1, k2, hac⟩ := HD1.out.out.cells
        obtain ⟨d0, d1, d2, g0, g1, g2, hbc⟩ := HD1.out.res.cells
        by_cases c3 : v = 3
        · subst c3
          have r0 := rep_size ⟨#[48]⟩ 9
          have r1 := rep_size ⟨#[49]⟩ 81
          have HM0 := Lib.hid (fun W => l15Many_any ⟨#[48]⟩ 9 W (by decide) (by decide))
          have HM1 := Lib.hid (fun W => l15Many_any ⟨#[49]⟩ 81 W (by decide) (by decide))
          generalize rep ⟨#[48]⟩ 9 = T at *
          generalize rep ⟨#[49]⟩ 81 = U at *
          have hT : T.size = 9 := r0
          have hU : U.size = 81 := r1
          have HF := Lib.hid ((HD1.out.mono (K' := K + 2) (by omega)).fin (m := 9) (T := T) (U := U) (by omega) (by omega) (by omega) (by omega))
          go_wp2_with fail
          refine (HM0.out _).mono ?_; rintro e w2 ⟨rfl, hw⟩; rw [← hw]; clear hw
          go_wp2_with fail
          refine (HM1.out _).mono ?_; rintro e w2 ⟨rfl, hw⟩; rw [← hw]; clear hw
          go_wp2_with fail
          refine bodyPost_ret (v := strV 9 T U) ?_ rfl HF.out.2
          exact results_str rfl rfl HF.out.1
        · have c3B : (v == 3) = false := by simpa using c3
          have HF := Lib.hid ((HD1.out.mono (K' := K + 2) (by omega)).fin (m := (n : Int)) (T := S) (U := R) (by omega) (by omega) (by omega) (by omega))
          go_wp2_with fail
          refine bodyPost_ret (v := strV n S R) ?_ rfl HF.out.2
          exact results_str rfl rfl HF.out.1
end Go.Proofs.YtnhlhjehocngcaaGreatDoor

namespace Go.Proofs.YtnhlhjehocngcaaGreatDoor
open Go.RowKit
set_option linter.unusedVariables false
set_option maxRecDepth 100000
section
variable {w w5 wr w' w3 : World} {F : Nat → Prop} {hb kb n : Nat} {S R : ByteArray} {φ : Fm.T} {p : Nat} {v v' : Value} {L L' : List Nat}
theorem Base.far {G H : Nat → Prop} (h : Base F G wr hb kb n S R) (hw : Off H wr w') (hF : ∀ b, F b → ¬ H b) (hG : ∀ b, G b → ¬ H b) : Base F G w' hb kb n S R :=
  ⟨(hw.block hb h.hold.cells.2.2.2.2 (hF _ h.foot)).trans h.hold, h.foot, h.memo.off hw hF hG, h.hS, h.hR, h.n1, h.n8⟩
end
end Go.Proofs.YtnhlhjehocngcaaGreatDoor
namespace Go.Proofs.YtnhlhjehocngcaaGreatDoor
open Go.RowKit
set_option linter.unusedVariables false
set_option maxRecDepth 100000
/-- The structure of the elements L. -/
def partV (n : Nat) (S R : ByteArray) (L : List Nat) : Value := strV L.length (bitsOf (fun x => oneAt S (L.getD x 0)) L.length) (gridOf (fun x y => relAt n R (L.getD x 0) (L.getD y 0)) L.length)
end Go.Proofs.YtnhlhjehocngcaaGreatDoor

namespace Go.Proofs.YtnhlhjehocngcaaGreatDoor
open Go.RowKit
set_option linter.unusedVariables false
set_option maxRecDepth 100000
/-- What the loops of l1Part keep. -/
structure Pt (w wr : World) (n : Nat) (S R : ByteArray) (m : Nat) (TS TR : ByteArray) : Prop where
  a : SBlk wr w.heap.size n S R
  res : SBlk wr (w.heap.size + 1) 0 ByteArray.empty ByteArray.empty
  out : SBlk wr (w.heap.size + 2) m TS TR
  old : Below w.heap.size w wr
section
variable {w wr w' : World} {n m : Nat} {S R TS TR : ByteArray}
theorem Pt.below (h : Pt w wr n S R m TS TR) (hb : Below wr.heap.size wr w') : Pt w w' n S R m TS TR :=
  ⟨h.a.below hb h.a.cells.2.2.2.2.2.2, h.res.below hb h.res.cells.2.2.2.2.2.2, h.out.below hb h.out.cells.2.2.2.2.2.2, h.old.trans (hb.mono h.old.size)⟩
theorem Pt.drew (h : Pt w wr n S R m TS TR) : Pt w wr.drew n S R m TS TR := ⟨h.a, h.res, h.out, h.old.drew⟩
theorem Pt.set1 (h : Pt w wr n S R m TS TR) (S' : ByteArray) : Pt w (wr.setCell ⟨w.heap.size + 2, 1, none⟩ (.string S')) n S R m S' TR :=
  ⟨h.a.far (by simp) _, h.res.far (by simp) _, h.out.set1, h.old.setCell (by simp) _⟩
theorem Pt.set2 (h : Pt w wr n S R m TS TR) (R' : ByteArray) : Pt w (wr.setCell ⟨w.heap.size + 2, 2, none⟩ (.string R')) n S R m TS R' :=
  ⟨h.a.far (by simp) _, h.res.far (by simp) _, h.out.set2, h.old.setCell (by simp) _⟩
end
set_option maxHeartbeats 2000000 in
theorem l1Part_any (n : Nat) (S R : ByteArray) (L : List Nat) (v : Value) (w : World) (hn : n ≤ 8) (hS : S.size = n) (hR : R.size = n * n) (hl8 : L.length ≤ 8) (hL : ∀ j, j < L.length → L.getD j 0 < n) (hv : NumsAt w v L) :
    Calls Tryz.prog 56 #[strV n S R, v] w fun e w' => e = .returned (partV n S R L) ∧ Below w.heap.size w w' := by
  obtain ⟨m, hm⟩ : ∃ m, L.length = m := ⟨_, rfl⟩
  have HSS : Hid (∀ j, j < m → ∀ W, Calls Tryz.prog 109 #[strV n S R, .int .i64 ((L.getD j 0 : Nat) : Int)] W fun e w' => e = .returned (.bool (oneAt S (L.getD j 0))) ∧ Below W.heap.size W w') := fun j hj W =>
    (l1Set_any n S R (L.getD j 0) W (by rw [hS]; exact hL j (by omega)) (by omega)).mono fun _ _ h => ⟨h.1, by rw [h.2]; exact boxS_below _ _ _ _⟩
  have HRR : Hid (∀ j k, j < m → k < m → ∀ W, Calls Tryz.prog 110 #[strV n S R, .int .i64 ((L.getD j 0 : Nat) : Int), .int .i64 ((L.getD k 0 : Nat) : Int)] W fun e w' => e = .returned (.bool (relAt n R (L.getD j 0) (L.getD k 0))) ∧ Below W.heap.size W w') := fun j k hj hk W =>
    (l1Rel_any n S R (L.getD j 0) (L.getD k 0) W (hL j (by omega)) (hL k (by omega)) hn hR).mono fun _ _ h => ⟨h.1, by rw [h.2]; exact boxS_below _ _ _ _⟩
  have HP0 : Hid (Pt w (((w.alloc (.cells #[.int .i64 (n : Int), .string S, .string R] 24)).alloc (.cells #[.int .i64 0, .string ByteArray.empty, .string ByteArray.empty] 24)).alloc (.cells #[.int .i64 (m : Int), .string ByteArray.empty, .string ByteArray.empty] 24)) n S R m (bitsOf (fun x => oneAt S (L.getD x 0)) 0) (bitsOf (fun k => relAt n R (L.getD (k / m) 0) (L.getD (k % m) 0)) (0 * m))) := by
    have b1 := boxS_below w n S R
    have s1 := boxS_size w n S R
    have h1 := boxS_SBlk w n S R
    have hB : Below (boxS w n S R).heap.size (boxS w n S R) (((boxS w n S R).alloc (.cells #[.int .i64 0, .string ByteArray.empty, .string ByteArray.empty] 24)).alloc (.cells #[.int .i64 (m : Int), .string ByteArray.empty, .string ByteArray.empty] 24)) := ((Below.refl _ _).alloc (Nat.le_refl _) _).alloc (by simp) _
    have h2 := (SBlk.new (boxS w n S R) 0 ByteArray.empty ByteArray.empty).below ((Below.refl _ _).alloc (Nat.le_refl _) (.cells #[.int .i64 (m : Int), .string ByteArray.empty, .string ByteArray.empty] 24)) (by simp)
    have h3 := SBlk.new ((boxS w n S R).alloc (.cells #[.int .i64 0, .string ByteArray.empty, .string ByteArray.empty] 24)) m ByteArray.empty ByteArray.empty
    simp only [World.size_alloc, s1] at h2 h3
    refine ⟨h1.below hB h1.cells.2.2.2.2.2.2, h2, ?_, b1.trans (hB.mono b1.size)⟩
    rw [Nat.zero_mul, bitsOf_zero, bitsOf_zero]
    exact h3
  obtain ⟨a, cap, rfl, l1, l2, l3⟩ := hv.view
  have HC : Hid (0 < m → ∃ g o, a = some ⟨g, o, none⟩ ∧ g < w.heap.size ∧ ∀ j, j < m → w.cell? ⟨g, o + j, none⟩ = some (.int .i64 ((L.getD j 0 : Nat) : Int))) := fun h => by
    rw [← hm] at h ⊢
    exact l3 h
  have HRES : Hid (partV n S R L = strV m (bitsOf (fun x => oneAt S (L.getD x 0)) m) (bitsOf (fun k => relAt n R (L.getD (k / m) 0) (L.getD (k % m) 0)) (m * m))) := by
    show _ = _
    unfold partV gridOf
    rw [hm]
  rw [HRES.out]
  rw [hm] at l1 hl8 ⊢
  clear l3 hv hL HRES hm
  obtain ⟨sx, hsx⟩ : ∃ f : Nat → Bool, (fun x => oneAt S (L.getD x 0)) = f := ⟨_, rfl⟩
  obtain ⟨rx, hrx⟩ : ∃ f : Nat → Nat → Bool, (fun x y => relAt n R (L.getD x 0) (L.getD y 0)) = f := ⟨_, rfl⟩
  have hrk : (fun k => relAt n R (L.getD (k / m) 0) (L.getD (k % m) 0)) = fun k => rx (k / m) (k % m) := by rw [← hrx]
  have hs1 : ∀ x, oneAt S (L.getD x 0) = sx x := fun x => by rw [← hsx]
  have hr1 : ∀ x y, relAt n R (L.getD x 0) (L.getD y 0) = rx x y := fun x y => by rw [← hrx]
  rw [hsx, hrk] at HP0 ⊢
  simp only [hs1] at HSS
  simp only [hr1] at HRR
  clear hsx hrx hrk hs1 hr1
  unfold maxLen at l2
  have HBIT : Hid (∀ b W, Calls Tryz.prog 91 #[.bool b] W fun e w' => e = .returned (.string (bitS b)) ∧ Below W.heap.size W w') := fun b W => (l1Bit_any b W).mono fun _ _ h => ⟨h.1, by rw [← h.2]; exact Below.refl _ _⟩
  unfold strV at HSS HRR
  unfold strV
  go_enter Tryz.func56, Tryz.ntmps56
  go_wp2_with fail
  go_loopw [7, 6] (fun _ i wr => ∃ x : Nat, x ≤ m ∧ i = .int .i64 (x : Int) ∧ Hid (Pt w wr n S R m (bitsOf sx x) (bitsOf (fun k => rx (k / m) (k % m)) (x * m)))) (fun _ i _ => m - (intOf i).toNat)
  case atStart => exact ⟨0, by omega, rfl, HP0.out⟩
  case round =>
    obtain ⟨x, hx, rfl, HI⟩ := hrel
    by_cases hlt : x < m
    · obtain ⟨c0, c1', c2', f0, f1, f2, hb⟩ := HI.out.out.cells
      obtain ⟨a0, a1, a2, _, _, _, ha⟩ := HI.out.a.cells
      obtain ⟨g, o, rfl, hg, hc⟩ := HC.out (by omega)
      have d1 := (HI.out.old.cell (p := ⟨g, o + x, none⟩) hg).trans (hc x hlt)
      have z0 : (bitsOf sx x).size ≤ 8 := by rw [bitsOf_size]; omega
      have z1 : (bitS (sx x)).size ≤ 1 := Nat.le_refl _
      have HS1 := Lib.hid (HSS.out x hlt)
      have HG := Lib.hid (bitsOf_succ sx x)
      have HCC := Lib.hid hc
      clear hc HC
      generalize sx x = bt at *
      generalize L.getD x 0 = ex at *
      go_wp2_with fail
      go_upto_region 5 with fail
      go_cut [] (fun wx => Pt w wx n S R m (bitsOf sx x ++ bitS bt) (bitsOf (fun k => rx (k / m) (k % m)) (x * m)))
      case first =>
        have hz : ¬ 9223372036854775807 < (bitsOf sx x).size + (bitS bt).size := by omega
        have q0 := fun s => Since.cell c1' s
        have q1 := fun s => Since.cell a0 s
        have q2 := fun s => Since.cell a1 s
        have q3 := fun s => Since.cell a2 s
        have q4 := fun s => Since.cell d1 s
        refine wp_region_since_tail 10 (by kernel_rfl) (by kernel_rfl) ?_
        simp only [List.take_succ_cons, List.take_zero, List.drop_succ_cons, List.drop_zero]
        repeat (go_big_quiet_step (first | (with_reducible exact Since.call (HS1.out _)) | (with_reducible exact Since.call (HBIT.out bt _))))
        refine wpQuiet_nil ?_
        intro w1 hb1
        have HI1 := Lib.hid (HI.out.below hb1)
        obtain ⟨i0, i1, i2, j0, j1, j2, hbb⟩ := HI1.out.out.cells
        clear hb1 q0 q1 q2 q3 q4 hz
        go_wp2_with fail
        go_meet
        exact HI1.out.set1 _
      case rest =>
        have HI := Lib.hid hcut; clear hcut c0 c1' c2' f0 f1 f2 hb a0 a1 a2 ha d1
        rw [← HG.out] at HI
        clear z0 z1 HS1 HG
        go_wp2_with fail
        go_loopw [7] (fun j wr => ∃ y : Nat, y ≤ m ∧ j = .int .i64 (y : Int) ∧ Hid (Pt w wr n S R m (bitsOf sx (x + 1)) (bitsOf (fun k => rx (k / m) (k % m)) (x * m + y)))) (fun j _ => m - (intOf j).toNat)
        case atStart => exact ⟨0, by omega, rfl, HI.out⟩
        case round =>
          obtain ⟨y, hy, rfl, HJ⟩ := hrel
          by_cases hlt2 : y < m
          · obtain ⟨c0, c1', c2', f0, f1, f2, hb⟩ := HJ.out.out.cells
            obtain ⟨a0, a1, a2, _, _, _, ha⟩ := HJ.out.a.cells
            have d1 := (HJ.out.old.cell (p := ⟨g, o + x, none⟩) hg).trans (HCC.out x hlt)
            have d2 := (HJ.out.old.cell (p := ⟨g, o + y, none⟩) hg).trans (HCC.out y hlt2)
            have hxy : x * m + y ≤ 64 := by
              have h1 : x * m ≤ 7 * 8 := Nat.mul_le_mul (by omega) hl8
              omega
            have z0 : (bitsOf (fun k => rx (k / m) (k % m)) (x * m + y)).size ≤ 64 := by rw [bitsOf_size]; exact hxy
            have z1 : (bitS (rx x y)).size ≤ 1 := Nat.le_refl _
            have HG : Hid (bitsOf (fun k => rx (k / m) (k % m)) (x * m + (y + 1)) = bitsOf (fun k => rx (k / m) (k % m)) (x * m + y) ++ bitS (rx x y)) := by
              show bitsOf (fun k => rx (k / m) (k % m)) (x * m + y + 1) = _
              rw [bitsOf_succ]
              exact congrArg (fun b => bitsOf (fun k => rx (k / m) (k % m)) (x * m + y) ++ bitS b) (grid_at (r := rx) (x := x) hlt2)
            have HR1 := Lib.hid (HRR.out x y hlt hlt2)
            clear hxy
            generalize bitsOf (fun k => rx (k / m) (k % m)) (x * m + y) = G at *
            generalize rx x y = bt at *
            generalize L.getD x 0 = ex at *
            generalize L.getD y 0 = ey at *
            go_wp2_with fail
            have hz : ¬ 9223372036854775807 < G.size + (bitS bt).size := by omega
            have q0 := fun s => Since.cell c2' s
            have q1 := fun s => Since.cell a0 s
            have q2 := fun s => Since.cell a1 s
            have q3 := fun s => Since.cell a2 s
            have q4 := fun s => Since.cell d1 s
            have q5 := fun s => Since.cell d2 s
            refine wp_region_since_tail 14 (by kernel_rfl) (by kernel_rfl) ?_
            simp only [List.take_succ_cons, List.take_zero, List.drop_succ_cons, List.drop_zero]
            repeat (go_big_quiet_step (first | (with_reducible exact Since.call (HR1.out _)) | (with_reducible exact Since.call (HBIT.out bt _))))
            refine wpQuiet_nil ?_
            intro w1 hb1
            have HI1 := Lib.hid (HJ.out.below hb1)
            obtain ⟨i0, i1, i2, j0, j1, j2, hbb⟩ := HI1.out.out.cells
            have HI2 := Lib.hid (HI1.out.set2 (G ++ bitS bt))
            clear hb1 q0 q1 q2 q3 q4 q5 hz
            go_wp2_with fail
            go_roundw
            case rel =>
              refine ⟨y + 1, by omega, by go_num, ?_⟩
              rw [HG.out]
              exact HI2.out
            case measure => simp [intOf]; omega
          · have HI2 : Hid (Pt w wr n S R m (bitsOf sx (x + 1)) (bitsOf (fun k => rx (k / m) (k % m)) ((x + 1) * m))) := by
              have h := HJ.out
              rw [show x * m + y = (x + 1) * m by rw [Nat.add_mul, Nat.one_mul]; omega] at h
              exact h
            go_wp2_with fail
            go_roundw
            case rel => exact ⟨x + 1, by omega, by go_num, HI2.out⟩
            case measure => simp [intOf]; omega
    · have HE : Hid (Pt w wr n S R m (bitsOf sx m) (bitsOf (fun k => rx (k / m) (k % m)) (m * m))) := by
        have h := HI.out
        rw [show x = m by omega] at h
        exact h
      obtain ⟨c0, c1', c2', f0, f1, f2, hb⟩ := HE.out.out.cells
      obtain ⟨d0, d1, d2, g0, g1, g2, hb'⟩ := HE.out.res.cells
      clear HI
      go_wp2_with fail
      refine bodyPost_ret (v := strV m (bitsOf sx m) (bitsOf (fun k => rx (k / m) (k % m)) (m * m))) ?_ rfl ⟨rfl, ?_⟩
      · exact results_str rfl rfl HE.out.res.set3
      · exact ((HE.out.old.setCell (by simp) _).setCell (by simp) _).setCell (by simp) _
end Go.Proofs.YtnhlhjehocngcaaGreatDoor

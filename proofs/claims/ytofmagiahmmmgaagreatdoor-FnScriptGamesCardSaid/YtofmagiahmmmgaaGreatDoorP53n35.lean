/- Contracts of the program's functions and what they compute: part 35. Conditions: those that each theorem states. -/
import Derived.Test.YtofmagiahmmmgaaGreatDoorP53n3
import Derived.Test.YtofmagiahmmmgaaGreatDoorP53n4
import Derived.Test.YtofmagiahmmmgaaGreatDoorP53n14
import Derived.Test.YtofmagiahmmmgaaGreatDoorP53n17
import Derived.Test.YtofmagiahmmmgaaGreatDoorP53n34
import Derived.Deep.RegionHeld3
namespace Go.Proofs.YtofmagiahmmmgaaGreatDoor
open Go.RowKit
set_option linter.unusedVariables false
set_option maxRecDepth 100000
/-- What the loops of l1Part keep. -/
structure Pt (w wr : World) (n : Nat) (S R : ByteArray) (m : Nat) (TS TR : ByteArray) : Prop where
  a : SBlk wr w.heap.size n S R
  res : SBlk wr (w.heap.size + 1) 0 ByteArray.empty ByteArray.empty
  out : SBlk wr (w.heap.size + 2) m TS TR
  old : Below w.heap.size w wr
section
variable {w wr w' : World} {n m : Nat} {S R TS TR : ByteArray}
theorem Pt.below (h : Pt w wr n S R m TS TR) (hb : Below wr.heap.size wr w') : Pt w w' n S R m TS TR :=
  ⟨h.a.below hb h.a.cells.2.2.2.2.2.2, h.res.below hb h.res.cells.2.2.2.2.2.2, h.out.below hb h.out.cells.2.2.2.2.2.2, h.old.trans (hb.mono h.old.size)⟩
theorem Pt.drew (h : Pt w wr n S R m TS TR) : Pt w wr.drew n S R m TS TR := ⟨h.a, h.res, h.out, h.old.drew⟩
theorem Pt.set1 (h : Pt w wr n S R m TS TR) (S' : ByteArray) : Pt w (wr.setCell ⟨w.heap.size + 2, 1, none⟩ (.string S')) n S R m S' TR :=
  ⟨h.a.far (by simp) _, h.res.far (by simp) _, h.out.set1, h.old.setCell (by simp) _⟩
theorem Pt.set2 (h : Pt w wr n S R m TS TR) (R' : ByteArray) : Pt w (wr.setCell ⟨w.heap.size + 2, 2, none⟩ (.string R')) n S R m TS R' :=
  ⟨h.a.far (by simp) _, h.res.far (by simp) _, h.out.set2, h.old.setCell (by simp) _⟩
end
set_option maxHeartbeats 2000000 in
theorem l1Part_any (n : Nat) (S R : ByteArray) (L : List Nat) (v : Value) (w : World) (hn : n ≤ 8) (hS : S.size = n) (hR : R.size = n * n) (hl8 : L.length ≤ 8) (hL : ∀ j, j < L.length → L.getD j 0 < n) (hv : NumsAt w v L) :
    Calls Tryz.prog 36 #[strV n S R, v] w fun e w' => e = .returned (partV n S R L) ∧ Below w.heap.size w w' := by
  obtain ⟨m, hm⟩ : ∃ m, L.length = m := ⟨_, rfl⟩
  have HSS : Hid (∀ j, j < m → ∀ W, Calls Tryz.prog 84 #[strV n S R, .int .i64 ((L.getD j 0 : Nat) : Int)] W fun e w' => e = .returned (.bool (oneAt S (L.getD j 0))) ∧ Below W.heap.size W w') := fun j hj W =>
    (l1Set_any n S R (L.getD j 0) W (by rw [hS]; exact hL j (by omega)) (by omega)).mono fun _ _ h => ⟨h.1, by rw [h.2]; exact boxS_below _ _ _ _⟩
  have HRR : Hid (∀ j k, j < m → k < m → ∀ W, Calls Tryz.prog 85 #[strV n S R, .int .i64 ((L.getD j 0 : Nat) : Int), .int .i64 ((L.getD k 0 : Nat) : Int)] W fun e w' => e = .returned (.bool (relAt n R (L.getD j 0) (L.getD k 0))) ∧ Below W.heap.size W w') := fun j k hj hk W =>
    (l1Rel_any n S R (L.getD j 0) (L.getD k 0) W (hL j (by omega)) (hL k (by omega)) hn hR).mono fun _ _ h => ⟨h.1, by rw [h.2]; exact boxS_below _ _ _ _⟩
  have HP0 : Hid (Pt w (((w.alloc (.cells #[.int .i64 (n : Int), .string S, .string R] 24)).alloc (.cells #[.int .i64 0, .string ByteArray.empty, .string ByteArray.empty] 24)).alloc (.cells #[.int .i64 (m : Int), .string ByteArray.empty, .string ByteArray.empty] 24)) n S R m (bitsOf (fun x => oneAt S (L.getD x 0)) 0) (bitsOf (fun k => relAt n R (L.getD (k / m) 0) (L.getD (k % m) 0)) (0 * m))) := by
    have b1 := boxS_below w n S R
    have s1 := boxS_size w n S R
    have h1 := boxS_SBlk w n S R
    have hB : Below (boxS w n S R).heap.size (boxS w n S R) (((boxS w n S R).alloc (.cells #[.int .i64 0, .string ByteArray.empty, .string ByteArray.empty] 24)).alloc (.cells #[.int .i64 (m : Int), .string ByteArray.empty, .string ByteArray.empty] 24)) := ((Below.refl _ _).alloc (Nat.le_refl _) _).alloc (by simp) _
    have h2 := (SBlk.new (boxS w n S R) 0 ByteArray.empty ByteArray.empty).below ((Below.refl _ _).alloc (Nat.le_refl _) (.cells #[.int .i64 (m : Int), .string ByteArray.empty, .string ByteArray.empty] 24)) (by simp)
    have h3 := SBlk.new ((boxS w n S R).alloc (.cells #[.int .i64 0, .string ByteArray.empty, .string ByteArray.empty] 24)) m ByteArray.empty ByteArray.empty
    simp only [World.size_alloc, s1] at h2 h3
    refine ⟨h1.below hB h1.cells.2.2.2.2.2.2, h2, ?_, b1.trans (hB.mono b1.size)⟩
    rw [Nat.zero_mul, bitsOf_zero, bitsOf_zero]
    exact h3
  obtain ⟨a, cap, rfl, l1, l2, l3⟩ := hv.view
  have HC : Hid (0 < m → ∃ g o, a = some ⟨g, o, none⟩ ∧ g < w.heap.size ∧ ∀ j, j < m → w.cell? ⟨g, o + j, none⟩ = some (.int .i64 ((L.getD j 0 : Nat) : Int))) := fun h => by
    rw [← hm] at h ⊢
    exact l3 h
  have HRES : Hid (partV n S R L = strV m (bitsOf (fun x => oneAt S (L.getD x 0)) m) (bitsOf (fun k => relAt n R (L.getD (k / m) 0) (L.getD (k % m) 0)) (m * m))) := by
    show _ = _
    unfold partV gridOf
    rw [hm]
  rw [HRES.out]
  rw [hm] at l1 hl8 ⊢
  clear l3 hv hL HRES hm
  obtain ⟨sx, hsx⟩ : ∃ f : Nat → Bool, (fun x => oneAt S (L.getD x 0)) = f := ⟨_, rfl⟩
  obtain ⟨rx, hrx⟩ : ∃ f : Nat → Nat → Bool, (fun x y => relAt n R (L.getD x 0) (L.getD y 0)) = f := ⟨_, rfl⟩
  have hrk : (fun k => relAt n R (L.getD (k / m) 0) (L.getD (k % m) 0)) = fun k => rx (k / m) (k % m) := by rw [← hrx]
  have hs1 : ∀ x, oneAt S (L.getD x 0) = sx x := fun x => by rw [← hsx]
  have hr1 : ∀ x y, relAt n R (L.getD x 0) (L.getD y 0) = rx x y := fun x y => by rw [← hrx]
  rw [hsx, hrk] at HP0 ⊢
  simp only [hs1] at HSS
  simp only [hr1] at HRR
  clear hsx hrx hrk hs1 hr1
  unfold maxLen at l2
  have HBIT : Hid (∀ b W, Calls Tryz.prog 83 #[.bool b] W fun e w' => e = .returned (.string (bitS b)) ∧ Below W.heap.size W w') := fun b W => (l1Bit_any b W).mono fun _ _ h => ⟨h.1, by rw [← h.2]; exact Below.refl _ _⟩
  unfold strV at HSS HRR
  unfold strV
  go_enter Tryz.func36, Tryz.ntmps36
  go_wp2_with fail
  go_loopw [7, 6] (fun _ i wr => ∃ x : Nat, x ≤ m ∧ i = .int .i64 (x : Int) ∧ Hid (Pt w wr n S R m (bitsOf sx x) (bitsOf (fun k => rx (k / m) (k % m)) (x * m)))) (fun _ i _ => m - (intOf i).toNat)
  case atStart => exact ⟨0, by omega, rfl, HP0.out⟩
  case round =>
    obtain ⟨x, hx, rfl, HI⟩ := hrel
    by_cases hlt : x < m
    · obtain ⟨c0, c1', c2', f0, f1, f2, hb⟩ := HI.out.out.cells
      obtain ⟨a0, a1, a2, _, _, _, ha⟩ := HI.out.a.cells
      obtain ⟨g, o, rfl, hg, hc⟩ := HC.out (by omega)
      have d1 := (HI.out.old.cell (p := ⟨g, o + x, none⟩) hg).trans (hc x hlt)
      have z0 : (bitsOf sx x).size ≤ 8 := by rw [bitsOf_size]; omega
      have z1 : (bitS (sx x)).size ≤ 1 := Nat.le_refl _
      have HS1 := Lib.hid (HSS.out x hlt)
      have HG := Lib.hid (bitsOf_succ sx x)
      have HCC := Lib.hid hc
      clear hc HC
      generalize sx x = bt at *
      generalize L.getD x 0 = ex at *
      go_wp2_with fail
      go_upto_region 5 with fail
      go_cut [] (fun wx => Pt w wx n S R m (bitsOf sx x ++ bitS bt) (bitsOf (fun k => rx (k / m) (k % m)) (x * m)))
      case first =>
        have hz : ¬ 9223372036854775807 < (bitsOf sx x).size + (bitS bt).size := by omega
        have q0 := fun s => Since.cell c1' s
        have q1 := fun s => Since.cell a0 s
        have q2 := fun s => Since.cell a1 s
        have q3 := fun s => Since.cell a2 s
        have q4 := fun s => Since.cell d1 s
        refine wp_region_since_tail 10 (by kernel_rfl) (by kernel_rfl) ?_
        simp only [List.take_succ_cons, List.take_zero, List.drop_succ_cons, List.drop_zero]
        repeat (go_big_quiet_step (first | (with_reducible exact Since.call (HS1.out _)) | (with_reducible exact Since.call (HBIT.out bt _))))
        refine wpQuiet_nil ?_
        intro w1 hb1
        have HI1 := Lib.hid (HI.out.below hb1)
        obtain ⟨i0, i1, i2, j0, j1, j2, hbb⟩ := HI1.out.out.cells
        clear hb1 q0 q1 q2 q3 q4 hz
        go_wp2_with fail
        go_meet
        exact HI1.out.set1 _
      case rest =>
        have HI := Lib.hid hcut; clear hcut c0 c1' c2' f0 f1 f2 hb a0 a1 a2 ha d1
        rw [← HG.out] at HI
        clear z0 z1 HS1 HG
        go_wp2_with fail
        go_loopw [7] (fun j wr => ∃ y : Nat, y ≤ m ∧ j = .int .i64 (y : Int) ∧ Hid (Pt w wr n S R m (bitsOf sx (x + 1)) (bitsOf (fun k => rx (k / m) (k % m)) (x * m + y)))) (fun j _ => m - (intOf j).toNat)
        case atStart => exact ⟨0, by omega, rfl, HI.out⟩
        case round =>
          obtain ⟨y, hy, rfl, HJ⟩ := hrel
          by_cases hlt2 : y < m
          · obtain ⟨c0, c1', c2', f0, f1, f2, hb⟩ := HJ.out.out.cells
            obtain ⟨a0, a1, a2, _, _, _, ha⟩ := HJ.out.a.cells
            have d1 := (HJ.out.old.cell (p := ⟨g, o + x, none⟩) hg).trans (HCC.out x hlt)
            have d2 := (HJ.out.old.cell (p := ⟨g, o + y, none⟩) hg).trans (HCC.out y hlt2)
            have hxy : x * m + y ≤ 64 := by
              have h1 : x * m ≤ 7 * 8 := Nat.mul_le_mul (by omega) hl8
              omega
            have z0 : (bitsOf (fun k => rx (k / m) (k % m)) (x * m + y)).size ≤ 64 := by rw [bitsOf_size]; exact hxy
            have z1 : (bitS (rx x y)).size ≤ 1 := Nat.le_refl _
            have HG : Hid (bitsOf (fun k => rx (k / m) (k % m)) (x * m + (y + 1)) = bitsOf (fun k => rx (k / m) (k % m)) (x * m + y) ++ bitS (rx x y)) := by
              show bitsOf (fun k => rx (k / m) (k % m)) (x * m + y + 1) = _
              rw [bitsOf_succ]
              exact congrArg (fun b => bitsOf (fun k => rx (k / m) (k % m)) (x * m + y) ++ bitS b) (grid_at (r := rx) (x := x) hlt2)
            have HR1 := Lib.hid (HRR.out x y hlt hlt2)
            clear hxy
            generalize bitsOf (fun k => rx (k / m) (k % m)) (x * m + y) = G at *
            generalize rx x y = bt at *
            generalize L.getD x 0 = ex at *
            generalize L.getD y 0 = ey at *
            go_wp2_with fail
            have hz : ¬ 9223372036854775807 < G.size + (bitS bt).size := by omega
            have q0 := fun s => Since.cell c2' s
            have q1 := fun s => Since.cell a0 s
            have q2 := fun s => Since.cell a1 s
            have q3 := fun s => Since.cell a2 s
            have q4 := fun s => Since.cell d1 s
            have q5 := fun s => Since.cell d2 s
            refine wp_region_since_tail 14 (by kernel_rfl) (by kernel_rfl) ?_
            simp only [List.take_succ_cons, List.take_zero, List.drop_succ_cons, List.drop_zero]
            repeat (go_big_quiet_step (first | (with_reducible exact Since.call (HR1.out _)) | (with_reducible exact Since.call (HBIT.out bt _))))
            refine wpQuiet_nil ?_
            intro w1 hb1
            have HI1 := Lib.hid (HJ.out.below hb1)
            obtain ⟨i0, i1, i2, j0, j1, j2, hbb⟩ := HI1.out.out.cells
            have HI2 := Lib.hid (HI1.out.set2 (G ++ bitS bt))
            clear hb1 q0 q1 q2 q3 q4 q5 hz
            go_wp2_with fail
            go_roundw
            case rel =>
              refine ⟨y + 1, by omega, by go_num, ?_⟩
              rw [HG.out]
              exact HI2.out
            case measure => simp [intOf]; omega
          · have HI2 : Hid (Pt w wr n S R m (bitsOf sx (x + 1)) (bitsOf (fun k => rx (k / m) (k % m)) ((x + 1) * m))) := by
              have h := HJ.out
              rw [show x * m + y = (x + 1) * m by rw [Nat.add_mul, Nat.one_mul]; omega] at h
              exact h
            go_wp2_with fail
            go_roundw
            case rel => exact ⟨x + 1, by omega, by go_num, HI2.out⟩
            case measure => simp [intOf]; omega
    · have HE : Hid (Pt w wr n S R m (bitsOf sx m) (bitsOf (fun k => rx (k / m) (k % m)) (m * m))) := by
        have h := HI.out
        rw [show x = m by omega] at h
        exact h
      obtain ⟨c0, c1', c2', f0, f1, f2, hb⟩ := HE.out.out.cells
      obtain ⟨d0, d1, d2, g0, g1, g2, hb'⟩ := HE.out.res.cells
      clear HI
      go_wp2_with fail
      refine bodyPost_ret (v := strV m (bitsOf sx m) (bitsOf (fun k => rx (k / m) (k % m)) (m * m))) ?_ rfl ⟨rfl, ?_⟩
      · exact results_str rfl rfl HE.out.res.set3
      · exact ((HE.out.old.setCell (by simp) _).setCell (by simp) _).setCell (by simp) _
end Go.Proofs.YtofmagiahmmmgaaGreatDoor

namespace Go.Proofs.YtofmagiahmmmgaaGreatDoor
open Go.RowKit
set_option linter.unusedVariables false
set_option maxRecDepth 100000
/-- The reader, the two results and the first structure. -/
structure Pr (w : World) (b K x : Nat) (n : Int) (S R : ByteArray) (n1 : Int) (S1 R1 : ByteArray) (n2 : Int) (S2 R2 : ByteArray) (wr : World) : Prop where
  rd : RdB wr b K
  r1 : SBlk wr w.heap.size n1 S1 R1
  r2 : SBlk wr (w.heap.size + 1) n2 S2 R2
  a : SBlk wr x n S R
  ne : b < w.heap.size ∧ w.heap.size + 1 < x
  old : w.grownBy wr (some b)
section
variable {w wr w' : World} {b K K' x : Nat} {n n1 n2 m : Int} {S R S1 R1 S2 R2 T U : ByteArray}
theorem SBlk.grown {w w' : World} {b g : Nat} {n : Int} {S R : ByteArray} (h : SBlk w g n S R) (hg : w.grownBy w' (some b)) (hne : g ≠ b) : SBlk w' g n S R :=
  (hg.block g h.cells.2.2.2.2.2.2 (by intro e; injection e with e; exact hne e)).trans h
theorem Pr.pick (h : Pr w b K x n S R n1 S1 R1 n2 S2 R2 wr) (hr : RdB w' b K') (hg : wr.grownBy w' (some b)) : Pr w b K' x n S R n1 S1 R1 n2 S2 R2 w' :=
  ⟨hr, h.r1.grown hg (by have := h.ne; omega), h.r2.grown hg (by have := h.ne; omega), h.a.grown hg (by have := h.ne; omega), h.ne, h.old.trans hg⟩
theorem Pr.below (h : Pr w b K x n S R n1 S1 R1 n2 S2 R2 wr) (hb : Below wr.heap.size wr w') : Pr w b K x n S R n1 S1 R1 n2 S2 R2 w' :=
  h.pick (h.rd.grown (grown_belowS hb)) (grown_belowS hb)
theorem Pr.drew (h : Pr w b K x n S R n1 S1 R1 n2 S2 R2 wr) : Pr w b K x n S R n1 S1 R1 n2 S2 R2 wr.drew := h.below (Below.refl _ _).drew
theorem Pr.mono (h : Pr w b K x n S R n1 S1 R1 n2 S2 R2 wr) (hK : K ≤ K') : Pr w b K' x n S R n1 S1 R1 n2 S2 R2 wr := ⟨h.rd.mono hK, h.r1, h.r2, h.a, h.ne, h.old⟩
theorem Pr.s1 (h : Pr w b K x n S R n1 S1 R1 n2 S2 R2 wr) (m : Int) (T U : ByteArray) : Pr w b K x n S R m T U n2 S2 R2 (((wr.setCell ⟨w.heap.size, 0, none⟩ (.int .i64 m)).setCell ⟨w.heap.size, 1, none⟩ (.string T)).setCell ⟨w.heap.size, 2, none⟩ (.string U)) := by
  have hne := h.ne
  exact ⟨rdB_set (rdB_set (rdB_set h.rd hne.1) hne.1) hne.1, h.r1.set3, ((h.r2.far (by simp) _).far (by simp) _).far (by simp) _, ((h.a.far (by simp; omega) _).far (by simp; omega) _).far (by simp; omega) _, hne, grown_setS (grown_setS (grown_setS h.old (Nat.le_refl _)) (Nat.le_refl _)) (Nat.le_refl _)⟩
theorem Pr.s2 (h : Pr w b K x n S R n1 S1 R1 n2 S2 R2 wr) (m : Int) (T U : ByteArray) : Pr w b K x n S R n1 S1 R1 m T U (((wr.setCell ⟨w.heap.size + 1, 0, none⟩ (.int .i64 m)).setCell ⟨w.heap.size + 1, 1, none⟩ (.string T)).setCell ⟨w.heap.size + 1, 2, none⟩ (.string U)) := by
  have hne := h.ne
  have hl : b < w.heap.size + 1 := by omega
  exact ⟨rdB_set (rdB_set (rdB_set h.rd hl) hl) hl, ((h.r1.far (by simp) _).far (by simp) _).far (by simp) _, h.r2.set3, ((h.a.far (by simp; omega) _).far (by simp; omega) _).far (by simp; omega) _, hne, grown_setS (grown_setS (grown_setS h.old (Nat.le_succ _)) (Nat.le_succ _)) (Nat.le_succ _)⟩
theorem Pr.s5 (h : Pr w b K x n S R n1 S1 R1 n2 S2 R2 wr) {y : Nat} (hy : w.heap.size + 1 < y) (hyx : y ≠ x) (m : Int) (T U : ByteArray) : Pr w b K x n S R n1 S1 R1 n2 S2 R2 (((wr.setCell ⟨y, 0, none⟩ (.int .i64 m)).setCell ⟨y, 1, none⟩ (.string T)).setCell ⟨y, 2, none⟩ (.string U)) := by
  have hne := h.ne
  have hl : b < y := by omega
  have hle : w.heap.size ≤ y := by omega
  exact ⟨rdB_set (rdB_set (rdB_set h.rd hl) hl) hl, ((h.r1.far (by simp; omega) _).far (by simp; omega) _).far (by simp; omega) _, ((h.r2.far (by simp; omega) _).far (by simp; omega) _).far (by simp; omega) _, ((h.a.far (by simp; omega) _).far (by simp; omega) _).far (by simp; omega) _, hne, grown_setS (grown_setS (grown_setS h.old hle) hle) hle⟩
theorem Pr.s51 (h : Pr w b K x n S R n1 S1 R1 n2 S2 R2 wr) {y : Nat} (hy : w.heap.size + 1 < y) (hyx : y ≠ x) (U : ByteArray) : Pr w b K x n S R n1 S1 R1 n2 S2 R2 (wr.setCell ⟨y, 2, none⟩ (.string U)) := by
  have hne := h.ne
  exact ⟨rdB_set h.rd (by omega), h.r1.far (by simp; omega) _, h.r2.far (by simp; omega) _, h.a.far (by simp; omega) _, hne, grown_setS h.old (by omega)⟩
end
/-- Two structures that are drawn. -/
def PairO (b K : Nat) (w : World) (e : Ending) (w' : World) : Prop := ∃ (n m : Nat) (S R T U : ByteArray), 1 ≤ n ∧ n ≤ 5 ∧ 1 ≤ m ∧ m ≤ 5 ∧ S.size = n ∧ R.size = n * n ∧ T.size = m ∧ U.size = m * m ∧ e = .returned (.tuple #[strV n S R, strV m T U]) ∧ RdB w' b K ∧ w.grownBy w' (some b)
theorem results_two {fn : Func} {p q : Tmp} (h : fn.results = #[.cell p 24, .cell q 24]) {tmps : Array Value} {w : World} {b c : Nat} {n m : Int} {S R T U : ByteArray} (hp : tmps.getD p undef = .pointer (some ⟨b, 0, none⟩)) (hb : SBlk w b n S R) (hq : tmps.getD q undef = .pointer (some ⟨c, 0, none⟩)) (hc : SBlk w c m T U) :
    (results fn tmps).run Tryz.prog w = .ok (.tuple #[strV n S R, strV m T U]) w := by
  have hl := run_loadVar_row (P := Tryz.prog) w b 24 24 #[.int .i64 n, .string S, .string R] (0, 0) _ hb Tryz.underlying24 rfl strInfo
  have hl2 := run_loadVar_row (P := Tryz.prog) w c 24 24 #[.int .i64 m, .string T, .string U] (0, 0) _ hc Tryz.underlying24 rfl strInfo
  have hp' : tmps[p]?.getD undef = .pointer (some ⟨b, 0, none⟩) := by simpa using hp
  have hq' : tmps[q]?.getD undef = .pointer (some ⟨c, 0, none⟩) := by simpa using hq
  simp [results, h, hp', hq', asAddr, Sem.run_bind, Result.andThen, hl, hl2, strV]
theorem Pr.fin {w wr : World} {b K K' x : Nat} {n : Int} {S R : ByteArray} {n1 n2 : Nat} {S1 R1 S2 R2 : ByteArray} (h : Pr w b K x n S R (n1 : Int) S1 R1 (n2 : Int) S2 R2 wr) (hK : K ≤ K')
    (hn : 1 ≤ n1 ∧ n1 ≤ 5) (hm : 1 ≤ n2 ∧ n2 ≤ 5) (hS : S1.size = n1) (hR : R1.size = n1 * n1) (hT : S2.size = n2) (hU : R2.size = n2 * n2) :
    PairO b K' w (.returned (.tuple #[strV (n1 : Int) S1 R1, strV (n2 : Int) S2 R2])) wr := ⟨n1, n2, S1, R1, S2, R2, hn.1, hn.2, hm.1, hm.2, hS, hR, hT, hU, rfl, h.rd.mono hK, h.old⟩
end Go.Proofs.YtofmagiahmmmgaaGreatDoor

namespace Go.Proofs.YtofmagiahmmmgaaGreatDoor
open Go.RowKit
set_option linter.unusedVariables false
set_option maxRecDepth 100000
/-- All bytes are bits. -/
def b01 (s : ByteArray) : Bool := s.data.toList.all is01
theorem b01_append {s t : ByteArray} (h : b01 s = true) (h2 : b01 t = true) : b01 (s ++ t) = true := by
  unfold b01 at *
  rw [ByteArray.data_append, Array.toList_append, List.all_append, h, h2]; rfl
theorem b01_bit (c : Bool) : b01 (bitS c) = true := by cases c <;> rfl
theorem b01_snoc {s : ByteArray} (h : b01 s = true) (c : Bool) : b01 (s ++ bitS c) = true := b01_append h (b01_bit c)
theorem b01_extract {s : ByteArray} (h : b01 s = true) (i j : Nat) : b01 (s.extract i j) = true := by
  unfold b01 at *
  rw [List.all_eq_true] at *
  intro x hx
  refine h x ?_
  simp only [ByteArray.data_extract, Array.toList_extract] at hx
  exact List.mem_of_mem_drop (List.mem_of_mem_take (by simpa [List.extract] using hx))
theorem b01_valid {n : Nat} {S R : ByteArray} (h1 : 1 ≤ n) (h8 : n ≤ 8) (hS : S.size = n) (hR : R.size = n * n) (bS : b01 S = true) (bR : b01 R = true) : validB n S R = true := by
  unfold validB inB bitsB
  unfold b01 at bS bR
  rw [bS, bR]
  simp [hS, hR]
  omega
theorem b01_of {n : Int} {s : ByteArray} (h : bitsB s n = true) : b01 s = true := by
  unfold bitsB at h
  unfold b01
  rw [Bool.and_eq_true] at h
  exact h.2
/-- What a draw of a structure leaves. -/
def StrB (b K : Nat) (n : Int) (ns nr : Nat) (w : World) (e : Ending) (w' : World) : Prop := ∃ (S R : ByteArray), S.size = ns ∧ R.size = nr ∧ b01 S = true ∧ b01 R = true ∧ e = .returned (strV n S R) ∧ RdB w' b K ∧ w.grownBy w' (some b)
set_option maxHeartbeats 4000000 in
theorem l1DrawB_any (b K n : Nat) (h1 : 1 ≤ n) (h5 : n ≤ 5) (w : World) (h : RdB w b K) (hk : K < 100000000000) :
    Calls Tryz.prog 39 #[.pointer (some ⟨b, 0, none⟩), .int .i64 (n : Int)] w (StrB b (K + 60) (n : Int) n (n * n) w) := by
  have hb := h.block
  have HD : Hid (Dst w b K (w.heap.size + 1) w.heap.size (n : Int) ⟨#[]⟩ ⟨#[]⟩ ((w.alloc (.cells #[.int .i64 0, .string ByteArray.empty, .string ByteArray.empty] 24)).alloc (.cells #[.int .i64 (n : Int), .string ⟨#[]⟩, .string ⟨#[]⟩] 24))) := by
    have hB : Below w.heap.size w (w.alloc (.cells #[.int .i64 0, .string ByteArray.empty, .string ByteArray.empty] 24)) := (Below.refl _ _).alloc (Nat.le_refl _) _
    have hB2 := hB.alloc (o := .cells #[.int .i64 (n : Int), .string ⟨#[]⟩, .string ⟨#[]⟩] 24) hB.size
    refine ⟨rdB_bel h hB2, ?_, ?_, ⟨by omega, hb, by omega⟩, ⟨by omega, Nat.le_refl _⟩, grown_belowS hB2⟩
    · have := SBlk.new (w.alloc (.cells #[.int .i64 0, .string ByteArray.empty, .string ByteArray.empty] 24)) (n : Int) ⟨#[]⟩ ⟨#[]⟩
      simpa using this
    · have := SBlk.new w 0 ByteArray.empty ByteArray.empty
      exact this.below ((Below.refl (w.heap.size + 1) _).alloc (by simp) _) (by simp)
  clear h
  generalize hgz : w.heap.size = Z at *
  go_enter Tryz.func39, Tryz.ntmps39
  go_wp2_with fail
  refine (pickB _ b _ 8 HD.out.rd (by omega) (by omega) (by omega)).mono ?_; rintro e w1 ⟨v, rfl, v0, v1, hr, hg⟩
  have HD1 := Lib.hid (HD.out.pick hr hg)
  clear hr hg HD
  obtain ⟨j, rfl⟩ := Int.eq_ofNat_of_zero_le v0
  have hj8 : j < 8 := by omega
  clear v0 v1
  go_wp2_with fail
  go_loopw [7] (fun q wr => ∃ (x : Nat) (S R : ByteArray), x ≤ n ∧ q = .int .i64 (x : Int) ∧ S.size = x ∧ R.size = x * n ∧ Hid (Dst w b (K + 1 + 7 * x) (Z + 1) Z (n : Int) S R wr) ∧ Hid (b01 S = true ∧ b01 R = true)) (fun q _ => n - (intOf q).toNat)
  case atStart => exact ⟨0, _, _, by omega, rfl, rfl, by simp; rfl, HD1.out.mono (by omega), ⟨rfl, rfl⟩⟩
  case round =>
    obtain ⟨x, S, R, hx, rfl, hS, hR, HX, HQ⟩ := hrel
    clear HD1
    by_cases hlt : x < n
    · have hltI : (x : Int) < (n : Int) := by omega
      have hSz : S.size ≤ 8 := by omega
      go_upto_region 6 with fail
      go_cut [7] (fun q wx => q = .int .i64 (x : Int) ∧ ∃ S' : ByteArray, S'.size = x + 1 ∧ Hid (Dst w b (K + 1 + 7 * x + 1) (Z + 1) Z (n : Int) S' R wx) ∧ Hid (b01 S' = true))
      case first =>
        obtain ⟨c0, c1, c2, f0, f1, f2, hbb⟩ := HX.out.out.cells
        have hbs : (bitS false).size ≤ 1 := Nat.le_refl _
        by_cases hj2 : j ≤ 2
        · have hj2I : (j : Int) ≤ 2 := by omega
          have hj2B : decide ((2 : Int) < (j : Int)) = false := decide_eq_false (by omega)
          have hj2N : ¬ (2 : Int) < (j : Int) := by omega
          have HS : Hid (∀ B, (S ++ bitS B).size = x + 1) := fun B => by rw [ByteArray.size_append, hS]; cases B <;> rfl
          have hz : ¬ 9223372036854775807 < S.size + (bitS false).size := by omega
          have q0 := fun s => Since.cell c1 s
          have HB1 := Lib.hid (fun W => bitL false W)
          refine wp_region_since_tail 12 (by kernel_rfl) (by kernel_rfl) ?_
          simp only [List.take_succ_cons, List.take_zero, List.drop_succ_cons, List.drop_zero]
          repeat (go_big_quiet_step (first | (with_reducible exact Since.call (HB1.out _))))
          refine wpQuiet_nil ?_
          intro w2 hb2
          have HX2 := Lib.hid (HX.out.below hb2)
          obtain ⟨i0, i1, i2, j0, j1, j2, hbc⟩ := HX2.out.out.cells
          clear hb2 q0 hz
          go_wp2_with fail
          go_meet
          exact ⟨rfl, _, HS.out _, HX2.out.set1.mono (by omega), b01_snoc HQ.out.1 _⟩
        · have hj2I : (2 : Int) < (j : Int) := by omega
          have hj2B : decide ((2 : Int) < (j : Int)) = true := decide_eq_true hj2I
          have HS : Hid (∀ B, (S ++ bitS B).size = x + 1) := fun B => by rw [ByteArray.size_append, hS]; cases B <;> rfl
          have HZ : Hid (∀ B, ¬ 9223372036854775807 < S.size + (bitS B).size) := fun B => by have : (bitS B).size = 1 := bitS_size B; omega
          go_region_with (first | (go_at_call 83; refine (l1Bit_any _ _).mono ?_; rintro e w' ⟨rfl, rfl⟩) | (go_at_call 18; refine (pickB _ b _ 3 HX.out.drew.rd (by omega) (by omega) (by omega)).mono ?_; rintro e w2 ⟨v, rfl, v0, v1, hr, hg⟩; have HX2 := Lib.hid (HX.out.drew.pick hr hg); clear hr hg; obtain ⟨d0, d1, d2, g0, g1, g2, hbc⟩ := HX2.out.out.cells; obtain ⟨B, hB⟩ : ∃ B, (v == 0) = B := ⟨_, rfl⟩; have hz := HZ.out B))
          all_goals
            go_wp2_with fail
            go_meet
            exact ⟨rfl, _, HS.out _, HX2.out.set1.mono (by omega), b01_snoc HQ.out.1 _⟩
      case rest =>
        obtain ⟨rfl, S', hS', HX', HQS⟩ := hcut
        clear HX hS hSz
        go_wp2_with fail
        go_loopw [8] (fun q wr => ∃ (y : Nat) (R' : ByteArray), y ≤ n ∧ q = .int .i64 (y : Int) ∧ R'.size = x * n + y ∧ Hid (Dst w b (K + 1 + 7 * x + 1 + y) (Z + 1) Z (n : Int) S' R' wr) ∧ Hid (b01 R' = true)) (fun q _ => n - (intOf q).toNat)
        case atStart => exact ⟨0, R, by omega, rfl, by omega, HX'.out, HQ.out.2⟩
        case round =>
          obtain ⟨y, R', hy, rfl, hR', HY, HQR⟩ := hrel
          clear HX'
          by_cases hlt2 : y < n
          · have hlt2I : (y : Int) < (n : Int) := by omega
            have hxn : x * n ≤ 5 * 5 := Nat.mul_le_mul (by omega) h5
            have hRz : R'.size ≤ 40 := by omega
            have hn0 : ((n : Int) == 0) = false := by simp; omega
            have hn0' : ¬ (n : Int) = 0 := by omega
            go_wp2_with fail
            refine (pickB _ b _ 3 HY.out.rd (by omega) (by omega) (by omega)).mono ?_; rintro e w2 ⟨v, rfl, v0, v1, hr, hg⟩
            have HY2 := Lib.hid (HY.out.pick hr hg)
            clear hr hg HY
            obtain ⟨B, hB⟩ : ∃ B, (v == 0) = B := ⟨_, rfl⟩
            go_upto_region 11 with fail
            have b2 : ∀ c : Bool, c = true ∨ c = false := fun c => by cases c <;> simp
            have hcase : j = 0 ∨ j = 1 ∨ (j = 2 ∧ ((x : Int) != (y : Int)) = true) ∨ (j = 2 ∧ ((x : Int) != (y : Int)) = false) ∨ (j = 3 ∧ ((x : Int) == (y : Int)) = true) ∨ (j = 3 ∧ ((x : Int) == (y : Int)) = false ∧ ((y : Int) == (x : Int) + 1) = true) ∨ (j = 3 ∧ ((x : Int) == (y : Int)) = false ∧ ((y : Int) == (x : Int) + 1) = false) ∨ (j = 4 ∧ B = true) ∨ (j = 4 ∧ B = false) ∨ (j = 5 ∧ (((x : Int) + 1) / 2 == ((y : Int) + 1) / 2) = true) ∨ (j = 5 ∧ (((x : Int) + 1) / 2 == ((y : Int) + 1) / 2) = false) ∨ (((j : Int) == 0) = false ∧ ((j : Int) == 1) = false ∧ ((j : Int) == 2) = false ∧ ((j : Int) == 3) = false ∧ ((j : Int) == 4) = false ∧ ((j : Int) == 5) = false) := by
              rcases (by omega : j = 0 ∨ j = 1 ∨ j = 2 ∨ j = 3 ∨ j = 4 ∨ j = 5 ∨ 5 < j) with h | h | h | h | h | h | h
              · exact .inl h
              · exact .inr (.inl h)
              · rcases b2 ((x : Int) != (y : Int)) with h1 | h1
                · exact .inr (.inr (.inl ⟨h, h1⟩))
                · exact .inr (.inr (.inr (.inl ⟨h, h1⟩)))
              · rcases b2 ((x : Int) == (y : Int)) with h1 | h1
                · exact .inr (.inr (.inr (.inr (.inl ⟨h, h1⟩))))
                · rcases b2 ((y : Int) == (x : Int) + 1) with h3 | h3
                  · exact .inr (.inr (.inr (.inr (.inr (.inl ⟨h, h1, h3⟩)))))
                  · exact .inr (.inr (.inr (.inr (.inr (.inr (.inl ⟨h, h1, h3⟩))))))
              · rcases b2 B with h1 | h1
                · exact .inr (.inr (.inr (.inr (.inr (.inr (.inr (.inl ⟨h, h1⟩)))))))
                · exact .inr (.inr (.inr (.inr (.inr (.inr (.inr (.inr (.inl ⟨h, h1⟩))))))))
              · rcases b2 (((x : Int) + 1) / 2 == ((y : Int) + 1) / 2) with h1 | h1
                · exact .inr (.inr (.inr (.inr (.inr (.inr (.inr (.inr (.inr (.inl ⟨h, h1⟩)))))))))
                · exact .inr (.inr (.inr (.inr (.inr (.inr (.inr (.inr (.inr (.inr (.inl ⟨h, h1⟩))))))))))
              · refine .inr (.inr (.inr (.inr (.inr (.inr (.inr (.inr (.inr (.inr (.inr ⟨?_, ?_, ?_, ?_, ?_, ?_⟩))))))))))
                all_goals
                  simp
                  omega
            clear b2
            rcases hcase with rfl | rfl | ⟨rfl, e1⟩ | ⟨rfl, e1⟩ | ⟨rfl, e1⟩ | ⟨rfl, e1, e2⟩ | ⟨rfl, e1, e2⟩ | ⟨rfl, rfl⟩ | ⟨rfl, rfl⟩ | ⟨rfl, e1⟩ | ⟨rfl, e1⟩ | ⟨e1, e2, e3, e4, e5, e6⟩
            all_goals
              go_upto_region 24 with fail
              obtain ⟨t1, hc1⟩ : ∃ c, ((y : Int) == ((x : Int) + 1) % (n : Int)) = c := ⟨_, rfl⟩
              obtain ⟨t2, hc2⟩ : ∃ c, decide (x < y) = c := ⟨_, rfl⟩
              obtain ⟨t3, hc3⟩ : ∃ c, (((x : Int) + (y : Int)) % 2 == 1) = c := ⟨_, rfl⟩
              obtain ⟨t4, hc4⟩ : ∃ c, ((x : Int) == (y : Int) + 1) = c := ⟨_, rfl⟩
              obtain ⟨t5, hc5⟩ : ∃ c, ((x : Int) != (y : Int)) = c := ⟨_, rfl⟩
              try rw [hc1]
              try rw [hc2]
              try rw [hc3]
              try rw [hc4]
              try rw [hc5]
              clear hc1 hc2 hc3 hc4 hc5
              obtain ⟨c0, c1, c2, f0, f1, f2, hbb⟩ := HY2.out.out.cells
              have hz : ∀ c, ¬ 9223372036854775807 < R'.size + (bitS c).size := fun c => by have : (bitS c).size = 1 := bitS_size c; omega
              have z1 := hz t1
              have z2 := hz t2
              have z3 := hz t3
              have z4 := hz t4
              have z5 := hz t5
              try have z6 := hz B
              have z7 := hz true
              have z8 := hz false
              have HS : Hid (∀ c, (R' ++ bitS c).size = x * n + (y + 1)) := fun c => by rw [ByteArray.size_append, hR', bitS_size]; omega
              have q0 := fun s => Since.cell c2 s
              refine wp_region_since_tail 6 (by kernel_rfl) (by kernel_rfl) ?_
              simp only [List.take_succ_cons, List.take_zero, List.drop_succ_cons, List.drop_zero]
              repeat (go_big_quiet_step (first | (with_reducible exact Since.call (bitL t1 _)) | (with_reducible exact Since.call (bitL t2 _)) | (with_reducible exact Since.call (bitL t3 _)) | (with_reducible exact Since.call (bitL t4 _)) | (with_reducible exact Since.call (bitL t5 _)) | (with_reducible exact Since.call (bitL B _)) | (with_reducible exact Since.call (bitL true _)) | (with_reducible exact Since.call (bitL false _))))
              refine wpQuiet_nil ?_
              intro w3 hb3
              have HY3 := Lib.hid (HY2.out.below hb3)
              obtain ⟨i0, i1, i2, j0, j1, j2, hbc⟩ := HY3.out.out.cells
              have HY4 := Lib.hid (fun c => HY3.out.set2 (R' := R' ++ bitS c))
              clear hb3 q0 hz z1 z2 z3 z4 z5 z7 z8
              try clear z6
              go_wp2_with fail
              go_roundw
              case rel => exact ⟨y + 1, _, by omega, by go_num, HS.out _, (HY4.out _).mono (by omega), b01_snoc HQR.out _⟩
              case measure => simp [intOf]; omega
          · obtain rfl : y = n := by omega
            go_wp2_with fail
            go_roundw
            case rel => exact ⟨x + 1, S', R', by omega, by go_num, hS', by rw [hR', Nat.add_mul, Nat.one_mul], HY.out.mono (by omega), ⟨HQS.out, HQR.out⟩⟩
            case measure => simp [intOf]; omega
    · obtain rfl : x = n := by omega
      obtain ⟨c0, c1, c2, f0, f1, f2, hbb⟩ := HX.out.out.cells
      obtain ⟨d0, d1, d2, g0, g1, g2, hbc⟩ := HX.out.res.cells
      have HP : Hid (RdB (((wr.setCell ⟨Z, 0, none⟩ (.int .i64 (x : Int))).setCell ⟨Z, 1, none⟩ (.string S)).setCell ⟨Z, 2, none⟩ (.string R)) b (K + 60) ∧ w.grownBy (((wr.setCell ⟨Z, 0, none⟩ (.int .i64 (x : Int))).setCell ⟨Z, 1, none⟩ (.string S)).setCell ⟨Z, 2, none⟩ (.string R)) (some b)) :=
        ⟨rdB_set (rdB_set (rdB_set (HX.out.rd.mono (by omega)) hb) hb) hb, grown_setS (grown_setS (grown_setS HX.out.old HX.out.lo.2) HX.out.lo.2) HX.out.lo.2⟩
      go_wp2_with fail
      refine bodyPost_ret (v := strV x S R) ?_ rfl ⟨S, R, hS, hR, HQ.out.1, HQ.out.2, rfl, HP.out.1, HP.out.2⟩
      exact results_str rfl rfl HX.out.res.set3
set_option maxHeartbeats 4000000 in
theorem l1SomeB_any (b K : Nat) (w : World) (h : RdB w b K) (hk : K < 10000000000) :
    Calls Tryz.prog 35 #[.pointer (some ⟨b, 0, none⟩)] w fun e w' => ∃ n : Nat, 1 ≤ n ∧ n ≤ 5 ∧ StrB b (K + 61) (n : Int) n (n * n) w e w' := by
  have hb := h.block
  have HB0 : Hid (Below w.heap.size w (w.alloc (.cells #[.int .i64 0, .string ⟨#[]⟩, .string ⟨#[]⟩] 24))) := (Below.refl _ _).alloc (Nat.le_refl _) _
  have HB1 : Hid (SBlk (w.alloc (.cells #[.int .i64 0, .string ⟨#[]⟩, .string ⟨#[]⟩] 24)) w.heap.size 0 ⟨#[]⟩ ⟨#[]⟩) := SBlk.new w 0 ⟨#[]⟩ ⟨#[]⟩
  have HR := Lib.hid (rdB_bel h HB0.out)
  clear h
  obtain ⟨W, hW⟩ : ∃ W, w.alloc (.cells #[.int .i64 0, .string ⟨#[]⟩, .string ⟨#[]⟩] 24) = W := ⟨_, rfl⟩
  have HN := Lib.hid (fun T => num_list W b K [3, 4, 2, 1, 5, 3] T (hW ▸ HR.out) (by omega) (by decide) (by decide))
  have hz : w.heap.size + 1 = W.heap.size := by rw [← hW]; simp
  rw [hW] at HB0 HB1 HR
  have HWW := Lib.hid hW
  have HZ := Lib.hid hz
  clear hW hz
  go_enter Tryz.func35, Tryz.ntmps35
  go_wp2_with fail
  rw [HWW.out, HZ.out]
  refine (HN.out _).mono ?_; rintro e w1 ⟨v, hv, rfl, hr, hg⟩
  have hv' : ∃ n : Nat, v = (n : Int) ∧ 1 ≤ n ∧ n ≤ 5 := by
    simp at hv
    rcases hv with rfl | rfl | rfl | rfl | rfl | rfl
    · exact ⟨3, rfl, by omega, by omega⟩
    · exact ⟨4, rfl, by omega, by omega⟩
    · exact ⟨2, rfl, by omega, by omega⟩
    · exact ⟨1, rfl, by omega, by omega⟩
    · exact ⟨5, rfl, by omega, by omega⟩
    · exact ⟨3, rfl, by omega, by omega⟩
  obtain ⟨n, rfl, n1, n5⟩ := hv'
  clear hv
  have HR1 := Lib.hid hr
  have HG1 := Lib.hid hg
  clear hr hg
  go_wp2_with fail
  refine (l1DrawB_any b (K + 1) n n1 n5 w1 HR1.out (by omega)).mono ?_; rintro e w2 ⟨S, R, hS, hR, hSb, hRb, rfl, hr, hg⟩
  have HR2 := Lib.hid hr
  have HG2 := Lib.hid (HG1.out.trans hg)
  have HX : Hid (SBlk w2 w.heap.size 0 ⟨#[]⟩ ⟨#[]⟩) := (HG2.out.block w.heap.size HB1.out.cells.2.2.2.2.2.2 (by intro e; injection e; omega)).trans HB1.out
  clear hr hg
  obtain ⟨d0, d1, d2, g0, g1, g2, hbc⟩ := HX.out.cells
  have HP : Hid (RdB (((w2.setCell ⟨w.heap.size, 0, none⟩ (.int .i64 (n : Int))).setCell ⟨w.heap.size, 1, none⟩ (.string S)).setCell ⟨w.heap.size, 2, none⟩ (.string R)) b (K + 61) ∧ w.grownBy (((w2.setCell ⟨w.heap.size, 0, none⟩ (.int .i64 (n : Int))).setCell ⟨w.heap.size, 1, none⟩ (.string S)).setCell ⟨w.heap.size, 2, none⟩ (.string R)) (some b)) :=
    ⟨rdB_set (rdB_set (rdB_set (HR2.out.mono (by omega)) hb) hb) hb, grown_setS (grown_setS (grown_setS ((grown_belowS HB0.out).trans HG2.out) (Nat.le_refl _)) (Nat.le_refl _)) (Nat.le_refl _)⟩
  unfold strV
  go_wp2_with fail
  refine bodyPost_ret (v := strV n S R) ?_ rfl ⟨n, n1, n5, S, R, hS, hR, hSb, hRb, rfl, HP.out.1, HP.out.2⟩
  exact results_str rfl rfl HX.out.set3
end Go.Proofs.YtofmagiahmmmgaaGreatDoor

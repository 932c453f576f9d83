/- Contracts of the program's functions and what they compute: part 38. Conditions: those that each theorem states. -/
import Derived.Test.YthmhjihppbeodaaGreatDoorP7n3
import Derived.Test.YthmhjihppbeodaaGreatDoorP7n15
import Derived.Test.YthmhjihppbeodaaGreatDoorP7n20
import Derived.Test.YthmhjihppbeodaaGreatDoorP7n21
import Derived.Test.YthmhjihppbeodaaGreatDoorP7n37
namespace Go.Proofs.YthmhjihppbeodaaGreatDoor
open Go.RowKit
set_option linter.unusedVariables false
set_option maxRecDepth 100000
/-- What the loops of l1Part keep. -/
structure Pt (w wr : World) (n : Nat) (S R : ByteArray) (m : Nat) (TS TR : ByteArray) : Prop where
  a : SBlk wr w.heap.size n S R
  res : SBlk wr (w.heap.size + 1) 0 ByteArray.empty ByteArray.empty
  out : SBlk wr (w.heap.size + 2) m TS TR
  old : Below w.heap.size w wr
section
variable {w wr w' : World} {n m : Nat} {S R TS TR : ByteArray}
theorem Pt.below (h : Pt w wr n S R m TS TR) (hb : Below wr.heap.size wr w') : Pt w w' n S R m TS TR :=
  ⟨h.a.below hb h.a.cells.2.2.2.2.2.2, h.res.below hb h.res.cells.2.2.2.2.2.2, h.out.below hb h.out.cells.2.2.2.2.2.2, h.old.trans (hb.mono h.old.size)⟩
theorem Pt.drew (h : Pt w wr n S R m TS TR) : Pt w wr.drew n S R m TS TR := ⟨h.a, h.res, h.out, h.old.drew⟩
theorem Pt.set1 (h : Pt w wr n S R m TS TR) (S' : ByteArray) : Pt w (wr.setCell ⟨w.heap.size + 2, 1, none⟩ (.string S')) n S R m S' TR :=
  ⟨h.a.far (by simp) _, h.res.far (by simp) _, h.out.set1, h.old.setCell (by simp) _⟩
theorem Pt.set2 (h : Pt w wr n S R m TS TR) (R' : ByteArray) : Pt w (wr.setCell ⟨w.heap.size + 2, 2, none⟩ (.string R')) n S R m TS R' :=
  ⟨h.a.far (by simp) _, h.res.far (by simp) _, h.out.set2, h.old.setCell (by simp) _⟩
end
set_option maxHeartbeats 2000000 in
theorem l1Part_any (n : Nat) (S R : ByteArray) (L : List Nat) (v : Value) (w : World) (hn : n ≤ 8) (hS : S.size = n) (hR : R.size = n * n) (hl8 : L.length ≤ 8) (hL : ∀ j, j < L.length → L.getD j 0 < n) (hv : NumsAt w v L) :
    Calls Tryz.prog 35 #[strV n S R, v] w fun e w' => e = .returned (partV n S R L) ∧ Below w.heap.size w w' := by
  obtain ⟨m, hm⟩ : ∃ m, L.length = m := ⟨_, rfl⟩
  have HSS : Hid (∀ j, j < m → ∀ W, Calls Tryz.prog 72 #[strV n S R, .int .i64 ((L.getD j 0 : Nat) : Int)] W fun e w' => e = .returned (.bool (oneAt S (L.getD j 0))) ∧ Below W.heap.size W w') := fun j hj W =>
    (l1Set_any n S R (L.getD j 0) W (by rw [hS]; exact hL j (by omega)) (by omega)).mono fun _ _ h => ⟨h.1, by rw [h.2]; exact boxS_below _ _ _ _⟩
  have HRR : Hid (∀ j k, j < m → k < m → ∀ W, Calls Tryz.prog 73 #[strV n S R, .int .i64 ((L.getD j 0 : Nat) : Int), .int .i64 ((L.getD k 0 : Nat) : Int)] W fun e w' => e = .returned (.bool (relAt n R (L.getD j 0) (L.getD k 0))) ∧ Below W.heap.size W w') := fun j k hj hk W =>
    (l1Rel_any n S R (L.getD j 0) (L.getD k 0) W (hL j (by omega)) (hL k (by omega)) hn hR).mono fun _ _ h => ⟨h.1, by rw [h.2]; exact boxS_below _ _ _ _⟩
  have HP0 : Hid (Pt w (((w.alloc (.cells #[.int .i64 (n : Int), .string S, .string R] 24)).alloc (.cells #[.int .i64 0, .string ByteArray.empty, .string ByteArray.empty] 24)).alloc (.cells #[.int .i64 (m : Int), .string ByteArray.empty, .string ByteArray.empty] 24)) n S R m (bitsOf (fun x => oneAt S (L.getD x 0)) 0) (bitsOf (fun k => relAt n R (L.getD (k / m) 0) (L.getD (k % m) 0)) (0 * m))) := by
    have b1 := boxS_below w n S R
    have s1 := boxS_size w n S R
    have h1 := boxS_SBlk w n S R
    have hB : Below (boxS w n S R).heap.size (boxS w n S R) (((boxS w n S R).alloc (.cells #[.int .i64 0, .string ByteArray.empty, .string ByteArray.empty] 24)).alloc (.cells #[.int .i64 (m : Int), .string ByteArray.empty, .string ByteArray.empty] 24)) := ((Below.refl _ _).alloc (Nat.le_refl _) _).alloc (by simp) _
    have h2 := (SBlk.new (boxS w n S R) 0 ByteArray.empty ByteArray.empty).below ((Below.refl _ _).alloc (Nat.le_refl _) (.cells #[.int .i64 (m : Int), .string ByteArray.empty, .string ByteArray.empty] 24)) (by simp)
    have h3 := SBlk.new ((boxS w n S R).alloc (.cells #[.int .i64 0, .string ByteArray.empty, .string ByteArray.empty] 24)) m ByteArray.empty ByteArray.empty
    simp only [World.size_alloc, s1] at h2 h3
    refine ⟨h1.below hB h1.cells.2.2.2.2.2.2, h2, ?_, b1.trans (hB.mono b1.size)⟩
    rw [Nat.zero_mul, bitsOf_zero, bitsOf_zero]
    exact h3
  obtain ⟨a, cap, rfl, l1, l2, l3⟩ := hv.view
  have HC : Hid (0 < m → ∃ g o, a = some ⟨g, o, none⟩ ∧ g < w.heap.size ∧ ∀ j, j < m → w.cell? ⟨g, o + j, none⟩ = some (.int .i64 ((L.getD j 0 : Nat) : Int))) := fun h => by
    rw [← hm] at h ⊢
    exact l3 h
  have HRES : Hid (partV n S R L = strV m (bitsOf (fun x => oneAt S (L.getD x 0)) m) (bitsOf (fun k => relAt n R (L.getD (k / m) 0) (L.getD (k % m) 0)) (m * m))) := by
    show _ = _
    unfold partV gridOf
    rw [hm]
  rw [HRES.out]
  rw [hm] at l1 hl8 ⊢
  clear l3 hv hL HRES hm
  obtain ⟨sx, hsx⟩ : ∃ f : Nat → Bool, (fun x => oneAt S (L.getD x 0)) = f := ⟨_, rfl⟩
  obtain ⟨rx, hrx⟩ : ∃ f : Nat → Nat → Bool, (fun x y => relAt n R (L.getD x 0) (L.getD y 0)) = f := ⟨_, rfl⟩
  have hrk : (fun k => relAt n R (L.getD (k / m) 0) (L.getD (k % m) 0)) = fun k => rx (k / m) (k % m) := by rw [← hrx]
  have hs1 : ∀ x, oneAt S (L.getD x 0) = sx x := fun x => by rw [← hsx]
  have hr1 : ∀ x y, relAt n R (L.getD x 0) (L.getD y 0) = rx x y := fun x y => by rw [← hrx]
  rw [hsx, hrk] at HP0 ⊢
  simp only [hs1] at HSS
  simp only [hr1] at HRR
  clear hsx hrx hrk hs1 hr1
  unfold maxLen at l2
  have HBIT : Hid (∀ b W, Calls Tryz.prog 71 #[.bool b] W fun e w' => e = .returned (.string (bitS b)) ∧ Below W.heap.size W w') := fun b W => (l1Bit_any b W).mono fun _ _ h => ⟨h.1, by rw [← h.2]; exact Below.refl _ _⟩
  unfold strV at HSS HRR
  unfold strV
  go_enter Tryz.func35, Tryz.ntmps35
  go_wp2_with fail
  go_loopw [7, 6] (fun _ i wr => ∃ x : Nat, x ≤ m ∧ i = .int .i64 (x : Int) ∧ Hid (Pt w wr n S R m (bitsOf sx x) (bitsOf (fun k => rx (k / m) (k % m)) (x * m)))) (fun _ i _ => m - (intOf i).toNat)
  case atStart => exact ⟨0, by omega, rfl, HP0.out⟩
  case round =>
    obtain ⟨x, hx, rfl, HI⟩ := hrel
    by_cases hlt : x < m
    · obtain ⟨c0, c1', c2', f0, f1, f2, hb⟩ := HI.out.out.cells
      obtain ⟨a0, a1, a2, _, _, _, ha⟩ := HI.out.a.cells
      obtain ⟨g, o, rfl, hg, hc⟩ := HC.out (by omega)
      have d1 := (HI.out.old.cell (p := ⟨g, o + x, none⟩) hg).trans (hc x hlt)
      have z0 : (bitsOf sx x).size ≤ 8 := by rw [bitsOf_size]; omega
      have z1 : (bitS (sx x)).size ≤ 1 := Nat.le_refl _
      have HS1 := Lib.hid (HSS.out x hlt)
      have HG := Lib.hid (bitsOf_succ sx x)
      have HCC := Lib.hid hc
      clear hc HC
      generalize sx x = bt at *
      generalize L.getD x 0 = ex at *
      go_wp2_with fail
      go_upto_region 5 with fail
      go_cut [] (fun wx => Pt w wx n S R m (bitsOf sx x ++ bitS bt) (bitsOf (fun k => rx (k / m) (k % m)) (x * m)))
      case first =>
        have hz : ¬ 9223372036854775807 < (bitsOf sx x).size + (bitS bt).size := by omega
        have q0 := fun s => Since.cell c1' s
        have q1 := fun s => Since.cell a0 s
        have q2 := fun s => Since.cell a1 s
        have q3 := fun s => Since.cell a2 s
        have q4 := fun s => Since.cell d1 s
        refine wp_region_since_tail 10 (by kernel_rfl) (by kernel_rfl) ?_
        simp only [List.take_succ_cons, List.take_zero, List.drop_succ_cons, List.drop_zero]
        repeat (go_big_quiet_step (first | (with_reducible exact Since.call (HS1.out _)) | (with_reducible exact Since.call (HBIT.out bt _))))
        refine wpQuiet_nil ?_
        intro w1 hb1
        have HI1 := Lib.hid (HI.out.below hb1)
        obtain ⟨i0, i1, i2, j0, j1, j2, hbb⟩ := HI1.out.out.cells
        clear hb1 q0 q1 q2 q3 q4 hz
        go_wp2_with fail
        go_meet
        exact HI1.out.set1 _
      case rest =>
        have HI := Lib.hid hcut; clear hcut c0 c1' c2' f0 f1 f2 hb a0 a1 a2 ha d1
        rw [← HG.out] at HI
        clear z0 z1 HS1 HG
        go_wp2_with fail
        go_loopw [7] (fun j wr => ∃ y : Nat, y ≤ m ∧ j = .int .i64 (y : Int) ∧ Hid (Pt w wr n S R m (bitsOf sx (x + 1)) (bitsOf (fun k => rx (k / m) (k % m)) (x * m + y)))) (fun j _ => m - (intOf j).toNat)
        case atStart => exact ⟨0, by omega, rfl, HI.out⟩
        case round =>
          obtain ⟨y, hy, rfl, HJ⟩ := hrel
          by_cases hlt2 : y < m
          · obtain ⟨c0, c1', c2', f0, f1, f2, hb⟩ := HJ.out.out.cells
            obtain ⟨a0, a1, a2, _, _, _, ha⟩ := HJ.out.a.cells
            have d1 := (HJ.out.old.cell (p := ⟨g, o + x, none⟩) hg).trans (HCC.out x hlt)
            have d2 := (HJ.out.old.cell (p := ⟨g, o + y, none⟩) hg).trans (HCC.out y hlt2)
            have hxy : x * m + y ≤ 64 := by
              have h1 : x * m ≤ 7 * 8 := Nat.mul_le_mul (by omega) hl8
              omega
            have z0 : (bitsOf (fun k => rx (k / m) (k % m)) (x * m + y)).size ≤ 64 := by rw [bitsOf_size]; exact hxy
            have z1 : (bitS (rx x y)).size ≤ 1 := Nat.le_refl _
            have HG : Hid (bitsOf (fun k => rx (k / m) (k % m)) (x * m + (y + 1)) = bitsOf (fun k => rx (k / m) (k % m)) (x * m + y) ++ bitS (rx x y)) := by
              show bitsOf (fun k => rx (k / m) (k % m)) (x * m + y + 1) = _
              rw [bitsOf_succ]
              exact congrArg (fun b => bitsOf (fun k => rx (k / m) (k % m)) (x * m + y) ++ bitS b) (grid_at (r := rx) (x := x) hlt2)
            have HR1 := Lib.hid (HRR.out x y hlt hlt2)
            clear hxy
            generalize bitsOf (fun k => rx (k / m) (k % m)) (x * m + y) = G at *
            generalize rx x y = bt at *
            generalize L.getD x 0 = ex at *
            generalize L.getD y 0 = ey at *
            go_wp2_with fail
            have hz : ¬ 9223372036854775807 < G.size + (bitS bt).size := by omega
            have q0 := fun s => Since.cell c2' s
            have q1 := fun s => Since.cell a0 s
            have q2 := fun s => Since.cell a1 s
            have q3 := fun s => Since.cell a2 s
            have q4 := fun s => Since.cell d1 s
            have q5 := fun s => Since.cell d2 s
            refine wp_region_since_tail 14 (by kernel_rfl) (by kernel_rfl) ?_
            simp only [List.take_succ_cons, List.take_zero, List.drop_succ_cons, List.drop_zero]
            repeat (go_big_quiet_step (first | (with_reducible exact Since.call (HR1.out _)) | (with_reducible exact Since.call (HBIT.out bt _))))
            refine wpQuiet_nil ?_
            intro w1 hb1
            have HI1 := Lib.hid (HJ.out.below hb1)
            obtain ⟨i0, i1, i2, j0, j1, j2, hbb⟩ := HI1.out.out.cells
            have HI2 := Lib.hid (HI1.out.set2 (G ++ bitS bt))
            clear hb1 q0 q1 q2 q3 q4 q5 hz
            go_wp2_with fail
            go_roundw
            case rel =>
              refine ⟨y + 1, by omega, by go_num, ?_⟩
              rw [HG.out]
              exact HI2.out
            case measure => simp [intOf]; omega
          · have HI2 : Hid (Pt w wr n S R m (bitsOf sx (x + 1)) (bitsOf (fun k => rx (k / m) (k % m)) ((x + 1) * m))) := by
              have h := HJ.out
              rw [show x * m + y = (x + 1) * m by rw [Nat.add_mul, Nat.one_mul]; omega] at h
              exact h
            go_wp2_with fail
            go_roundw
            case rel => exact ⟨x + 1, by omega, by go_num, HI2.out⟩
            case measure => simp [intOf]; omega
    · have HE : Hid (Pt w wr n S R m (bitsOf sx m) (bitsOf (fun k => rx (k / m) (k % m)) (m * m))) := by
        have h := HI.out
        rw [show x = m by omega] at h
        exact h
      obtain ⟨c0, c1', c2', f0, f1, f2, hb⟩ := HE.out.out.cells
      obtain ⟨d0, d1, d2, g0, g1, g2, hb'⟩ := HE.out.res.cells
      clear HI
      go_wp2_with fail
      refine bodyPost_ret (v := strV m (bitsOf sx m) (bitsOf (fun k => rx (k / m) (k % m)) (m * m))) ?_ rfl ⟨rfl, ?_⟩
      · exact results_str rfl rfl HE.out.res.set3
      · exact ((HE.out.old.setCell (by simp) _).setCell (by simp) _).setCell (by simp) _
end Go.Proofs.YthmhjihppbeodaaGreatDoor

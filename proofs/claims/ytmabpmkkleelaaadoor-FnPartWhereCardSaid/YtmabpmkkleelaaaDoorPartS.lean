/- The reference's l1Has, l1Elements, l1Part, PartOf. Conditions: the structure is valid, the numbers are different elements of it. -/
import Derived.Test.YtmabpmkkleelaaaDoorDefSet
import Derived.Test.YtmabpmkkleelaaaDoorTailQ
import Derived.Test.YtmabpmkkleelaaaDoorLawS
import Derived.Test.YtmabpmkkleelaaaDoorCircle
import Derived.Test.YtmabpmkkleelaaaDoorHolds
namespace Go.Proofs.YtmabpmkkleelaaaDoor
open Go.RowKit
set_option linter.unusedVariables false
set_option maxRecDepth 100000

theorem l1Has_any (v : Value) (L : List Nat) (y : Nat) (w : World) (hv : NumsAt w v L) : Calls Tryd.prog 191 #[v, .int .i64 (y : Int)] w fun e w' => e = .returned (.bool (decide (y ∈ L))) ∧ w' = w := by
  obtain ⟨a, cap, rfl, h1, h2, h3⟩ := hv.view
  have HC := Lib.hid h3
  clear h3 hv
  unfold maxLen at h2
  obtain ⟨RES, hres⟩ : ∃ b, decide (y ∈ L) = b := ⟨_, rfl⟩
  rw [hres]
  have HR := Lib.hid hres
  clear hres
  go_enter Tryd.func191, Tryd.ntmps191
  go_wp2_with fail
  go_loop [5] (fun i => ∃ k : Nat, k ≤ L.length ∧ i = .int .i64 (k : Int) ∧ Hid (∀ j, j < k → L.getD j 0 ≠ y)) (fun i => L.length - (intOf i).toNat)
  case atStart => exact ⟨0, by omega, rfl, fun j hj => by omega⟩
  case round =>
    obtain ⟨k, hk, rfl, HK⟩ := hrel
    by_cases hlt : k < L.length
    · obtain ⟨g, o, rfl, hg, hc⟩ := HC.out (by omega)
      have d1 := hc k hlt
      obtain ⟨x, hx⟩ : ∃ x, L.getD k 0 = x := ⟨_, rfl⟩
      rw [hx] at d1
      clear hc
      have hkI : (k : Int) < (L.length : Int) := by omega
      by_cases hxy : x = y
      · have HE : Hid (true = RES) := by
          show _ = _
          rw [← HR.out]
          have : y ∈ L := by
            rw [← hxy, ← hx]
            simp [hlt]
          simp [this]
        have e1 : ((x : Int) == (y : Int)) = true := by rw [hxy]; simp
        clear hx hxy
        go_wp2_with fail
        go_ret
        exact ⟨ret_bool HE.out, rfl⟩
      · have e1 : ((x : Int) == (y : Int)) = false := by simp; omega
        have HX := Lib.hid (fun e : L.getD k 0 = y => hxy (hx.symm.trans e))
        clear hx hxy
        go_wp2_with fail
        go_round
        case rel =>
          refine ⟨k + 1, by omega, by go_num, fun j hj => ?_⟩
          by_cases hjk : j = k
          · rw [hjk]; exact HX.out
          · exact HK.out j (by omega)
        case measure => simp [intOf]; omega
    · have HE : Hid (false = RES) := by
        show _ = _
        rw [← HR.out]
        symm
        rw [decide_eq_false_iff_not]
        intro hm
        obtain ⟨j, hj, e⟩ := List.mem_iff_getElem.1 hm
        refine HK.out j (by omega) ?_
        simp [hj, e]
      go_wp2_with fail
      go_ret
      exact ⟨ret_bool HE.out, rfl⟩
theorem nodup_take {L : List Nat} (hd : L.Nodup) {i : Nat} (hi : i < L.length) : decide (L.getD i 0 ∈ L.take i) = false := by
  rw [decide_eq_false_iff_not]
  intro hm
  obtain ⟨j, hj, e⟩ := List.mem_iff_getElem.1 hm
  rw [List.length_take] at hj
  rw [List.getElem_take] at e
  have h2 := List.pairwise_iff_getElem.1 hd j i (by omega) hi (by omega)
  exact h2 (by rw [e]; simp [hi])
set_option maxHeartbeats 1000000 in
theorem l1Elements_any (n : Nat) (S R : ByteArray) (L : List Nat) (v : Value) (w : World) (hval : validB n S R = true) (hL : ∀ j, j < L.length → L.getD j 0 < n) (hd : L.Nodup) (hv : NumsAt w v L) :
    Calls Tryd.prog 156 #[strV n S R, v] w fun e w' => e = .returned (.bool (decide (0 < L.length))) ∧ Below w.heap.size w w' := by
  obtain ⟨h1, h8, hS, hR, _, _⟩ := valid_is hval
  have HSV : Hid (∀ w, Calls Tryd.prog 113 #[strV n S R] w fun e w' => e = .returned (.bool true) ∧ Below w.heap.size w w') := fun w => by
    have := specValid_any n S R w (by omega) (by rw [hR]; have := Nat.mul_le_mul h8 h8; omega)
    rw [hval] at this
    exact this
  have HB : Hid (SBlk (boxS w n S R) w.heap.size n S R ∧ Below w.heap.size w (boxS w n S R)) := ⟨boxS_SBlk _ _ _ _, boxS_below _ _ _ _⟩
  unfold boxS at HB
  have HV := Lib.hid (hv.below HB.out.2)
  have HIN : Hid (∀ j, j < L.length → ∀ W, Calls Tryd.prog 95 #[.int .i64 ((L.getD j 0 : Nat) : Int), .int .i64 0, .int .i64 ((n : Int) - 1)] W fun e w' => e = .returned (.bool true) ∧ Below W.heap.size W w') := fun j hj W =>
    (l1In_is (n := ((L.getD j 0 : Nat) : Int)) (lo := 0) (hi := (n : Int) - 1) W (b := true) (inB_iff.2 ⟨by omega, by have := hL j hj; omega⟩)).mono fun _ _ h => ⟨h.1, by rw [← h.2]; exact Below.refl _ _⟩
  have HND := Lib.hid (fun i (hi : i < L.length) => nodup_take hd hi)
  obtain ⟨a, cap, rfl, l1, l2, l3⟩ := hv.view
  have HC := Lib.hid l3
  clear l3 hv hL hd hval
  unfold maxLen at l2
  unfold strV at HSV
  unfold strV
  go_enter Tryd.func156, Tryd.ntmps156
  go_wp2_with fail
  go_loopw [5] (fun i wr => ∃ k : Nat, k ≤ L.length ∧ i = .int .i64 (k : Int) ∧ Hid (SBlk wr w.heap.size n S R ∧ Below w.heap.size w wr)) (fun i _ => L.length - (intOf i).toNat)
  case atStart => exact ⟨0, by omega, rfl, HB.out⟩
  case round =>
    obtain ⟨k, hk, rfl, HI⟩ := hrel
    obtain ⟨s0, s1, s2, _, _, _, hl⟩ := HI.out.1.cells
    by_cases hlt : k < L.length
    · obtain ⟨g, o, rfl, hg, hc⟩ := HC.out (by omega)
      have d1 := (HI.out.2.cell (p := ⟨g, o + k, none⟩) hg).trans (hc k hlt)
      have hnat : NumsAt wr (.slice (some ⟨g, o, none⟩) L.length cap) L := .inr ⟨g, o, cap, rfl, l1, by unfold maxLen; omega, Nat.lt_of_lt_of_le hg HI.out.2.size, fun j hj => (HI.out.2.cell (p := ⟨g, o + j, none⟩) hg).trans (hc j hj)⟩
      have hnt := hnat.take k (by omega) (by omega)
      have HHAS : Hid (∀ s : Since wr, Calls Tryd.prog 191 #[.slice (some ⟨g, o, none⟩) k cap, .int .i64 ((L.getD k 0 : Nat) : Int)] s.w fun e w' => e = .returned (.bool false) ∧ Below s.w.heap.size s.w w') := fun s => by
        have h := l1Has_any _ _ (L.getD k 0) s.w (hnt.below s.below)
        rw [HND.out k hlt] at h
        exact h.mono fun _ _ h => ⟨h.1, by rw [h.2]; exact Below.refl _ _⟩
      have HI1 := Lib.hid (HIN.out k hlt)
      clear hnat hnt hc
      generalize L.getD k 0 = y at *
      have hkI : (k : Int) < (L.length : Int) := by omega
      have k1 : (k : Int) ≤ (cap : Int) := by omega
      have k2 : (0 : Int) ≤ (k : Int) := by omega
      go_wp2_with fail
      have f0 := fun s => Since.cell s0 s
      have f1 := fun s => Since.cell s1 s
      have f2 := fun s => Since.cell s2 s
      have f3 := fun s => Since.cell d1 s
      refine wp_region_since (by kernel_rfl) (by kernel_rfl) ?_
      repeat (go_big_quiet_step (first | (with_reducible exact Since.call (HI1.out _)) | (with_reducible exact Since.call (HHAS.out _))))
      refine wpQuiet_nil ?_
      intro w1 hb1
      have HI2 : Hid (SBlk w1 w.heap.size n S R ∧ Below w.heap.size w w1) := ⟨HI.out.1.below hb1 HI.out.1.cells.2.2.2.2.2.2, HI.out.2.trans (hb1.mono HI.out.2.size)⟩
      clear hb1 f0 f1 f2 f3 s0 s1 s2 hl d1
      go_wp2_with fail
      go_roundw
      case rel => exact ⟨k + 1, by omega, by go_num, HI2.out⟩
      case measure => simp [intOf]; omega
    · go_wp2_with fail
      refine (HSV.out _).mono ?_; rintro _ w3 ⟨rfl, hb3⟩
      have HB3 := Lib.hid (HI.out.2.trans (hb3.mono HI.out.2.size))
      have HD : Hid (decide ((0 : Int) < (L.length : Int)) = decide (0 < L.length)) := by show _ = _; rw [decide_eq_decide]; omega
      clear hb3
      by_cases h0 : (0 : Int) < (L.length : Int)
      all_goals
        go_wp2_with fail
        go_ret
        exact ⟨ret_bool (by rw [← HD.out] <;> simp [h0]), HB3.out⟩
/-- What the loops of l1Part keep. -/
structure Pt (w wr : World) (n : Nat) (S R : ByteArray) (m : Nat) (TS TR : ByteArray) : Prop where
  a : SBlk wr w.heap.size n S R
  res : SBlk wr (w.heap.size + 1) 0 ByteArray.empty ByteArray.empty
  out : SBlk wr (w.heap.size + 2) m TS TR
  old : Below w.heap.size w wr
section
variable {w wr w' : World} {n m : Nat} {S R TS TR : ByteArray}
theorem Pt.below (h : Pt w wr n S R m TS TR) (hb : Below wr.heap.size wr w') : Pt w w' n S R m TS TR :=
  ⟨h.a.below hb h.a.cells.2.2.2.2.2.2, h.res.below hb h.res.cells.2.2.2.2.2.2, h.out.below hb h.out.cells.2.2.2.2.2.2, h.old.trans (hb.mono h.old.size)⟩
theorem Pt.drew (h : Pt w wr n S R m TS TR) : Pt w wr.drew n S R m TS TR := ⟨h.a, h.res, h.out, h.old.drew⟩
theorem Pt.set1 (h : Pt w wr n S R m TS TR) (S' : ByteArray) : Pt w (wr.setCell ⟨w.heap.size + 2, 1, none⟩ (.string S')) n S R m S' TR :=
  ⟨h.a.far (by simp) _, h.res.far (by simp) _, h.out.set1, h.old.setCell (by simp) _⟩
theorem Pt.set2 (h : Pt w wr n S R m TS TR) (R' : ByteArray) : Pt w (wr.setCell ⟨w.heap.size + 2, 2, none⟩ (.string R')) n S R m TS R' :=
  ⟨h.a.far (by simp) _, h.res.far (by simp) _, h.out.set2, h.old.setCell (by simp) _⟩
end
set_option maxHeartbeats 2000000 in
theorem l1Part_any (n : Nat) (S R : ByteArray) (L : List Nat) (v : Value) (w : World) (hn : n ≤ 8) (hS : S.size = n) (hR : R.size = n * n) (hl8 : L.length ≤ 8) (hL : ∀ j, j < L.length → L.getD j 0 < n) (hv : NumsAt w v L) :
    Calls Tryd.prog 133 #[strV n S R, v] w fun e w' => e = .returned (partV n S R L) ∧ Below w.heap.size w w' := by
  obtain ⟨m, hm⟩ : ∃ m, L.length = m := ⟨_, rfl⟩
  have HSS : Hid (∀ j, j < m → ∀ W, Calls Tryd.prog 116 #[strV n S R, .int .i64 ((L.getD j 0 : Nat) : Int)] W fun e w' => e = .returned (.bool (oneAt S (L.getD j 0))) ∧ Below W.heap.size W w') := fun j hj W =>
    (l1Set_any n S R (L.getD j 0) W (by rw [hS]; exact hL j (by omega)) (by omega)).mono fun _ _ h => ⟨h.1, by rw [h.2]; exact boxS_below _ _ _ _⟩
  have HRR : Hid (∀ j k, j < m → k < m → ∀ W, Calls Tryd.prog 114 #[strV n S R, .int .i64 ((L.getD j 0 : Nat) : Int), .int .i64 ((L.getD k 0 : Nat) : Int)] W fun e w' => e = .returned (.bool (relAt n R (L.getD j 0) (L.getD k 0))) ∧ Below W.heap.size W w') := fun j k hj hk W =>
    (l1Rel_any n S R (L.getD j 0) (L.getD k 0) W (hL j (by omega)) (hL k (by omega)) hn hR).mono fun _ _ h => ⟨h.1, by rw [h.2]; exact boxS_below _ _ _ _⟩
  have HP0 : Hid (Pt w (((w.alloc (.cells #[.int .i64 (n : Int), .string S, .string R] 28)).alloc (.cells #[.int .i64 0, .string ByteArray.empty, .string ByteArray.empty] 28)).alloc (.cells #[.int .i64 (m : Int), .string ByteArray.empty, .string ByteArray.empty] 28)) n S R m (bitsOf (fun x => oneAt S (L.getD x 0)) 0) (bitsOf (fun k => relAt n R (L.getD (k / m) 0) (L.getD (k % m) 0)) (0 * m))) := by
    have b1 := boxS_below w n S R
    have s1 := boxS_size w n S R
    have h1 := boxS_SBlk w n S R
    have hB : Below (boxS w n S R).heap.size (boxS w n S R) (((boxS w n S R).alloc (.cells #[.int .i64 0, .string ByteArray.empty, .string ByteArray.empty] 28)).alloc (.cells #[.int .i64 (m : Int), .string ByteArray.empty, .string ByteArray.empty] 28)) := ((Below.refl _ _).alloc (Nat.le_refl _) _).alloc (by simp) _
    have h2 := (SBlk.new (boxS w n S R) 0 ByteArray.empty ByteArray.empty).below ((Below.refl _ _).alloc (Nat.le_refl _) (.cells #[.int .i64 (m : Int), .string ByteArray.empty, .string ByteArray.empty] 28)) (by simp)
    have h3 := SBlk.new ((boxS w n S R).alloc (.cells #[.int .i64 0, .string ByteArray.empty, .string ByteArray.empty] 28)) m ByteArray.empty ByteArray.empty
    simp only [World.size_alloc, s1] at h2 h3
    refine ⟨h1.below hB h1.cells.2.2.2.2.2.2, h2, ?_, b1.trans (hB.mono b1.size)⟩
    rw [Nat.zero_mul, bitsOf_zero, bitsOf_zero]
    exact h3
  obtain ⟨a, cap, rfl, l1, l2, l3⟩ := hv.view
  have HC : Hid (0 < m → ∃ g o, a = some ⟨g, o, none⟩ ∧ g < w.heap.size ∧ ∀ j, j < m → w.cell? ⟨g, o + j, none⟩ = some (.int .i64 ((L.getD j 0 : Nat) : Int))) := fun h => by
    rw [← hm] at h ⊢
    exact l3 h
  have HRES : Hid (partV n S R L = strV m (bitsOf (fun x => oneAt S (L.getD x 0)) m) (bitsOf (fun k => relAt n R (L.getD (k / m) 0) (L.getD (k % m) 0)) (m * m))) := by
    show _ = _
    unfold partV gridOf
    rw [hm]
  rw [HRES.out]
  rw [hm] at l1 hl8 ⊢
  clear l3 hv hL HRES hm
  obtain ⟨sx, hsx⟩ : ∃ f : Nat → Bool, (fun x => oneAt S (L.getD x 0)) = f := ⟨_, rfl⟩
  obtain ⟨rx, hrx⟩ : ∃ f : Nat → Nat → Bool, (fun x y => relAt n R (L.getD x 0) (L.getD y 0)) = f := ⟨_, rfl⟩
  have hrk : (fun k => relAt n R (L.getD (k / m) 0) (L.getD (k % m) 0)) = fun k => rx (k / m) (k % m) := by rw [← hrx]
  have hs1 : ∀ x, oneAt S (L.getD x 0) = sx x := fun x => by rw [← hsx]
  have hr1 : ∀ x y, relAt n R (L.getD x 0) (L.getD y 0) = rx x y := fun x y => by rw [← hrx]
  rw [hsx, hrk] at HP0 ⊢
  simp only [hs1] at HSS
  simp only [hr1] at HRR
  clear hsx hrx hrk hs1 hr1
  unfold maxLen at l2
  have HBIT : Hid (∀ b W, Calls Tryd.prog 124 #[.bool b] W fun e w' => e = .returned (.string (bitS b)) ∧ Below W.heap.size W w') := fun b W => (l1Bit_any b W).mono fun _ _ h => ⟨h.1, by rw [← h.2]; exact Below.refl _ _⟩
  unfold strV at HSS HRR
  unfold strV
  go_enter Tryd.func133, Tryd.ntmps133
  go_wp2_with fail
  go_loopw [7, 6] (fun _ i wr => ∃ x : Nat, x ≤ m ∧ i = .int .i64 (x : Int) ∧ Hid (Pt w wr n S R m (bitsOf sx x) (bitsOf (fun k => rx (k / m) (k % m)) (x * m)))) (fun _ i _ => m - (intOf i).toNat)
  case atStart => exact ⟨0, by omega, rfl, HP0.out⟩
  case round =>
    obtain ⟨x, hx, rfl, HI⟩ := hrel
    by_cases hlt : x < m
    · obtain ⟨c0, c1', c2', f0, f1, f2, hb⟩ := HI.out.out.cells
      obtain ⟨a0, a1, a2, _, _, _, ha⟩ := HI.out.a.cells
      obtain ⟨g, o, rfl, hg, hc⟩ := HC.out (by omega)
      have d1 := (HI.out.old.cell (p := ⟨g, o + x, none⟩) hg).trans (hc x hlt)
      have z0 : (bitsOf sx x).size ≤ 8 := by rw [bitsOf_size]; omega
      have z1 : (bitS (sx x)).size ≤ 1 := Nat.le_refl _
      have HS1 := Lib.hid (HSS.out x hlt)
      have HG := Lib.hid (bitsOf_succ sx x)
      have HCC := Lib.hid hc
      clear hc HC
      generalize sx x = bt at *
      generalize L.getD x 0 = ex at *
      go_wp2_with fail
      go_upto_region 5 with fail
      go_cut [] (fun wx => Pt w wx n S R m (bitsOf sx x ++ bitS bt) (bitsOf (fun k => rx (k / m) (k % m)) (x * m)))
      case first =>
        have hz : ¬ 9223372036854775807 < (bitsOf sx x).size + (bitS bt).size := by omega
        have q0 := fun s => Since.cell c1' s
        have q1 := fun s => Since.cell a0 s
        have q2 := fun s => Since.cell a1 s
        have q3 := fun s => Since.cell a2 s
        have q4 := fun s => Since.cell d1 s
        refine wp_region_since_tail 10 (by kernel_rfl) (by kernel_rfl) ?_
        simp only [List.take_succ_cons, List.take_zero, List.drop_succ_cons, List.drop_zero]
        repeat (go_big_quiet_step (first | (with_reducible exact Since.call (HS1.out _)) | (with_reducible exact Since.call (HBIT.out bt _))))
        refine wpQuiet_nil ?_
        intro w1 hb1
        have HI1 := Lib.hid (HI.out.below hb1)
        obtain ⟨i0, i1, i2, j0, j1, j2, hbb⟩ := HI1.out.out.cells
        clear hb1 q0 q1 q2 q3 q4 hz
        go_wp2_with fail
        go_meet
        exact HI1.out.set1 _
      case rest =>
        have HI := Lib.hid hcut; clear hcut c0 c1' c2' f0 f1 f2 hb a0 a1 a2 ha d1
        rw [← HG.out] at HI
        clear z0 z1 HS1 HG
        go_wp2_with fail
        go_loopw [7] (fun j wr => ∃ y : Nat, y ≤ m ∧ j = .int .i64 (y : Int) ∧ Hid (Pt w wr n S R m (bitsOf sx (x + 1)) (bitsOf (fun k => rx (k / m) (k % m)) (x * m + y)))) (fun j _ => m - (intOf j).toNat)
        case atStart => exact ⟨0, by omega, rfl, HI.out⟩
        case round =>
          obtain ⟨y, hy, rfl, HJ⟩ := hrel
          by_cases hlt2 : y < m
          · obtain ⟨c0, c1', c2', f0, f1, f2, hb⟩ := HJ.out.out.cells
            obtain ⟨a0, a1, a2, _, _, _, ha⟩ := HJ.out.a.cells
            have d1 := (HJ.out.old.cell (p := ⟨g, o + x, none⟩) hg).trans (HCC.out x hlt)
            have d2 := (HJ.out.old.cell (p := ⟨g, o + y, none⟩) hg).trans (HCC.out y hlt2)
            have hxy : x * m + y ≤ 64 := by
              have h1 : x * m ≤ 7 * 8 := Nat.mul_le_mul (by omega) hl8
              omega
            have z0 : (bitsOf (fun k => rx (k / m) (k % m)) (x * m + y)).size ≤ 64 := by rw [bitsOf_size]; exact hxy
            have z1 : (bitS (rx x y)).size ≤ 1 := Nat.le_refl _
            have HG : Hid (bitsOf (fun k => rx (k / m) (k % m)) (x * m + (y + 1)) = bitsOf (fun k => rx (k / m) (k % m)) (x * m + y) ++ bitS (rx x y)) := by
              show bitsOf (fun k => rx (k / m) (k % m)) (x * m + y + 1) = _
              rw [bitsOf_succ]
              exact congrArg (fun b => bitsOf (fun k => rx (k / m) (k % m)) (x * m + y) ++ bitS b) (grid_at (r := rx) (x := x) hlt2)
            have HR1 := Lib.hid (HRR.out x y hlt hlt2)
            clear hxy
            generalize bitsOf (fun k => rx (k / m) (k % m)) (x * m + y) = G at *
            generalize rx x y = bt at *
            generalize L.getD x 0 = ex at *
            generalize L.getD y 0 = ey at *
            go_wp2_with fail
            have hz : ¬ 9223372036854775807 < G.size + (bitS bt).size := by omega
            have q0 := fun s => Since.cell c2' s
            have q1 := fun s => Since.cell a0 s
            have q2 := fun s => Since.cell a1 s
            have q3 := fun s => Since.cell a2 s
            have q4 := fun s => Since.cell d1 s
            have q5 := fun s => Since.cell d2 s
            refine wp_region_since_tail 14 (by kernel_rfl) (by kernel_rfl) ?_
            simp only [List.take_succ_cons, List.take_zero, List.drop_succ_cons, List.drop_zero]
            repeat (go_big_quiet_step (first | (with_reducible exact Since.call (HR1.out _)) | (with_reducible exact Since.call (HBIT.out bt _))))
            refine wpQuiet_nil ?_
            intro w1 hb1
            have HI1 := Lib.hid (HJ.out.below hb1)
            obtain ⟨i0, i1, i2, j0, j1, j2, hbb⟩ := HI1.out.out.cells
            have HI2 := Lib.hid (HI1.out.set2 (G ++ bitS bt))
            clear hb1 q0 q1 q2 q3 q4 q5 hz
            go_wp2_with fail
            go_roundw
            case rel =>
              refine ⟨y + 1, by omega, by go_num, ?_⟩
              rw [HG.out]
              exact HI2.out
            case measure => simp [intOf]; omega
          · have HI2 : Hid (Pt w wr n S R m (bitsOf sx (x + 1)) (bitsOf (fun k => rx (k / m) (k % m)) ((x + 1) * m))) := by
              have h := HJ.out
              rw [show x * m + y = (x + 1) * m by rw [Nat.add_mul, Nat.one_mul]; omega] at h
              exact h
            go_wp2_with fail
            go_roundw
            case rel => exact ⟨x + 1, by omega, by go_num, HI2.out⟩
            case measure => simp [intOf]; omega
    · have HE : Hid (Pt w wr n S R m (bitsOf sx m) (bitsOf (fun k => rx (k / m) (k % m)) (m * m))) := by
        have h := HI.out
        rw [show x = m by omega] at h
        exact h
      obtain ⟨c0, c1', c2', f0, f1, f2, hb⟩ := HE.out.out.cells
      obtain ⟨d0, d1, d2, g0, g1, g2, hb'⟩ := HE.out.res.cells
      clear HI
      go_wp2_with fail
      refine bodyPost_ret (v := strV m (bitsOf sx m) (bitsOf (fun k => rx (k / m) (k % m)) (m * m))) ?_ rfl ⟨rfl, ?_⟩
      · exact results_str rfl rfl HE.out.res.set3
      · exact ((HE.out.old.setCell (by simp) _).setCell (by simp) _).setCell (by simp) _
end Go.Proofs.YtmabpmkkleelaaaDoor
/- The reference's DefinedSet and PartWhere, the program's PartWhere. Conditions: the texts' lengths fit an integer. -/
namespace Go.Proofs.YtmabpmkkleelaaaDoor
open Go.RowKit
set_option linter.unusedVariables false
set_option maxRecDepth 100000

theorem l3Ready_1 (f : ByteArray) (hf : f.size ≤ 9223372036854775807) (n : Int) (S R : ByteArray) (hS : S.size ≤ 9223372036854775807) (hR : R.size ≤ 9223372036854775807) (w : World) :
    Calls Tryd.prog 155 #[strV n S R, .string f, .int .i64 1] w fun en w' => en = .returned (.bool (validB n S R && okV f 2)) ∧ Below w.heap.size w w' := by
  have HSV := Lib.hid (fun w => specValid_any n S R w hS hR)
  have HFV := Lib.hid (fun w => FormulaValid_any f w hf)
  have HB : Hid (SBlk (boxS w n S R) w.heap.size n S R ∧ Below w.heap.size w (boxS w n S R)) := ⟨boxS_SBlk _ _ _ _, boxS_below _ _ _ _⟩
  unfold boxS at HB
  obtain ⟨s0, s1, s2, _, _, _, hl⟩ := HB.out.1.cells
  unfold strV at HSV
  unfold strV
  generalize validB n S R = b1 at *
  cases b1
  · go_enter Tryd.func155, Tryd.ntmps155
    go_wp2_with fail
    refine (HSV.out _).mono ?_; rintro _ w2 ⟨rfl, hb2⟩
    have HB2 := Lib.hid (HB.out.2.trans (hb2.mono HB.out.2.size))
    clear hb2
    go_wp2_with fail
    go_ret
    exact ⟨ret_bool (by simp), HB2.out⟩
  · cases hr : readB f with
    | none =>
      have HO := Lib.hid (okV_none (d := 2) hr)
      rw [hr] at HFV
      clear hr
      go_enter Tryd.func155, Tryd.ntmps155
      go_wp2_with fail
      refine (HSV.out _).mono ?_; rintro _ w2 ⟨rfl, hb2⟩
      have HB2 := Lib.hid (HB.out.2.trans (hb2.mono HB.out.2.size))
      clear hb2
      go_wp2_with fail
      refine (HFV.out _).mono ?_; rintro _ w3 ⟨rfl, hw3⟩; rw [hw3]; clear hw3 w3
      go_wp2_with fail
      go_ret
      exact ⟨ret_bool (by rw [HO.out]; simp), HB2.out⟩
    | some φ =>
      have HO := Lib.hid (okV_some (d := 2) hr)
      rw [hr] at HFV
      have HAT := readB_at hr
      have HLF : Hid (∀ w, Calls Tryd.prog 140 #[.string f, .int .i64 0] w fun e w' => e = .returned (.tuple #[.int .i64 ((Fm.free φ : Nat) : Int), .int .i64 ((0 + Fm.len φ : Nat) : Int)]) ∧ w' = w) := fun w => l2Free_any f (by have := HAT.2; omega) φ 0 0 w rfl HAT.1
      have hfl := Fm.free_lt φ
      clear hr HAT
      generalize Fm.free φ = fr at *
      go_enter Tryd.func155, Tryd.ntmps155
      go_wp2_with fail
      refine (HSV.out _).mono ?_; rintro _ w2 ⟨rfl, hb2⟩
      have HB2 := Lib.hid (HB.out.2.trans (hb2.mono HB.out.2.size))
      clear hb2
      go_wp2_with fail
      refine (HFV.out _).mono ?_; rintro _ w3 ⟨rfl, hw3⟩; rw [hw3]; clear hw3 w3
      go_wp2_with fail
      refine (HLF.out _).mono ?_; rintro _ w4 ⟨rfl, hw4⟩; rw [hw4]; clear hw4 w4
      go_wp2_with fail
      go_ret
      refine ⟨ret_bool ?_, HB2.out⟩
      rw [HO.out, Bool.true_and, Bool.eq_iff_iff, beq_iff_eq, decide_eq_true_eq]; omega
theorem defSet_is (f : ByteArray) (n : Int) (S R : ByteArray) : (defSet f n S R = none ∧ (validB n S R && okV f 2) = false) ∨ ∃ φ, readB f = some φ ∧ validB n S R = true ∧ okV f 2 = true ∧ defSet f n S R = some (defTo (stOf n.toNat S R) φ n.toNat) := by
  cases hr : readB f with
  | none => exact .inl ⟨defSet_none hr, by rw [okV_none hr]; simp⟩
  | some φ =>
    by_cases h : validB n S R = true ∧ Fm.free φ / 2 = 0
    · exact .inr ⟨φ, rfl, h.1, by rw [okV_some hr, decide_eq_true_iff]; exact h.2, by rw [defSet_some hr, if_pos h]⟩
    · refine .inl ⟨by rw [defSet_some hr, if_neg h], ?_⟩
      rw [okV_some hr, Bool.and_eq_false_iff, decide_eq_false_iff_not]
      by_cases h1 : validB n S R = true
      · exact .inr fun h2 => h ⟨h1, h2⟩
      · exact .inl (by simpa using h1)
/-- What the loop of the reference's DefinedSet keeps. -/
structure Dl (w wr : World) (n : Nat) (S R : ByteArray) (v : Value) (L : List Nat) : Prop where
  own : Own (w.heap.size + 1) wr v L
  a : SBlk wr w.heap.size n S R
  old : Below w.heap.size w wr
section
variable {w wr w' : World} {n : Nat} {S R : ByteArray} {v v' : Value} {L L' : List Nat}
theorem Dl.below (h : Dl w wr n S R v L) (hb : Below wr.heap.size wr w') : Dl w w' n S R v L := ⟨h.own.below hb, h.a.below hb h.a.cells.2.2.2.2.2.2, h.old.trans (hb.mono h.old.size)⟩
theorem Dl.push (h : Dl w wr n S R v L) (hown : Own (w.heap.size + 1) w' v' L') (hg : wr.grownBy w' v.ownBlock) : Dl w w' n S R v' L' := by
  obtain ⟨k1, e1, b1, l1⟩ := h.own.block
  refine ⟨hown, (hg.block w.heap.size h.a.cells.2.2.2.2.2.2 (by rw [e1]; intro e; have := Option.some.inj e; omega)).trans h.a, h.old.grown hg h.old.size (fun k hk => by rw [e1] at hk; have := Option.some.inj hk; omega)⟩
end
set_option maxHeartbeats 1000000 in
theorem specDefined_any (f : ByteArray) (hf : f.size ≤ 9223372036854775807) (n : Int) (S R : ByteArray) (hS : S.size ≤ 9223372036854775807) (hR : R.size ≤ 9223372036854775807) (w : World) :
    Calls Tryd.prog 88 #[strV n S R, .string f] w (DefP w (defSet f n S R)) := by
  have HRD := Lib.hid (fun w => l3Ready_1 f hf n S R hS hR w)
  have HW0 : Hid (Own (w.heap.size + 1) ((boxS w n S R).alloc (.cells #[] 3)) (.slice (some ⟨w.heap.size + 1, 0, none⟩) 0 0) [] ∧ SBlk ((boxS w n S R).alloc (.cells #[] 3)) w.heap.size n S R ∧ Below w.heap.size w ((boxS w n S R).alloc (.cells #[] 3))) := by
    have hB : Below (boxS w n S R).heap.size (boxS w n S R) ((boxS w n S R).alloc (.cells #[] 3)) := (Below.refl _ _).alloc (Nat.le_refl _) _
    exact ⟨Own.lit _ _ _ (boxS_size w n S R) (by rw [boxS_size]; omega), (boxS_SBlk w n S R).below hB (boxS_SBlk w n S R).cells.2.2.2.2.2.2, (boxS_below w n S R).trans (hB.mono (boxS_below w n S R).size)⟩
  unfold boxS at HW0
  obtain ⟨s0, s1, s2, _, _, _, hl⟩ := HW0.out.2.1.cells
  rcases defSet_is f n S R with ⟨h1, h2⟩ | ⟨φ, hr, hv, ho, h1⟩
  · rw [h1]
    rw [h2] at HRD
    clear h1 h2
    unfold strV at HRD
    unfold strV
    go_enter Tryd.func88, Tryd.ntmps88
    go_wp2_with fail
    refine (HRD.out _).mono ?_; rintro _ w2 ⟨rfl, hb2⟩
    have HP : Hid (DefP w none (.returned (.tuple #[.slice (some ⟨w.heap.size + 1, 0, none⟩) 0 0, .bool false])) w2) := ⟨HW0.out.2.2.trans (hb2.mono HW0.out.2.2.size), .inl ⟨rfl, _, rfl, (HW0.out.1.below hb2).nums⟩⟩
    clear hb2
    go_wp2_with fail
    go_ret2
    exact HP.out
  · rw [h1]
    rw [hv, ho] at HRD
    obtain ⟨m, rfl⟩ : ∃ m : Nat, n = m := by
      simp only [validB, Bool.and_eq_true, inB_iff] at hv
      exact Int.eq_ofNat_of_zero_le (by omega)
    obtain ⟨v1, v8, vS, vR, _, _⟩ := valid_is hv
    rw [Int.toNat_natCast]
    have a1 := readB_at hr
    have hlt := fun x w (hx : x < m) => l2True_any f (by have := a1.2; omega) m S R v8 vS vR φ a1.1 (env2 x 0) (env2_lt hx (by omega)) w
    simp only [env2_V] at hlt
    have HLT := Lib.hid hlt
    have HDS := Lib.hid (fun x => defTo_succ (stOf m S R) φ x)
    have HDL := Lib.hid (fun x => defTo_length (stOf m S R) φ x)
    have HD0 : Hid (defTo (stOf m S R) φ 0 = []) := rfl
    clear hlt a1 hr hv ho h1
    obtain ⟨D, hD⟩ : ∃ D, defTo (stOf m S R) φ = D := ⟨_, rfl⟩
    rw [hD] at HDS HDL HD0 ⊢
    obtain ⟨b, hbf⟩ : ∃ b : Nat → Bool, (fun x => Fm.holds (stOf m S R) φ (env2 x 0)) = b := ⟨_, rfl⟩
    have hbx : ∀ x, Fm.holds (stOf m S R) φ (env2 x 0) = b x := fun x => by rw [← hbf]
    simp only [hbx] at HLT HDS
    clear hbf hbx hD
    unfold strV at HRD HLT
    unfold strV
    go_enter Tryd.func88, Tryd.ntmps88
    go_wp2_with fail
    refine (HRD.out _).mono ?_; rintro _ w2 ⟨rfl, hb2⟩
    have HI0 : Hid (Dl w w2 m S R (.slice (some ⟨w.heap.size + 1, 0, none⟩) 0 0) (D 0)) := by
      refine ⟨?_, HW0.out.2.1.below hb2 HW0.out.2.1.cells.2.2.2.2.2.2, HW0.out.2.2.trans (hb2.mono HW0.out.2.2.size)⟩
      rw [HD0.out]
      exact HW0.out.1.below hb2
    clear hb2 s0 s1 s2 hl
    go_wp2_with fail
    go_loopw [7, 6] (fun i v wr => ∃ x : Nat, x ≤ m ∧ i = .int .i64 (x : Int) ∧ Hid (Dl w wr m S R v (D x))) (fun i _ _ => m - (intOf i).toNat)
    case atStart => exact ⟨0, by omega, rfl, HI0.out⟩
    case round =>
      obtain ⟨x, hx, rfl, HI⟩ := hrel
      obtain ⟨s0, s1, s2, _, _, _, hl⟩ := HI.out.a.cells
      by_cases hlt : x < m
      · have HC : Hid (∀ W, Calls Tryd.prog 125 #[.agg #[.int .i64 (m : Int), .string S, .string R], .string f, .agg #[.int .i64 (x : Int), .int .i64 0, .int .i64 0, .int .i64 0]] W fun en w' => en = .returned (.bool (b x)) ∧ Below W.heap.size W w') := fun w => HLT.out x w hlt
        have HS := Lib.hid (HDS.out x)
        have HLL : Hid ((D x).length ≤ 2000000) := by have := HDL.out x; show _ ≤ _; omega
        generalize b x = bt at *
        cases bt
        · go_wp2_with fail
          refine (HC.out _).mono ?_; rintro _ w3 ⟨rfl, hb3⟩
          have HI3 := Lib.hid (HI.out.below hb3)
          clear hb3
          go_wp2_with fail
          go_roundw
          case rel => exact ⟨x + 1, by omega, by go_num, by rw [HS.out]; exact HI3.out⟩
          case measure => simp [intOf]; omega
        · go_wp2_with fail
          refine (HC.out _).mono ?_; rintro _ w3 ⟨rfl, hb3⟩
          have HI3 := Lib.hid (HI.out.below hb3)
          clear hb3
          go_wp2_with (first | (at_builtin; refine wpList_own1at HI3.out.own HLL.out rfl (.tmp 25) (.tmp 27) rfl x _ rfl rfl rfl ?_; intro v' w' ho hg hat; have HI7 := Lib.hid (HI3.out.push ho hg); clear ho hg hat) | fail)
          go_roundw
          case rel => exact ⟨x + 1, by omega, by go_num, by rw [HS.out]; exact HI7.out⟩
          case measure => simp [intOf]; omega
      · have hxm : x = m := by omega
        have HP : Hid (DefP w (some (D m)) (.returned (.tuple #[u6, .bool true])) wr) := ⟨HI.out.old, .inr ⟨_, _, rfl, rfl, by have := HI.out.own.nums; rw [hxm] at this; exact this⟩⟩
        clear hxm
        go_wp2_with fail
        go_ret2
        exact HP.out
/-- What PartWhere returns. -/
def pwRes (f : ByteArray) (n : Int) (S R : ByteArray) : Value :=
  match defSet f n S R with
  | none => .tuple #[strV 0 ByteArray.empty ByteArray.empty, .bool false]
  | some L => if L.length = 0 then .tuple #[strV 0 ByteArray.empty ByteArray.empty, .bool false] else .tuple #[partV n.toNat S R L, .bool true]
theorem pwRes_none {f : ByteArray} {n : Int} {S R : ByteArray} (h : defSet f n S R = none) : pwRes f n S R = .tuple #[strV 0 ByteArray.empty ByteArray.empty, .bool false] := by unfold pwRes; rw [h]
theorem pwRes_some {f : ByteArray} {n : Int} {S R : ByteArray} {L : List Nat} (h : defSet f n S R = some L) : pwRes f n S R = if L.length = 0 then .tuple #[strV 0 ByteArray.empty ByteArray.empty, .bool false] else .tuple #[partV n.toNat S R L, .bool true] := by unfold pwRes; rw [h]
theorem pwRes_form (f : ByteArray) (n : Int) (S R : ByteArray) : ∃ N T U b, pwRes f n S R = .tuple #[strV N T U, .bool b] := by
  cases h : defSet f n S R with
  | none => exact ⟨_, _, _, _, pwRes_none h⟩
  | some L =>
    rw [pwRes_some h]
    by_cases h0 : L.length = 0
    · rw [if_pos h0]; exact ⟨_, _, _, _, rfl⟩
    · rw [if_neg h0]; exact ⟨_, _, _, _, rfl⟩
/-- What is known of a defined set. -/
theorem defSet_facts {f : ByteArray} {n : Int} {S R : ByteArray} {L : List Nat} (h : defSet f n S R = some L) : ∃ m : Nat, n = m ∧ validB m S R = true ∧ L.length ≤ 8 ∧ (∀ j, j < L.length → L.getD j 0 < m) ∧ L.Nodup := by
  rcases defSet_is f n S R with ⟨h1, _⟩ | ⟨φ, hr, hv, ho, h1⟩
  · rw [h1] at h; cases h
  · rw [h1] at h
    obtain ⟨m, rfl⟩ : ∃ m : Nat, n = m := by
      have hv' := hv
      simp only [validB, Bool.and_eq_true, inB_iff] at hv'
      exact Int.eq_ofNat_of_zero_le (by omega)
    obtain ⟨v1, v8, vS, vR, _, _⟩ := valid_is hv
    rw [Int.toNat_natCast] at h
    injection h with h
    subst h
    refine ⟨m, rfl, hv, Nat.le_trans (defTo_length _ _ _) v8, fun j hj => ?_, defTo_nodup _ _ _⟩
    exact defTo_lt (a := stOf m S R) (φ := φ) (by simp [hj])
set_option maxHeartbeats 1000000 in
theorem implPartWhere_any (f : ByteArray) (hf : f.size ≤ 9223372036854775807) (n : Int) (S R : ByteArray) (hS : S.size ≤ 9223372036854775807) (hR : R.size ≤ 9223372036854775807) (w : World) :
    Calls Tryd.prog 25 #[strV n S R, .string f] w fun en w' => en = .returned (pwRes f n S R) ∧ Below w.heap.size w w' := by
  have HDF := Lib.hid (fun w => implDefined_any f hf n S R hS hR w)
  have HB := Lib.hid (BoxR.first w n S R)
  unfold boxS at HB
  obtain ⟨W, hW⟩ : ∃ W, (w.alloc (.cells #[.int .i64 n, .string S, .string R] 28)).alloc (.cells #[.int .i64 0, .string ⟨#[]⟩, .string ⟨#[]⟩] 28) = W := ⟨_, rfl⟩
  replace HB : Hid (BoxR w W n S R) := by rw [← hW]; exact HB.out
  have HW := Lib.hid hW
  clear hW
  obtain ⟨s0, s1, s2, _, _, _, hl⟩ := HB.out.a.cells
  obtain ⟨RES, hres⟩ : ∃ r, pwRes f n S R = r := ⟨_, rfl⟩
  rw [hres]
  unfold strV at HDF
  unfold strV
  go_enter Tryd.func25, Tryd.ntmps25
  go_upto_region 1 with fail
  rw [HW.out]
  go_wp2_with fail
  refine (HDF.out _).mono ?_; rintro en w1 ⟨hb1, hor⟩
  have HB1 := Lib.hid (HB.out.below hb1)
  clear hb1 s0 s1 s2 hl
  rcases hor with ⟨hd, v, rfl, hv⟩ | ⟨v, L, hd, rfl, hv⟩
  · have HV := Lib.hid (hres.symm.trans (pwRes_none hd))
    clear hd hres
    obtain ⟨d0, d1, d2, g0, g1, g2, hl⟩ := HB1.out.res.cells
    go_wp2_with fail
    refine bodyPost_ret (v := .tuple #[strV 0 ByteArray.empty ByteArray.empty, .bool false]) ?_ rfl ⟨by rw [HV.out], ?_⟩
    · exact results_str2 rfl rfl HB1.out.res.set3 rfl
    · exact HB1.out.fin _ _ _
  · have HV := Lib.hid (hres.symm.trans (pwRes_some hd))
    obtain ⟨m, rfl, hval, hL8, hLm, hLd⟩ := defSet_facts hd
    obtain ⟨v1, v8, vS, vR, _, _⟩ := valid_is hval
    have HNV := Lib.hid hv
    obtain ⟨a, cap, rfl, l1, l2, l3⟩ := hv.view
    have HPO := Lib.hid (fun w hv => implPartOf_any m S R L (.slice a L.length cap) w v8 vS vR hL8 hLm hv)
    rw [Int.toNat_natCast] at HV
    unfold maxLen at l2
    unfold partV at HPO HV
    clear hd hres l3 hv hval hLm hLd
    obtain ⟨TS, hA⟩ : ∃ T, bitsOf (fun x => oneAt S (L.getD x 0)) L.length = T := ⟨_, rfl⟩
    obtain ⟨TR, hG⟩ : ∃ T, gridOf (fun x y => relAt m R (L.getD x 0) (L.getD y 0)) L.length = T := ⟨_, rfl⟩
    rw [hA, hG] at HPO HV
    clear hA hG
    obtain ⟨s0, s1, s2, _, _, _, hl⟩ := HB1.out.a.cells
    by_cases h0 : L.length = 0
    · have HV2 := Lib.hid (HV.out.trans (if_pos h0))
      have h0I : ((L.length : Int) == 0) = true := by rw [h0]; rfl
      obtain ⟨d0, d1, d2, g0, g1, g2, hl'⟩ := HB1.out.res.cells
      go_wp2_with fail
      refine bodyPost_ret (v := .tuple #[strV 0 ByteArray.empty ByteArray.empty, .bool false]) ?_ rfl ⟨by rw [HV2.out], ?_⟩
      · exact results_str2 rfl rfl HB1.out.res.set3 rfl
      · exact HB1.out.fin _ _ _
    · have HV2 := Lib.hid (HV.out.trans (if_neg h0))
      have h0I : ((L.length : Int) == 0) = false := by simp; intro h; exact h0 (by rw [h]; rfl)
      unfold strV at HPO
      go_wp2_with fail
      refine (HPO.out _ HNV.out).mono ?_; rintro en w2 ⟨rfl, hb2⟩
      have HB2 := Lib.hid (HB1.out.below hb2)
      clear hb2 s0 s1 s2 hl
      obtain ⟨d0, d1, d2, g0, g1, g2, hl⟩ := HB2.out.res.cells
      go_wp2_with fail
      refine bodyPost_ret (v := .tuple #[strV L.length TS TR, .bool true]) ?_ rfl ⟨by rw [HV2.out], ?_⟩
      · exact results_str2 rfl rfl HB2.out.res.set3 rfl
      · exact HB2.out.fin _ _ _
end Go.Proofs.YtmabpmkkleelaaaDoor

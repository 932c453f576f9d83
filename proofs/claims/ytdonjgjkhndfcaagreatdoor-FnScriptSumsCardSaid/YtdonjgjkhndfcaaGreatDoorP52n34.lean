/- Contracts of the program's functions and what they compute: part 34. Conditions: those that each theorem states. -/
import Derived.Test.YtdonjgjkhndfcaaGreatDoorP52n10
import Derived.Test.YtdonjgjkhndfcaaGreatDoorP52n33
namespace Go.Proofs.YtdonjgjkhndfcaaGreatDoor
open Go.RowKit
set_option linter.unusedVariables false
/-- Whether an element of a product is in the set. -/
def prodSet (S : ByteArray) (m : Nat) (S2 : ByteArray) (x : Nat) : Bool := oneAt S (x / m) && oneAt S2 (x % m)
/-- Whether two elements of a product are related. -/
def prodRel (n : Nat) (R : ByteArray) (m : Nat) (R2 : ByteArray) (x y : Nat) : Bool := relAt n R (x / m) (y / m) && relAt m R2 (x % m) (y % m)
theorem div_facts {n m x : Nat} (hm1 : 1 ≤ m) (hm : m ≤ 8) (hn : n ≤ 8) (hx : x < n * m) : ∃ q r : Nat, x / m = q ∧ x % m = r ∧ q < n ∧ r < m ∧
    IntKind.i64.wrap (Int.tdiv (x : Int) (m : Int)) = (q : Int) ∧ Int.tmod (x : Int) (m : Int) = (r : Int) ∧ (x : Int) % (m : Int) = (r : Int) ∧ ¬ (m : Int) = 0 ∧ wrap64 ((x : Int) / (m : Int)) = (q : Int) := by
  obtain ⟨q, hq⟩ : ∃ q, x / m = q := ⟨_, rfl⟩
  obtain ⟨r, hr⟩ : ∃ r, x % m = r := ⟨_, rfl⟩
  have h1 : q < n := by rw [← hq]; exact (Nat.div_lt_iff_lt_mul hm1).2 hx
  have h2 : r < m := by rw [← hr]; exact Nat.mod_lt _ hm1
  have e1 : Int.tdiv (x : Int) (m : Int) = (q : Int) := by rw [Int.tdiv_eq_ediv_of_nonneg (by omega), ← hq]; rfl
  have e2 : (x : Int) % (m : Int) = (r : Int) := by rw [← hr]; rfl
  refine ⟨q, r, hq, hr, h1, h2, ?_, ?_, e2, by omega, ?_⟩
  · rw [e1]; exact IntWalk.i64_in _ (by omega)
  · rw [Int.tmod_eq_emod_of_nonneg (by omega)]; exact e2
  · rw [← e1, Int.tdiv_eq_ediv_of_nonneg (by omega)]
    have e3 : (x : Int) / (m : Int) = (q : Int) := by rw [← hq]; rfl
    rw [e3]
    exact IntWalk.wrap64_in _ (by omega)
set_option maxHeartbeats 1000000 in
theorem prodCl1_any (n : Nat) (S R : ByteArray) (m : Nat) (S2 R2 : ByteArray) (x : Nat) (W : World) (pa pb : Nat)
    (hS : S.size = n) (hS2 : S2.size = m) (hn : n ≤ 8) (hm1 : 1 ≤ m) (hm : m ≤ 8) (hx : x < n * m) (ha : SBlk W pa n S R) (hb : SBlk W pb m S2 R2) :
    Calls Tryz.prog 25 (#[.int .i64 (x : Int)] ++ #[.pointer (some ⟨pa, 0, none⟩), .pointer (some ⟨pb, 0, none⟩)]) W fun e w' => e = .returned (.bool (prodSet S m S2 x)) ∧ Below W.heap.size W w' := by
  show Calls Tryz.prog 25 #[.int .i64 (x : Int), .pointer (some ⟨pa, 0, none⟩), .pointer (some ⟨pb, 0, none⟩)] W _
  obtain ⟨q, r, hqe, hre, hq, hr, hdv, hmo2, hmo, hm0, hdv2⟩ := div_facts hm1 hm hn hx
  have HI := Lib.hid (fun w => inSet_b (n : Int) S R q w (by rw [hS]; exact hq) (by rw [hS]; exact Nat.le_trans hn (by decide)))
  have HI2 := Lib.hid (fun w => inSet_b (m : Int) S2 R2 r w (by rw [hS2]; exact hr) (by rw [hS2]; exact Nat.le_trans hm (by decide)))
  have HR : Hid (prodSet S m S2 x = (oneAt S q && oneAt S2 r)) := by show _ = _; unfold prodSet; rw [hqe, hre]
  obtain ⟨c0, c1, c2, f0, f1, f2, hl⟩ := ha.cells
  obtain ⟨d0, d1, d2, g0, g1, g2, hl2⟩ := hb.cells
  have HA := Lib.hid ha
  have HB := Lib.hid hb
  clear ha hb hS hS2 hqe hre hq hr hx
  generalize prodSet S m S2 x = b at *
  generalize oneAt S q = b1 at *
  generalize oneAt S2 r = b2 at *
  unfold strV at HI HI2
  have J1 := Lib.hid (fun s' : Since W => HI.out s'.w)
  have J2 := Lib.hid (fun s' : Since W => HI2.out s'.w)
  have A0 := fun s' => Since.cell c0 s'
  have A1 := fun s' => Since.cell c1 s'
  have A2 := fun s' => Since.cell c2 s'
  have D0 := fun s' => Since.cell d0 s'
  have D1 := fun s' => Since.cell d1 s'
  have D2 := fun s' => Since.cell d2 s'
  cases b1
  all_goals
    go_enter Tryz.func25, Tryz.ntmps25
    go_upto_region 1 with fail
    refine wp_region_since (by kernel_rfl) (by kernel_rfl) ?_
    repeat (go_big_quiet_step (first | (with_reducible exact Since.call (J1.out _)) | (with_reducible exact Since.call (J2.out _)) | (with_reducible exact A0 _) | (with_reducible exact A1 _) | (with_reducible exact A2 _) | (with_reducible exact D0 _) | (with_reducible exact D1 _) | (with_reducible exact D2 _)))
    refine wpQuiet_nil ?_
    intro w1 hb1
    have HB1 := Lib.hid hb1
    clear hb1 J1 J2 A0 A1 A2 D0 D1 D2
    go_wp2_with fail
    go_ret
    exact ⟨ret_bool (by rw [HR.out]; simp), HB1.out⟩
set_option maxHeartbeats 2000000 in
theorem prodCl2_any (n : Nat) (S R : ByteArray) (m : Nat) (S2 R2 : ByteArray) (x y : Nat) (W : World) (pa pb : Nat)
    (hR : R.size = n * n) (hR2 : R2.size = m * m) (hn : n ≤ 8) (hm1 : 1 ≤ m) (hm : m ≤ 8) (hx : x < n * m) (hy : y < n * m) (ha : SBlk W pa n S R) (hb : SBlk W pb m S2 R2) :
    Calls Tryz.prog 28 (#[.int .i64 (x : Int), .int .i64 (y : Int)] ++ #[.pointer (some ⟨pa, 0, none⟩), .pointer (some ⟨pb, 0, none⟩)]) W fun e w' => e = .returned (.bool (prodRel n R m R2 x y)) ∧ Below W.heap.size W w' := by
  show Calls Tryz.prog 28 #[.int .i64 (x : Int), .int .i64 (y : Int), .pointer (some ⟨pa, 0, none⟩), .pointer (some ⟨pb, 0, none⟩)] W _
  obtain ⟨q, r, hqe, hre, hq, hr, hdv, hmo2, hmo, hm0, hdv2⟩ := div_facts hm1 hm hn hx
  obtain ⟨s, t, hse, hte, hs, ht, hyv, hyo2, hyo, _, hyv2⟩ := div_facts hm1 hm hn hy
  have HI := Lib.hid (fun w => inRel_b n S R q s w hq hs hn hR)
  have HI2 := Lib.hid (fun w => inRel_b m S2 R2 r t w hr ht hm hR2)
  have HR : Hid (prodRel n R m R2 x y = (relAt n R q s && relAt m R2 r t)) := by show _ = _; unfold prodRel; rw [hqe, hre, hse, hte]
  obtain ⟨c0, c1, c2, f0, f1, f2, hl⟩ := ha.cells
  obtain ⟨d0, d1, d2, g0, g1, g2, hl2⟩ := hb.cells
  have HA := Lib.hid ha
  have HB := Lib.hid hb
  clear ha hb hR hR2 hqe hre hse hte hq hr hs ht hx hy
  generalize prodRel n R m R2 x y = b at *
  generalize relAt n R q s = b1 at *
  generalize relAt m R2 r t = b2 at *
  unfold strV at HI HI2
  have J1 := Lib.hid (fun s' : Since W => HI.out s'.w)
  have J2 := Lib.hid (fun s' : Since W => HI2.out s'.w)
  have A0 := fun s' => Since.cell c0 s'
  have A1 := fun s' => Since.cell c1 s'
  have A2 := fun s' => Since.cell c2 s'
  have D0 := fun s' => Since.cell d0 s'
  have D1 := fun s' => Since.cell d1 s'
  have D2 := fun s' => Since.cell d2 s'
  cases b1
  all_goals
    go_enter Tryz.func28, Tryz.ntmps28
    go_upto_region 1 with fail
    refine wp_region_since (by kernel_rfl) (by kernel_rfl) ?_
    repeat (go_big_quiet_step (first | (with_reducible exact Since.call (J1.out _)) | (with_reducible exact Since.call (J2.out _)) | (with_reducible exact A0 _) | (with_reducible exact A1 _) | (with_reducible exact A2 _) | (with_reducible exact D0 _) | (with_reducible exact D1 _) | (with_reducible exact D2 _)))
    refine wpQuiet_nil ?_
    intro w1 hb1
    have HB1 := Lib.hid hb1
    clear hb1 J1 J2 A0 A1 A2 D0 D1 D2
    go_wp2_with fail
    go_ret
    exact ⟨ret_bool (by rw [HR.out]; simp), HB1.out⟩
/-- What ProductOf returns. -/
def prodRes (n : Nat) (S R : ByteArray) (m : Nat) (S2 R2 : ByteArray) : Value :=
  if n * m ≤ 8 then .tuple #[strV ((n * m : Nat) : Int) (bitsOf (prodSet S m S2) (n * m)) (gridOf (prodRel n R m R2) (n * m)), .bool true] else sumNo
set_option maxHeartbeats 2000000 in
theorem ProductOf_any (n : Nat) (S R : ByteArray) (m : Nat) (S2 R2 : ByteArray) (w : World) (h1 : validB n S R = true) (h2 : validB m S2 R2 = true) :
    Calls Tryz.prog 9 #[strV n S R, strV m S2 R2] w fun e w' => e = .returned (prodRes n S R m S2 R2) ∧ Below w.heap.size w w' := by
  obtain ⟨a1, a8, aS, aR, _, _⟩ := valid_is h1
  obtain ⟨b1, b8, bS, bR, _, _⟩ := valid_is h2
  have a64 : n * n ≤ 64 := Nat.mul_le_mul a8 a8
  have b64 : m * m ≤ 64 := Nat.mul_le_mul b8 b8
  have ab64 : n * m ≤ 64 := Nat.mul_le_mul a8 b8
  have I1 := Lib.hid (fun w => isStructure_any n S R w (by omega) (by omega))
  have I2 := Lib.hid (fun w => isStructure_any m S2 R2 w (by omega) (by omega))
  rw [h1] at I1; rw [h2] at I2
  have hpI : (n : Int) * (m : Int) = ((n * m : Nat) : Int) := by simp
  have hwr : IntKind.i64.wrap ((n : Int) * (m : Int)) = ((n * m : Nat) : Int) := by rw [hpI]; exact IntWalk.i64_in _ (by omega)
  have HM := Lib.hid (fun (h : n * m ≤ 8) k1 k2 c1 c2 w => makeStructure_any (n * m) h k1 k2 c1 c2 (prodSet S m S2) (prodRel n R m R2) w)
  have HC1 := Lib.hid (fun x W pa pb => prodCl1_any n S R m S2 R2 x W pa pb aS bS a8 b1 b8)
  have HC2 := Lib.hid (fun x y W pa pb => prodCl2_any n S R m S2 R2 x y W pa pb aR bR a8 b1 b8)
  have HF := Lib.hid (PairFr.first w n S R m S2 R2)
  have HRES : Hid (prodRes n S R m S2 R2 = if n * m ≤ 8 then .tuple #[strV ((n * m : Nat) : Int) (bitsOf (prodSet S m S2) (n * m)) (gridOf (prodRel n R m R2) (n * m)), .bool true] else sumNo) := rfl
  generalize prodRes n S R m S2 R2 = RES at *
  obtain ⟨p, hp⟩ : ∃ p, n * m = p := ⟨_, rfl⟩
  rw [hp] at hpI hwr HM HRES HC1 HC2 ab64
  generalize prodSet S m S2 = ps at *
  generalize prodRel n R m R2 = pr at *
  have HP := Lib.hid hp
  clear aS aR bS bR a64 b64 h1 h2 hp hpI
  unfold strV at I1 I2
  unfold strV
  by_cases hnm : p ≤ 8
  · have HR : Hid (RES = .tuple #[strV (p : Int) (bitsOf ps p) (gridOf pr p), .bool true]) := by show _ = _; rw [HRES.out, if_pos hnm]
    have hpI8 : ¬ (8 : Int) < (p : Int) := by omega
    have hpB8 : decide ((8 : Int) < (p : Int)) = false := decide_eq_false hpI8
    go_enter Tryz.func9, Tryz.ntmps9
    go_upto_region 1 with fail
    go_wp2_with fail
    refine (I1.out _).mono ?_; rintro e w1 ⟨rfl, hb⟩
    have HF1 := Lib.hid (HF.out.below hb); clear hb
    obtain ⟨c0, c1, c2, f0, f1, f2, hl⟩ := HF1.out.a.cells
    obtain ⟨d0, d1, d2, g0, g1, g2, hl2⟩ := HF1.out.b.cells
    go_wp2_with fail
    refine (I2.out _).mono ?_; rintro e w2 ⟨rfl, hb⟩
    have HF2 := Lib.hid (HF1.out.below hb); clear hb
    clear c0 c1 c2 f0 f1 f2 hl d0 d1 d2 g0 g1 g2 hl2
    obtain ⟨c0, c1, c2, f0, f1, f2, hl⟩ := HF2.out.a.cells
    obtain ⟨d0, d1, d2, g0, g1, g2, hl2⟩ := HF2.out.b.cells
    go_wp2_with fail
    refine (HM.out hnm _ _ _ _ _ (fun _ _ => by kernel_rfl) (fun _ _ => by kernel_rfl) (fun x W hx hW => ?_) (fun x y W hx hy hW => ?_)).mono ?_
    · have HF3 := HF2.out.below hW
      exact HC1.out x W _ _ hx HF3.a HF3.b
    · have HF3 := HF2.out.below hW
      exact HC2.out x y W _ _ hx hy HF3.a HF3.b
    · rintro e w3 ⟨rfl, hb⟩
      have HF3 := Lib.hid (HF2.out.below hb); clear hb
      obtain ⟨e0, e1, e2, k0, k1, k2, hl3⟩ := HF3.out.res.cells
      unfold strV
      go_wp2_with fail
      refine bodyPost_ret (v := .tuple #[strV (p : Int) (bitsOf ps p) (gridOf pr p), .bool true]) ?_ rfl ⟨by rw [HR.out], ?_⟩
      · exact results_str2 rfl rfl HF3.out.res.set3 rfl
      · exact ((HF3.out.old.setCell (by simp <;> omega) _).setCell (by simp <;> omega) _).setCell (by simp <;> omega) _
  · have HR : Hid (RES = .tuple #[strV 0 ByteArray.empty ByteArray.empty, .bool false]) := by show _ = _; rw [HRES.out, if_neg hnm]; rfl
    have hpI8 : (8 : Int) < (p : Int) := by omega
    have hpB8 : decide ((8 : Int) < (p : Int)) = true := decide_eq_true hpI8
    go_enter Tryz.func9, Tryz.ntmps9
    go_upto_region 1 with fail
    go_wp2_with fail
    refine (I1.out _).mono ?_; rintro e w1 ⟨rfl, hb⟩
    have HF1 := Lib.hid (HF.out.below hb); clear hb
    obtain ⟨c0, c1, c2, f0, f1, f2, hl⟩ := HF1.out.a.cells
    obtain ⟨d0, d1, d2, g0, g1, g2, hl2⟩ := HF1.out.b.cells
    go_wp2_with fail
    refine (I2.out _).mono ?_; rintro e w2 ⟨rfl, hb⟩
    have HF2 := Lib.hid (HF1.out.below hb); clear hb
    clear c0 c1 c2 f0 f1 f2 hl d0 d1 d2 g0 g1 g2 hl2
    obtain ⟨c0, c1, c2, f0, f1, f2, hl⟩ := HF2.out.a.cells
    obtain ⟨d0, d1, d2, g0, g1, g2, hl2⟩ := HF2.out.b.cells
    obtain ⟨e0, e1, e2, k0, k1, k2, hl3⟩ := HF2.out.res.cells
    go_wp2_with fail
    refine bodyPost_ret (v := .tuple #[strV 0 ByteArray.empty ByteArray.empty, .bool false]) ?_ rfl ⟨by rw [HR.out], ?_⟩
    · exact results_str2 rfl rfl HF2.out.res.set3 rfl
    · exact ((HF2.out.old.setCell (by simp <;> omega) _).setCell (by simp <;> omega) _).setCell (by simp <;> omega) _
end Go.Proofs.YtdonjgjkhndfcaaGreatDoor

/- Contracts of the program's functions and what they compute: part 39. Conditions: those that each theorem states. -/
import Derived.Test.YtdcnpjekmnlgjaaGreatDoorP56n5
import Derived.Test.YtdcnpjekmnlgjaaGreatDoorP56n22
import Derived.Deep.RegionHeld3
import Derived.Deep.DeepCutAuto
namespace Go.Proofs.YtdcnpjekmnlgjaaGreatDoor
open Go.RowKit
set_option linter.unusedVariables false
set_option maxRecDepth 100000
/-- What the loop of the reference's Interpret keeps. -/
structure Is (w : World) (x8 : Nat) (wr : World) (n : Nat) (S R RR acc : ByteArray) : Prop where
  a : SBlk wr w.heap.size n S R
  res : SBlk wr (w.heap.size + 1) 0 ByteArray.empty ByteArray.empty
  out : SBlk wr x8 n acc RR
  high : w.heap.size + 2 ≤ x8
  old : Below w.heap.size w wr
section
variable {w wr w' : World} {x8 n : Nat} {S R RR acc : ByteArray}
theorem Is.below (h : Is w x8 wr n S R RR acc) (hb : Below wr.heap.size wr w') : Is w x8 w' n S R RR acc :=
  ⟨h.a.below hb h.a.cells.2.2.2.2.2.2, h.res.below hb h.res.cells.2.2.2.2.2.2, h.out.below hb h.out.cells.2.2.2.2.2.2, h.high, h.old.trans (hb.mono h.old.size)⟩
theorem Is.drew (h : Is w x8 wr n S R RR acc) : Is w x8 wr.drew n S R RR acc := ⟨h.a, h.res, h.out, h.high, h.old.drew⟩
theorem Is.set1 (h : Is w x8 wr n S R RR acc) (S' : ByteArray) : Is w x8 (wr.setCell ⟨x8, 1, none⟩ (.string S')) n S R RR S' := by
  have hh := h.high
  exact ⟨h.a.far (by simp; omega) _, h.res.far (by simp; omega) _, h.out.set1, hh, h.old.setCell (by simp; omega) _⟩
theorem Is.mk0 (a : SBlk wr w.heap.size n S R) (res : SBlk wr (w.heap.size + 1) 0 ByteArray.empty ByteArray.empty) (old : Below w.heap.size w wr) (hs : w.heap.size + 2 ≤ wr.heap.size) :
    Is w wr.heap.size (wr.alloc (.cells #[.int .i64 (n : Int), .string acc, .string RR] 24)) n S R RR acc := by
  have hb : Below wr.heap.size wr (wr.alloc (.cells #[.int .i64 (n : Int), .string acc, .string RR] 24)) := (Below.refl _ _).alloc (Nat.le_refl _) _
  exact ⟨a.below hb a.cells.2.2.2.2.2.2, res.below hb res.cells.2.2.2.2.2.2, SBlk.new wr n acc RR, hs, old.trans (hb.mono old.size)⟩
theorem Is.mk1 {x : Nat} {m : Int} {A B : ByteArray} (a : SBlk wr w.heap.size n S R) (res : SBlk wr (w.heap.size + 1) 0 ByteArray.empty ByteArray.empty) (old : Below w.heap.size w wr) (out : SBlk wr x m A B) (hs : w.heap.size + 2 ≤ x) :
    Is w x (((wr.setCell ⟨x, 0, none⟩ (.int .i64 (n : Int))).setCell ⟨x, 1, none⟩ (.string acc)).setCell ⟨x, 2, none⟩ (.string RR)) n S R RR acc :=
  ⟨((a.far (by simp; omega) _).far (by simp; omega) _).far (by simp; omega) _, ((res.far (by simp; omega) _).far (by simp; omega) _).far (by simp; omega) _, out.set3, hs, ((old.setCell (by simp; omega) _).setCell (by simp; omega) _).setCell (by simp; omega) _⟩
end
set_option maxHeartbeats 2000000 in
theorem specInterpret_yes (f g : ByteArray) (n : Nat) (S R : ByteArray) (hv : validB n S R = true) (φ ψ : Fm.T) (hf : readB f = some φ) (hg : readB g = some ψ) (o1 : okV f 2 = true) (o2 : okV g 4 = true) (w : World) :
    Calls Tryz.prog 6 #[strV n S R, .string f, .string g] w fun en w' => en = .returned (.tuple #[strV n (bitsOf (fun x => Fm.holds (stOf n S R) φ (env2 x 0)) n) (gridOf (fun x y => Fm.holds (stOf n S R) ψ (env2 x y)) n), .bool true]) ∧ Below w.heap.size w w' := by
  obtain ⟨h1, h8, hS, hR, _, _⟩ := valid_is hv
  have a1 := readB_at hf
  have a2 := readB_at hg
  have HSV : Hid (∀ w, Calls Tryz.prog 26 #[strV n S R] w fun e w' => e = .returned (.bool true) ∧ Below w.heap.size w w') := fun w => by
    have := specValid_any n S R w (by omega) (by rw [hR]; have := Nat.mul_le_mul h8 h8; omega)
    rw [hv] at this
    exact this
  have HV1 : Hid (∀ w, Calls Tryz.prog 27 #[.string f, .int .i64 1] w fun en w' => en = .returned (.bool true) ∧ w' = w) := fun w => by
    rw [← o1]; exact l11View_1 f (by have := a1.2; omega) w
  have HV2 : Hid (∀ w, Calls Tryz.prog 27 #[.string g, .int .i64 2] w fun en w' => en = .returned (.bool true) ∧ w' = w) := fun w => by
    rw [← o2]; exact l11View_2 g (by have := a2.2; omega) w
  have HRL := Lib.hid (fun w => l3Rel_any g (by have := a2.2; omega) n S R h8 hS hR ψ a2.1 w)
  have hlt := fun x w (hx : x < n) => l2True_any f (by have := a1.2; omega) n S R h8 hS hR φ a1.1 (env2 x 0) (env2_lt hx (by omega)) w
  simp only [env2_V] at hlt
  have HLT := Lib.hid hlt
  clear hlt a1 a2 hf hg o1 o2 hv
  generalize gridOf (fun x y => Fm.holds (stOf n S R) ψ (env2 x y)) n = RR at *
  obtain ⟨b, hbf⟩ : ∃ b : Nat → Bool, (fun x => Fm.holds (stOf n S R) φ (env2 x 0)) = b := ⟨_, rfl⟩
  have HBB : Hid (∀ x, Fm.holds (stOf n S R) φ (env2 x 0) = b x) := fun x => by rw [← hbf]
  rw [hbf]
  clear hbf
  have HT : Hid (SBlk ((boxS w n S R).alloc (.cells #[.int .i64 0, .string ByteArray.empty, .string ByteArray.empty] 24)) w.heap.size n S R ∧ SBlk ((boxS w n S R).alloc (.cells #[.int .i64 0, .string ByteArray.empty, .string ByteArray.empty] 24)) (w.heap.size + 1) 0 ByteArray.empty ByteArray.empty ∧ Below w.heap.size w ((boxS w n S R).alloc (.cells #[.int .i64 0, .string ByteArray.empty, .string ByteArray.empty] 24))) := by
    have hB : Below (boxS w n S R).heap.size (boxS w n S R) ((boxS w n S R).alloc (.cells #[.int .i64 0, .string ByteArray.empty, .string ByteArray.empty] 24)) := (Below.refl _ _).alloc (Nat.le_refl _) _
    refine ⟨(boxS_SBlk w n S R).below hB (boxS_SBlk w n S R).cells.2.2.2.2.2.2, ?_, (boxS_below w n S R).trans (hB.mono (boxS_below w n S R).size)⟩
    have h := SBlk.new (boxS w n S R) 0 ByteArray.empty ByteArray.empty
    rw [boxS_size] at h
    exact h
  unfold boxS at HT
  unfold strV at HSV HRL HLT
  unfold strV
  have s0 := HT.out.1.cells.1
  have s1 := HT.out.1.cells.2.1
  have s2 := HT.out.1.cells.2.2.1
  go_enter Tryz.func6, Tryz.ntmps6
  go_wp2_with fail
  refine (HSV.out _).mono ?_; rintro _ w1 ⟨rfl, hb⟩
  have HT1 : Hid (SBlk w1 w.heap.size n S R ∧ SBlk w1 (w.heap.size + 1) 0 ByteArray.empty ByteArray.empty ∧ Below w.heap.size w w1) := ⟨HT.out.1.below hb HT.out.1.cells.2.2.2.2.2.2, HT.out.2.1.below hb HT.out.2.1.cells.2.2.2.2.2.2, HT.out.2.2.trans (hb.mono HT.out.2.2.size)⟩
  clear hb s0 s1 s2
  have s0 := HT1.out.1.cells.1
  have s1 := HT1.out.1.cells.2.1
  have s2 := HT1.out.1.cells.2.2.1
  go_wp2_with fail
  refine (HV1.out _).mono ?_; rintro _ wv ⟨rfl, hwv⟩; rw [hwv]; clear hwv wv
  go_wp2_with fail
  refine (HV2.out _).mono ?_; rintro _ wv ⟨rfl, hwv⟩; rw [hwv]; clear hwv wv
  clear HV1 HV2 HSV
  go_upto_region 3 with fail
  go_cut [8] (fun v wx => ∃ x8 : Nat, v = .pointer (some ⟨x8, 0, none⟩) ∧ Hid (Is w x8 wx n S R RR ByteArray.empty))
  case first =>
    have hZ : Below w1.heap.size w1 (w1.alloc (.cells #[.int .i64 0, .string (⟨#[]⟩ : ByteArray), .string (⟨#[]⟩ : ByteArray)] 24)) := (Below.refl _ _).alloc (Nat.le_refl _) _
    have HZ : Hid (SBlk (w1.alloc (.cells #[.int .i64 0, .string (⟨#[]⟩ : ByteArray), .string (⟨#[]⟩ : ByteArray)] 24)) w.heap.size n S R ∧ SBlk (w1.alloc (.cells #[.int .i64 0, .string (⟨#[]⟩ : ByteArray), .string (⟨#[]⟩ : ByteArray)] 24)) (w.heap.size + 1) 0 ⟨#[]⟩ ⟨#[]⟩ ∧ Below w.heap.size w (w1.alloc (.cells #[.int .i64 0, .string (⟨#[]⟩ : ByteArray), .string (⟨#[]⟩ : ByteArray)] 24)) ∧ SBlk (w1.alloc (.cells #[.int .i64 0, .string (⟨#[]⟩ : ByteArray), .string (⟨#[]⟩ : ByteArray)] 24)) w1.heap.size 0 ⟨#[]⟩ ⟨#[]⟩) :=
      ⟨HT1.out.1.below hZ HT1.out.1.cells.2.2.2.2.2.2, HT1.out.2.1.below hZ HT1.out.2.1.cells.2.2.2.2.2.2, HT1.out.2.2.trans (hZ.mono HT1.out.2.2.size), SBlk.new w1 0 ⟨#[]⟩ ⟨#[]⟩⟩
    clear hZ
    have HS1 : Hid (w.heap.size + 2 ≤ w1.heap.size) := HT1.out.2.1.cells.2.2.2.2.2.2
    obtain ⟨z0, z1, z2, _, _, _, _⟩ := HZ.out.1.cells
    go_region_with (first | ((with_reducible refine (HRL.out _).mono ?_); rintro e w2 ⟨rfl, hb2⟩; have HT2 : Hid (SBlk w2 w.heap.size n S R ∧ SBlk w2 (w.heap.size + 1) 0 ByteArray.empty ByteArray.empty ∧ Below w.heap.size w w2) := ⟨HT1.out.1.drew.below hb2 HT1.out.1.drew.cells.2.2.2.2.2.2, HT1.out.2.1.drew.below hb2 HT1.out.2.1.drew.cells.2.2.2.2.2.2, HT1.out.2.2.drew.trans (hb2.mono HT1.out.2.2.drew.size)⟩; have HIS := Lib.hid (Is.mk0 (RR := RR) (acc := ByteArray.empty) HT2.out.1 HT2.out.2.1 HT2.out.2.2 (Nat.le_trans HS1.out hb2.size)); clear hb2; obtain ⟨i0, i1, i2, j0, j1, j2, hbb⟩ := HT2.out.1.cells) | ((with_reducible refine (HRL.out _).mono ?_); rintro e w2 ⟨rfl, hb2⟩; have HT3 : Hid (SBlk w2 w.heap.size n S R ∧ SBlk w2 (w.heap.size + 1) 0 ByteArray.empty ByteArray.empty ∧ Below w.heap.size w w2 ∧ SBlk w2 w1.heap.size 0 ByteArray.empty ByteArray.empty) := ⟨HZ.out.1.drew.below hb2 HZ.out.1.drew.cells.2.2.2.2.2.2, HZ.out.2.1.drew.below hb2 HZ.out.2.1.drew.cells.2.2.2.2.2.2, HZ.out.2.2.1.drew.trans (hb2.mono HZ.out.2.2.1.drew.size), HZ.out.2.2.2.drew.below hb2 HZ.out.2.2.2.drew.cells.2.2.2.2.2.2⟩; have HIS := Lib.hid (Is.mk1 (RR := RR) (acc := ByteArray.empty) HT3.out.1 HT3.out.2.1 HT3.out.2.2.1 HT3.out.2.2.2 HS1.out); clear hb2; obtain ⟨i0, i1, i2, j0, j1, j2, hbb⟩ := HT3.out.1.cells; obtain ⟨k0, k1, k2, l0, l1, l2, lbb⟩ := HT3.out.2.2.2.cells))
    all_goals
      go_wp2_with fail
      go_meet
      exact ⟨_, rfl, HIS.out⟩
  case rest =>
    obtain ⟨x8, rfl, HI⟩ := hcut
    have HI0 : Hid (Is w x8 wc n S R RR (bitsOf b 0)) := by show Is _ _ _ _ _ _ _ _; rw [bitsOf_zero]; exact HI.out
    clear HI s0 s1 s2
    go_wp2_with fail
    go_loopw [9] (fun i wr => ∃ x : Nat, x ≤ n ∧ i = .int .i64 (x : Int) ∧ Hid (Is w x8 wr n S R RR (bitsOf b x))) (fun i _ => n - (intOf i).toNat)
    case atStart => exact ⟨0, by omega, rfl, HI0.out⟩
    case round =>
      obtain ⟨x, hx, rfl, HI⟩ := hrel
      obtain ⟨s0, s1, s2, _, _, _, _⟩ := HI.out.a.cells
      by_cases hlt : x < n
      · obtain ⟨c0, c1', c2', f0, f1, f2, hb⟩ := HI.out.out.cells
        have z0 : (bitsOf b x).size ≤ 8 := by rw [bitsOf_size]; omega
        have z1 : (bitS (b x)).size ≤ 1 := Nat.le_refl _
        have HL1 : Hid (∀ W, Calls Tryz.prog 30 #[.agg #[.int .i64 (n : Int), .string S, .string R], .string f, .agg #[.int .i64 (x : Int), .int .i64 0, .int .i64 0, .int .i64 0]] W fun en w' => en = .returned (.bool (Fm.holds (stOf n S R) φ (env2 x 0))) ∧ Below W.heap.size W w') := fun w => HLT.out x w hlt
        rw [HBB.out x] at HL1
        have HG := Lib.hid (bitsOf_succ b x)
        generalize hbit : b x = bt at *
        clear hbit
        go_wp2_with fail
        go_region_with (first | (go_at_call 29; refine (l1Bit_any bt _).mono ?_; rintro e w' ⟨rfl, rfl⟩) | ((with_reducible refine (HL1.out _).mono ?_); rintro e w2 ⟨rfl, hb1⟩; have HI1 := Lib.hid (HI.out.drew.below hb1); obtain ⟨i0, i1, i2, j0, j1, j2, hbb⟩ := HI1.out.out.cells; clear hb1))
        all_goals
          have HI2 := Lib.hid (HI1.out.set1 (bitsOf b x ++ bitS bt))
          go_wp2_with fail
          go_roundw
          case rel =>
            refine ⟨x + 1, by omega, by go_num, ?_⟩
            rw [HG.out]
            exact HI2.out
          case measure => simp [intOf]; omega
      · have HE : Hid (Is w x8 wr n S R RR (bitsOf b n)) := by
          have h := HI.out
          rw [show x = n by omega] at h
          exact h
        obtain ⟨c0, c1', c2', f0, f1, f2, hb⟩ := HE.out.out.cells
        obtain ⟨d0, d1, d2, g0, g1, g2, hb'⟩ := HE.out.res.cells
        clear HI
        go_wp2_with fail
        refine bodyPost_ret (v := .tuple #[strV n (bitsOf b n) RR, .bool true]) ?_ rfl ⟨rfl, ?_⟩
        · exact results_str2 rfl rfl HE.out.res.set3 rfl
        · exact ((HE.out.old.setCell (by simp) _).setCell (by simp) _).setCell (by simp) _
end Go.Proofs.YtdcnpjekmnlgjaaGreatDoor

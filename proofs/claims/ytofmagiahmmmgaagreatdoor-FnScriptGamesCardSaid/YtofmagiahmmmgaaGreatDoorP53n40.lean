/- Contracts of the program's functions and what they compute: part 40. Conditions: those that each theorem states. -/
import Derived.Test.YtofmagiahmmmgaaGreatDoorP53n39
import Derived.Test.YtofmagiahmmmgaaGreatDoorP53n17
import Derived.Test.YtofmagiahmmmgaaGreatDoorP53n2
import Derived.Test.YtofmagiahmmmgaaGreatDoorP53n6
import Derived.Test.YtofmagiahmmmgaaGreatDoorP53n1
import Derived.Test.YtofmagiahmmmgaaGreatDoorP53n3
import Derived.Test.YtofmagiahmmmgaaGreatDoorP53n4
import Derived.Test.YtofmagiahmmmgaaGreatDoorP53n7
import Derived.Test.YtofmagiahmmmgaaGreatDoorP53n14
import Derived.Test.YtofmagiahmmmgaaGreatDoorP53n29
import Derived.Test.YtofmagiahmmmgaaGreatDoorP53n30
import Derived.Laws.IdiomStrings
import Derived.Maps.AppendAt
import Derived.IntWalk
import Derived.Deep.RegionLaw
import Derived.Deep.DeepCutAuto
import Derived.Deep.CutBlock
import Derived.Deep.AppendLies
import Derived.Laws.ResultCell
import Derived.Lib.SlBytesConst
import Derived.Laws.Cover3
import Derived.Maps.Own
import Derived.LaidEqlPtr
import Derived.Calls
import Derived.Control
namespace Go.Proofs.YtofmagiahmmmgaaGreatDoor
open Go.RowKit
set_option linter.unusedVariables false
set_option maxRecDepth 100000
theorem inB_inR (n x : Int) : inB x 0 (n - 1) = inR n x := by
  unfold inB inR
  congr 1
  rw [Bool.eq_iff_iff, decide_eq_true_iff, decide_eq_true_iff]
  omega
theorem l4List_ints (n : Int) (S R : ByteArray) (L : List Int) (v : Value) (w : World) (hn : -1 ≤ n ∧ n ≤ 9223372036854775807) (hS : S.size ≤ 9223372036854775807) (hR : R.size ≤ 9223372036854775807) (hg : IntsAt w v L) : Calls Tryz.prog 144 #[strV n S R, v] w (BoolB w (liB n S R L)) := by
  have HV := Lib.hid (fun w => specValid_any n S R w hS hR)
  have HB : Hid (SBlk (boxS w n S R) w.heap.size n S R ∧ Below w.heap.size w (boxS w n S R)) := ⟨boxS_SBlk _ _ _ _, boxS_below _ _ _ _⟩
  obtain ⟨a, cap, rfl, l1, l2, l3⟩ := hg.view
  have HC := Lib.hid l3
  have HIN : Hid (∀ x w, Calls Tryz.prog 87 #[.int .i64 x, .int .i64 0, .int .i64 (n - 1)] w fun e w' => e = .returned (.bool (inR n x)) ∧ Below w.heap.size w w') := fun x w => by
    have h := l1In_any x 0 (n - 1) w
    rw [inB_inR] at h
    exact h.mono fun _ _ h => ⟨h.1, by first | (rw [h.2]; exact Below.refl _ _) | (rw [← h.2]; exact Below.refl _ _)⟩
  have hw1 : IntKind.i64.wrap (n - 1) = n - 1 := IntWalk.i64_in _ (by omega)
  obtain ⟨W, hW⟩ : ∃ W, boxS w n S R = W := ⟨_, rfl⟩
  rw [hW] at HB
  unfold boxS at hW
  have HW := Lib.hid hW
  unfold maxLen at l2
  obtain ⟨RES, hres⟩ : ∃ r, liB n S R L = r := ⟨_, rfl⟩
  rw [hres]
  have HRES := Lib.hid hres
  clear hW hg l3 hS hR hn hres
  unfold strV at HV ⊢
  go_enter Tryz.func144, Tryz.ntmps144
  go_upto_region 1 with fail
  rw [HW.out]
  go_wp2_with fail
  go_loopw [5] (fun i wr => ∃ k : Nat, k ≤ L.length ∧ i = .int .i64 (k : Int) ∧ Hid (∀ j, j < k → inR n (L.getD j 0) = true) ∧ Hid (SBlk wr w.heap.size n S R ∧ Below w.heap.size w wr)) (fun i _ => L.length - (intOf i).toNat)
  case atStart => exact ⟨0, by omega, rfl, fun j hj => by omega, HB.out⟩
  case round =>
    obtain ⟨k, hk, rfl, HG, HP⟩ := hrel
    obtain ⟨c0, c1, c2, f0, f1, f2, hl⟩ := HP.out.1.cells
    by_cases hlt : k < L.length
    · obtain ⟨g, o, rfl, hg, hcc⟩ := HC.out (by omega)
      have d1 := (HP.out.2.cell (p := ⟨g, o + k, none⟩) hg).trans (hcc k hlt)
      have HX := Lib.hid (HIN.out (L.getD k 0))
      have hkI : (k : Int) < (L.length : Int) := by omega
      cases hb : inR n (L.getD k 0) with
      | false =>
        have HE : Hid (RES = false) := by
          show _ = _
          rw [← HRES.out]
          unfold liB
          rw [okL_bad hlt hb]; simp
        rw [hb] at HX
        clear hcc hb
        generalize L.getD k 0 = x at *
        go_wp2_with fail
        have q0 := fun s => Since.cell c0 s
        have q1 := fun s => Since.cell d1 s
        refine wp_region_since (by kernel_rfl) (by kernel_rfl) ?_
        repeat (go_big_quiet_step (with_reducible exact Since.call (HX.out _)))
        refine wpQuiet_nil ?_
        intro w1 hb1
        have HB1 := Lib.hid (HP.out.2.trans (hb1.mono HP.out.2.size))
        clear hb1 q0 q1
        go_wp2_with fail
        go_ret
        exact ⟨ret_bool HE.out.symm, HB1.out⟩
      | true =>
        have HG2 : Hid (∀ j, j < k + 1 → inR n (L.getD j 0) = true) := fun j hj => by
          by_cases e : j = k
          · rw [e]; exact hb
          · exact HG.out j (by omega)
        rw [hb] at HX
        clear hcc hb
        generalize L.getD k 0 = x at *
        go_wp2_with fail
        have q0 := fun s => Since.cell c0 s
        have q1 := fun s => Since.cell d1 s
        refine wp_region_since (by kernel_rfl) (by kernel_rfl) ?_
        repeat (go_big_quiet_step (with_reducible exact Since.call (HX.out _)))
        refine wpQuiet_nil ?_
        intro w1 hb1
        have HP1 : Hid (SBlk w1 w.heap.size n S R ∧ Below w.heap.size w w1) := ⟨HP.out.1.below hb1 HP.out.1.cells.2.2.2.2.2.2, HP.out.2.trans (hb1.mono HP.out.2.size)⟩
        clear hb1 q0 q1
        go_wp2_with fail
        go_roundw
        case rel => exact ⟨k + 1, by omega, by go_num, HG2.out, HP1.out⟩
        case measure => simp [intOf]; omega
    · have HE : Hid (RES = (validB n S R && decide (L.length ≤ 4))) := by
        show _ = _
        rw [← HRES.out]
        unfold liB
        rw [okL_good (fun j hj => HG.out j (by omega))]; simp
      clear HRES
      have hkE : ¬ (k : Int) < (L.length : Int) := by omega
      generalize validB n S R = r at *
      cases r with
      | false =>
        go_wp2_with fail
        refine (HV.out _).mono ?_; rintro e w1 ⟨rfl, hb⟩
        have HB1 := Lib.hid (HP.out.2.trans (hb.mono HP.out.2.size))
        clear hb
        go_wp2_with fail
        go_ret
        exact ⟨ret_bool (by rw [HE.out]; simp), HB1.out⟩
      | true =>
        by_cases h4 : L.length ≤ 4
        · have hlI : (L.length : Int) ≤ 4 := by omega
          go_wp2_with fail
          refine (HV.out _).mono ?_; rintro e w1 ⟨rfl, hb⟩
          have HB1 := Lib.hid (HP.out.2.trans (hb.mono HP.out.2.size))
          clear hb
          go_wp2_with fail
          go_ret
          exact ⟨ret_bool (by rw [HE.out]; first | rfl | (simp; done) | (simp [h4]; done) | (simp; omega)), HB1.out⟩
        · have hlI : ¬ (L.length : Int) ≤ 4 := by omega
          go_wp2_with fail
          refine (HV.out _).mono ?_; rintro e w1 ⟨rfl, hb⟩
          have HB1 := Lib.hid (HP.out.2.trans (hb.mono HP.out.2.size))
          clear hb
          go_wp2_with fail
          go_ret
          exact ⟨ret_bool (by rw [HE.out]; first | rfl | (simp; done) | (simp [h4]; done) | (simp; omega)), HB1.out⟩
theorem l4Lists_ints (n : Int) (S R : ByteArray) (m : Int) (S2 R2 : ByteArray) (L M : List Int) (v u : Value) (w : World) (hn : -1 ≤ n ∧ n ≤ 9223372036854775807) (hm : -1 ≤ m ∧ m ≤ 9223372036854775807) (hS : S.size ≤ 9223372036854775807) (hR : R.size ≤ 9223372036854775807) (hS2 : S2.size ≤ 9223372036854775807) (hR2 : R2.size ≤ 9223372036854775807) (hg : IntsAt w v L) (hg2 : IntsAt w u M) :
    Calls Tryz.prog 86 #[strV n S R, v, strV m S2 R2, u] w (BoolB w (lsB n S R m S2 R2 L M)) := by
  have HT := Lib.hid (Bx2.new w n S R m S2 R2)
  unfold boxS at HT
  have HA := Lib.hid (fun w' (h : Below w.heap.size w w') => l4List_ints n S R L v w' hn hS hR (hg.below h))
  have HB := Lib.hid (fun w' (h : Below w.heap.size w w') => l4List_ints m S2 R2 M u w' hm hS2 hR2 (hg2.below h))
  obtain ⟨ga, cap, rfl, _, _, _⟩ := hg.view
  obtain ⟨gb, cap2, rfl, _, _, _⟩ := hg2.view
  clear hg hg2 hn hm
  unfold lsB
  generalize liB n S R L = r at *
  generalize liB m S2 R2 M = q at *
  unfold strV at HA HB
  obtain ⟨c0, c1, c2, f0, f1, f2, hl1⟩ := HT.out.a.cells
  unfold strV
  have hlm : ((L.length : Int) == (M.length : Int)) = decide (L.length = M.length) := by
    rw [Bool.eq_iff_iff, beq_iff_eq, decide_eq_true_iff]; omega
  cases r with
  | false =>
    go_enter Tryz.func86, Tryz.ntmps86
    go_wp2_with fail
    refine (HA.out _ HT.out.old).mono ?_; rintro e w1 ⟨rfl, hb⟩
    have HT3 := Lib.hid (HT.out.below hb); clear hb c0 c1 c2 f0 f1 f2 hl1
    go_wp2_with fail
    go_ret
    exact ⟨ret_bool (by simp), HT3.out.old⟩
  | true =>
    cases q with
    | false =>
      go_enter Tryz.func86, Tryz.ntmps86
      go_wp2_with fail
      refine (HA.out _ HT.out.old).mono ?_; rintro e w1 ⟨rfl, hb⟩
      have HT3 := Lib.hid (HT.out.below hb); clear hb c0 c1 c2 f0 f1 f2 hl1
      obtain ⟨d0, d1, d2, g0, g1, g2, hl2⟩ := HT3.out.b.cells
      go_wp2_with fail
      refine (HB.out _ HT3.out.old).mono ?_; rintro e w2 ⟨rfl, hb⟩
      have HT4 := Lib.hid (HT3.out.below hb); clear hb d0 d1 d2 g0 g1 g2 hl2
      go_wp2_with fail
      go_ret
      exact ⟨ret_bool (by simp), HT4.out.old⟩
    | true =>
      go_enter Tryz.func86, Tryz.ntmps86
      go_wp2_with fail
      refine (HA.out _ HT.out.old).mono ?_; rintro e w1 ⟨rfl, hb⟩
      have HT3 := Lib.hid (HT.out.below hb); clear hb c0 c1 c2 f0 f1 f2 hl1
      obtain ⟨d0, d1, d2, g0, g1, g2, hl2⟩ := HT3.out.b.cells
      go_wp2_with fail
      refine (HB.out _ HT3.out.old).mono ?_; rintro e w2 ⟨rfl, hb⟩
      have HT4 := Lib.hid (HT3.out.below hb); clear hb d0 d1 d2 g0 g1 g2 hl2
      go_wp2_with fail
      go_ret
      exact ⟨ret_bool (by simp), HT4.out.old⟩
theorem l5Ready_ints (n : Int) (S R : ByteArray) (m : Int) (S2 R2 : ByteArray) (L M : List Int) (v u : Value) (K : Int) (w : World) (hn : -1 ≤ n ∧ n ≤ 9223372036854775807) (hm : -1 ≤ m ∧ m ≤ 9223372036854775807) (hS : S.size ≤ 9223372036854775807) (hR : R.size ≤ 9223372036854775807) (hS2 : S2.size ≤ 9223372036854775807) (hR2 : R2.size ≤ 9223372036854775807) (hg : IntsAt w v L) (hg2 : IntsAt w u M) :
    Calls Tryz.prog 43 #[strV n S R, v, strV m S2 R2, u, .int .i64 K] w (BoolB w (gaB n S R m S2 R2 L M K)) := by
  have HT := Lib.hid (Bx2.new w n S R m S2 R2)
  unfold boxS at HT
  have HA := Lib.hid (fun w' (h : Below w.heap.size w w') => l4Lists_ints n S R m S2 R2 L M v u w' hn hm hS hR hS2 hR2 (hg.below h) (hg2.below h))
  obtain ⟨ga, cap, rfl, _, _, _⟩ := hg.view
  obtain ⟨gb, cap2, rfl, _, _, _⟩ := hg2.view
  clear hg hg2 hn hm
  unfold gaB
  generalize lsB n S R m S2 R2 L M = r at *
  unfold strV at HA
  obtain ⟨c0, c1, c2, f0, f1, f2, hl1⟩ := HT.out.a.cells
  obtain ⟨d0, d1, d2, g0, g1, g2, hl2⟩ := HT.out.b.cells
  unfold strV
  have HI := Lib.hid (l1In_b K 0 3)
  generalize inB K 0 3 = q at *
  cases r with
  | false =>
    go_enter Tryz.func43, Tryz.ntmps43
    go_wp2_with fail
    refine (HA.out _ HT.out.old).mono ?_; rintro e w1 ⟨rfl, hb⟩
    have HT3 := Lib.hid (HT.out.below hb); clear hb c0 c1 c2 f0 f1 f2 hl1 d0 d1 d2 g0 g1 g2 hl2
    go_wp2_with fail
    go_ret
    exact ⟨ret_bool (by simp), HT3.out.old⟩
  | true =>
    go_enter Tryz.func43, Tryz.ntmps43
    go_wp2_with fail
    refine (HA.out _ HT.out.old).mono ?_; rintro e w1 ⟨rfl, hb⟩
    have HT3 := Lib.hid (HT.out.below hb); clear hb c0 c1 c2 f0 f1 f2 hl1 d0 d1 d2 g0 g1 g2 hl2
    go_wp2_with fail
    refine (HI.out _).mono ?_; rintro e w2 ⟨rfl, hb⟩
    have HB2 := Lib.hid (HT3.out.old.trans (hb.mono HT3.out.old.size))
    clear hb
    go_wp2_with fail
    go_ret
    exact ⟨ret_bool (by simp), HB2.out⟩
theorem specSecond_ints (n : Int) (S R : ByteArray) (m : Int) (S2 R2 : ByteArray) (L M : List Int) (v u : Value) (K : Int) (w : World) (hn : -1 ≤ n ∧ n ≤ 9223372036854775807) (hm : -1 ≤ m ∧ m ≤ 9223372036854775807) (hS : S.size ≤ 9223372036854775807) (hR : R.size ≤ 9223372036854775807) (hS2 : S2.size ≤ 9223372036854775807) (hR2 : R2.size ≤ 9223372036854775807) (hg : IntsAt w v L) (hg2 : IntsAt w u M) :
    Calls Tryz.prog 22 #[strV n S R, v, strV m S2 R2, u, .int .i64 K] w (BoolB w (seB n S R m S2 R2 L M K)) := by
  have HT := Lib.hid (Bx2.new w n S R m S2 R2)
  unfold boxS at HT
  have HA := Lib.hid (fun w' (h : Below w.heap.size w w') => l5Ready_ints n S R m S2 R2 L M v u K w' hn hm hS hR hS2 hR2 (hg.below h) (hg2.below h))
  unfold seB
  obtain ⟨c0, c1, c2, f0, f1, f2, hl1⟩ := HT.out.a.cells
  obtain ⟨d0, d1, d2, g0, g1, g2, hl2⟩ := HT.out.b.cells
  cases hga : gaB n S R m S2 R2 L M K with
  | false =>
    rw [hga] at HA
    obtain ⟨ga, cap, rfl, _, _, _⟩ := hg.view
    obtain ⟨gb, cap2, rfl, _, _, _⟩ := hg2.view
    clear hg hg2 hga hn hm
    unfold strV at HA ⊢
    go_enter Tryz.func22, Tryz.ntmps22
    go_wp2_with fail
    refine (HA.out _ HT.out.old).mono ?_; rintro e w1 ⟨rfl, hb⟩
    have HT3 := Lib.hid (HT.out.below hb); clear hb c0 c1 c2 f0 f1 f2 hl1 d0 d1 d2 g0 g1 g2 hl2
    go_wp2_with fail
    go_ret
    exact ⟨ret_bool (by simp), HT3.out.old⟩
  | true =>
    rw [hga] at HA
    obtain ⟨a, b, k, o⟩ := ga_ok hga
    obtain rfl := o.en
    obtain rfl := o.em
    obtain rfl := o.ek
    obtain ⟨a1, a8, aS, aR, _⟩ := valid_is o.va
    obtain ⟨b1, b8, bS, bR, _⟩ := valid_is o.vb
    have HW := Lib.hid (fun w' (h : Below w.heap.size w w') => l5Wins_any a S R b S2 R2 v u (L.map Int.toNat) (M.map Int.toNat) k w' ⟨aS, aR, a8, bS, bR, b8, by rw [List.length_map, List.length_map]; exact o.lm, by rw [List.length_map]; have := o.l4; have := o.k3; omega, nat_mem o.la, nat_mem o.lb⟩ o.k3 ((hg.below h).nums (fun x hx => (o.la x hx).1)) ((hg2.below h).nums (fun x hx => (o.lb x hx).1)))
    rw [Bool.true_and]
    simp only [Int.toNat_natCast]
    obtain ⟨ga, cap, rfl, _, _, _⟩ := hg.view
    obtain ⟨gb, cap2, rfl, _, _, _⟩ := hg2.view
    generalize Gs.wins k (stOf a S R) (L.map Int.toNat) (stOf b S2 R2) (M.map Int.toNat) = W at *
    clear hg hg2 hga hn hm o aS aR bS bR
    unfold strV at HA HW ⊢
    go_enter Tryz.func22, Tryz.ntmps22
    go_wp2_with fail
    refine (HA.out _ HT.out.old).mono ?_; rintro e w1 ⟨rfl, hb⟩
    have HT3 := Lib.hid (HT.out.below hb); clear hb c0 c1 c2 f0 f1 f2 hl1 d0 d1 d2 g0 g1 g2 hl2
    obtain ⟨c0, c1, c2, f0, f1, f2, hl1⟩ := HT3.out.a.cells
    obtain ⟨d0, d1, d2, g0, g1, g2, hl2⟩ := HT3.out.b.cells
    go_wp2_with fail
    refine (HW.out _ HT3.out.old).mono ?_; rintro e w2 ⟨rfl, hb⟩
    have HT4 := Lib.hid (HT3.out.below hb); clear hb c0 c1 c2 f0 f1 f2 hl1 d0 d1 d2 g0 g1 g2 hl2
    go_wp2_with fail
    go_ret
    exact ⟨ret_bool (by simp), HT4.out.old⟩
end Go.Proofs.YtofmagiahmmmgaaGreatDoor

namespace Go.Proofs.YtofmagiahmmmgaaGreatDoor
open Go.RowKit
set_option linter.unusedVariables false
set_option maxRecDepth 100000
theorem implSame_ints (n : Int) (S R : ByteArray) (m : Int) (S2 R2 : ByteArray) (K : Int) (w : World) (hS : S.size ≤ 9223372036854775807) (hR : R.size ≤ 9223372036854775807) (hS2 : S2.size ≤ 9223372036854775807) (hR2 : R2.size ≤ 9223372036854775807) :
    Calls Tryz.prog 5 #[strV n S R, strV m S2 R2, .int .i64 K] w fun en w' => en = .returned (.bool (seB n S R m S2 R2 [] [] K)) ∧ Below w.heap.size w w' := by
  have HT := Lib.hid (Bx2.new w n S R m S2 R2)
  unfold boxS at HT
  have HA := Lib.hid (fun w' => implSecond_ints n S R m S2 R2 [] [] (.slice none 0 0) (.slice none 0 0) K w' hS hR hS2 hR2 (.inl ⟨rfl, rfl⟩) (.inl ⟨rfl, rfl⟩))
  generalize seB n S R m S2 R2 [] [] K = W at *
  unfold strV at HA
  obtain ⟨c0, c1, c2, f0, f1, f2, hl1⟩ := HT.out.a.cells
  obtain ⟨d0, d1, d2, g0, g1, g2, hl2⟩ := HT.out.b.cells
  unfold strV
  go_enter Tryz.func5, Tryz.ntmps5
  go_wp2_with fail
  refine (HA.out _).mono ?_; rintro e w1 ⟨rfl, hb⟩
  first
  | (have HT3 := Lib.hid (HT.out.old.trans (hb.mono HT.out.old.size)); clear hb; go_wp2_with fail; go_ret; exact ⟨rfl, HT3.out⟩)
  | (have HT3 := Lib.hid hb; clear hb; go_wp2_with fail; go_ret; exact ⟨rfl, HT3.out⟩)
theorem specSame_ints (n : Int) (S R : ByteArray) (m : Int) (S2 R2 : ByteArray) (K : Int) (w : World) (hn : -1 ≤ n ∧ n ≤ 9223372036854775807) (hm : -1 ≤ m ∧ m ≤ 9223372036854775807) (hS : S.size ≤ 9223372036854775807) (hR : R.size ≤ 9223372036854775807) (hS2 : S2.size ≤ 9223372036854775807) (hR2 : R2.size ≤ 9223372036854775807) :
    Calls Tryz.prog 6 #[strV n S R, strV m S2 R2, .int .i64 K] w (BoolB w (seB n S R m S2 R2 [] [] K)) := by
  have HT := Lib.hid (Bx2.new w n S R m S2 R2)
  have HS := Lib.hid (fun va vb w h1 h2 => specSecond_ints n S R m S2 R2 [] [] va vb K w hn hm hS hR hS2 hR2 h1 h2)
  unfold boxS at HT
  unfold strV at HS ⊢
  generalize seB n S R m S2 R2 [] [] K = B at *
  obtain ⟨a0, a1, a2, _, _, _, _⟩ := HT.out.a.cells
  obtain ⟨b0, b1, b2, _, _, _, _⟩ := HT.out.b.cells
  clear hn hm hS hR hS2 hR2
  obtain ⟨w0, hw0⟩ : ∃ w0, ((w.alloc (.cells #[.int .i64 n, .string S, .string R] 24)).alloc (.cells #[.int .i64 m, .string S2, .string R2] 24)) = w0 := ⟨_, rfl⟩
  have HB0 : Hid (Below w.heap.size w ((w0.alloc (.cells #[] 3)).alloc (.cells #[] 3))) := by
    rw [hw0] at HT
    exact (HT.out.old.alloc HT.out.old.size _).alloc (by have := HT.out.old.size; simp; omega) _
  have hz0 : w0.heap.size = w.heap.size + 2 := by rw [← hw0]; simp
  have hz1 : (w0.alloc (.cells #[] 3)).heap.size = w.heap.size + 3 := by simp [hz0]
  have ho1 : IntsAt ((w0.alloc (.cells #[] 3)).alloc (.cells #[] 3)) (.slice (some ⟨w.heap.size + 2, 0, none⟩) 0 0) [] := by
    have h := (OwnI.lit0 0 w0 (Nat.zero_le _)).ints
    rw [hz0] at h
    exact h.below ((Below.refl _ _).alloc (Nat.le_refl _) _)
  have ho2 : IntsAt ((w0.alloc (.cells #[] 3)).alloc (.cells #[] 3)) (.slice (some ⟨w.heap.size + 3, 0, none⟩) 0 0) [] := by
    have h := (OwnI.lit0 0 (w0.alloc (.cells #[] 3)) (Nat.zero_le _)).ints
    rw [hz1] at h
    exact h
  rw [← hw0] at HB0 ho1 ho2
  have HO1 := Lib.hid ho1; have HO2 := Lib.hid ho2
  clear ho1 ho2
  clear hw0 hz0 hz1
  go_enter Tryz.func6, Tryz.ntmps6
  go_wp2_with fail
  refine (HS.out _ _ _ HO1.out HO2.out).mono ?_; rintro e w1 ⟨rfl, hb⟩
  have HB1 : Hid (Below w.heap.size w w1) := HB0.out.trans (hb.mono HB0.out.size)
  clear hb
  go_wp2_with fail
  go_ret
  exact ⟨rfl, HB1.out⟩
/-- The game of no elements. -/
theorem seB_nil (n : Int) (S R : ByteArray) (m : Int) (S2 R2 : ByteArray) (K : Int) : seB n S R m S2 R2 [] [] K = (validB n S R && validB m S2 R2 && inB K 0 3 && Gs.wins K.toNat (stOf n.toNat S R) [] (stOf m.toNat S2 R2) []) := by
  unfold seB gaB lsB liB okL
  simp
end Go.Proofs.YtofmagiahmmmgaaGreatDoor

namespace Go.Proofs.YtofmagiahmmmgaaGreatDoor
open Go.RowKit
set_option linter.unusedVariables false
/-- Four cells. -/
def c4 (f : Fin 4 → Value) : Array Value := #[f 0, f 1, f 2, f 3]
end Go.Proofs.YtofmagiahmmmgaaGreatDoor

namespace Go.Proofs.YtofmagiahmmmgaaGreatDoor
open Go.RowKit
set_option linter.unusedVariables false
theorem implStructureValid_any (n : Int) (S R : ByteArray) (hS : S.size ≤ 9223372036854775807) (hR : R.size ≤ 9223372036854775807) (w : World) :
    Calls Tryz.prog 7 #[strV n S R] w fun e w' => e = .returned (.bool (validB n S R)) ∧ Below w.heap.size w w' := by
  have HIS := Lib.hid (fun w => isStructure_any n S R w hS hR)
  have HB : Hid (SBlk (boxS w n S R) w.heap.size n S R ∧ Below w.heap.size w (boxS w n S R)) := ⟨boxS_SBlk _ _ _ _, boxS_below _ _ _ _⟩
  unfold boxS at HB
  generalize validB n S R = b at *
  unfold strV at HIS
  unfold strV
  go_enter Tryz.func7, Tryz.ntmps7
  go_wp2_with fail
  refine (HIS.out _).mono ?_; rintro e w1 ⟨rfl, hb1⟩
  have HB1 := Lib.hid (HB.out.2.trans (hb1.mono HB.out.2.size))
  clear hb1
  go_wp2_with fail
  go_ret
  exact ⟨rfl, HB1.out⟩
end Go.Proofs.YtofmagiahmmmgaaGreatDoor
namespace Go.Proofs.YtofmagiahmmmgaaGreatDoor
open Go.RowKit
set_option linter.unusedVariables false
set_option maxRecDepth 100000
/-- Four elements of n that lie in a slice. -/
def Four (n : Nat) (w : World) (e : Ending) (w' : World) : Prop := ∃ v L, e = .returned v ∧ L.length = 4 ∧ (∀ j, j < L.length → L.getD j 0 < n) ∧ NumsAt w' v L ∧ Below w.heap.size w w'
theorem Four.mk {n : Nat} {w w' : World} {x y z u : Nat} {T : TypeId} (hx : x < n) (hy : y < n) (hz : z < n) (hu : u < n) (hb : Below w.heap.size w w') :
    Four n w (.returned (.slice (some ⟨w'.heap.size, 0, none⟩) 4 4)) (w'.alloc (.cells #[.int .i64 (x : Int), .int .i64 (y : Int), .int .i64 (z : Int), .int .i64 (u : Int)] T)) := by
  refine ⟨_, [x, y, z, u], rfl, rfl, ?_, .inr ⟨w'.heap.size, 0, 4, rfl, Nat.le_refl _, by decide, by simp, ?_⟩, hb.alloc hb.size _⟩
  · intro j hj
    rcases j with _ | _ | _ | _ | j
    · exact hx
    · exact hy
    · exact hz
    · exact hu
    · simp at hj; omega
  · intro j hj
    rw [Nat.zero_add, World.cell?_alloc_new]
    rcases j with _ | _ | _ | _ | j
    · rfl
    · rfl
    · rfl
    · rfl
    · simp at hj; omega
end Go.Proofs.YtofmagiahmmmgaaGreatDoor

namespace Go.Proofs.YtofmagiahmmmgaaGreatDoor
open Go
/-- A frame that goes on nowhere: behind what it waits for stands a test of no truth value. -/
def stuckFrame : Frame := { fn := 0, tmps := #[], todo := [.beginRound, .code (.cond (.const undef) .skip .skip)], defers := [], mode := .run, kind := .normal }
theorem stuck_stays (P : Program) (v : Value) (w m : _) : step P (lone (stuckFrame.finish v) [] w) ≠ .next m := by
  intro h
  have e : step P (lone (stuckFrame.finish v) [] w) = .ended (.stuck "cond: bool expected" ((stuckFrame.finish v).pos P)) w := by
    refine step_lone_ended ?_
    rfl
  rw [e] at h
  cases h
theorem runN_add {P : Program} : ∀ (n k : Nat) {m m1 : Machine}, runN P n m = .next m1 → runN P (n + k) m = runN P k m1
  | 0, k, m, m1, h => by
    have : m = m1 := by
      unfold runN at h
      injection h
    rw [this, Nat.zero_add]
  | n + 1, k, m, m1, h => by
    rw [Nat.succ_add]
    have e1 : runN P (n + 1) m = match step P m with | .next m => runN P n m | e => e := rfl
    have e2 : runN P (n + k + 1) m = match step P m with | .next m => runN P (n + k) m | e => e := rfl
    rw [e1] at h
    rw [show Nat.succ (n + k) = n + k + 1 from rfl, e2]
    cases hs : step P m with
    | next m' =>
      rw [hs] at h
      exact runN_add n k h
    | _ => rw [hs] at h; cases h
theorem leave_last {P : Program} {fr1 fr2 : Frame} {w1 w2 : World} {v1 : Value} (h1 : fr1.leaving P w1 (.returned v1)) : ∀ k, runN P k (lone fr1 [stuckFrame] w1) = .next (lone fr2 [stuckFrame] w2) → fr1 = fr2 ∧ w1 = w2
  | 0, h => by
    unfold runN at h
    injection h with h
    unfold lone at h
    simp at h
    exact ⟨h.2, h.1⟩
  | 1, h => by
    unfold runN at h
    rw [step_leave_returned h1] at h
    unfold runN at h
    injection h with h
    unfold lone at h
    simp at h
  | k + 2, h => by
    unfold runN at h
    rw [step_leave_returned h1] at h
    simp only at h
    unfold runN at h
    cases hs : step P (lone (stuckFrame.finish v1) [] w1) with
    | next m => exact absurd hs (stuck_stays P v1 w1 m)
    | _ => rw [hs] at h; cases h
theorem calls_val {P : Program} {f : FuncId} {args : Array Value} {w : World} {v1 v2 : Value} {R1 R2 : World → Prop} (h1 : Calls P f args w fun e w' => e = .returned v1 ∧ R1 w') (h2 : Calls P f args w fun e w' => e = .returned v2 ∧ R2 w') : v1 = v2 := by
  obtain ⟨e1, w1, fr1, ⟨he1, _⟩, c1, _, l1⟩ := h1 [stuckFrame]
  obtain ⟨e2, w2, fr2, ⟨he2, _⟩, c2, _, l2⟩ := h2 [stuckFrame]
  subst he1; subst he2
  obtain ⟨n, hn⟩ := c1
  obtain ⟨k, hk⟩ := c2
  have same : fr1 = fr2 ∧ w1 = w2 := by
    rcases Nat.le_total n k with h | h
    · obtain ⟨d, rfl⟩ := Nat.exists_eq_add_of_le h
      rw [runN_add n d hn] at hk
      exact leave_last l1 d hk
    · obtain ⟨d, rfl⟩ := Nat.exists_eq_add_of_le h
      rw [runN_add k d hk] at hn
      have := leave_last l2 d hn
      exact ⟨this.1.symm, this.2.symm⟩
  obtain ⟨rfl, rfl⟩ := same
  obtain ⟨_, _, _, fn, hf, hr⟩ := l1
  obtain ⟨_, _, _, fn', hf', hr'⟩ := l2
  rw [hf] at hf'
  injection hf' with hf'
  subst hf'
  rw [hr] at hr'
  injection hr' with hr' _
end Go.Proofs.YtofmagiahmmmgaaGreatDoor

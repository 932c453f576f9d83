/- Contracts of the program's functions and what they compute: part 13. Conditions: those that each theorem states. -/
import Derived.Test.YthmhjihppbeodaaGreatDoorP7n2
import Derived.Test.YthmhjihppbeodaaGreatDoorP7n4
namespace Go.Proofs.YthmhjihppbeodaaGreatDoor
open Go.RowKit
set_option linter.unusedVariables false
namespace Gs
/-- Whether the last ones of two lists are to the others alike. -/
def fitsL (a : St) (L : List Nat) (b : St) (M : List Nat) (n : Nat) : Bool :=
  (a.s (L.getD n 0) == b.s (M.getD n 0)) && (List.range (n + 1)).all fun i => (decide (L.getD i 0 = L.getD n 0) == decide (M.getD i 0 = M.getD n 0)) && ((a.r (L.getD i 0) (L.getD n 0) == b.r (M.getD i 0) (M.getD n 0)) && (a.r (L.getD n 0) (L.getD i 0) == b.r (M.getD n 0) (M.getD i 0)))
theorem fitsL_iff {a b : St} {L M : List Nat} {n : Nat} : fitsL a L b M n = true ↔ a.s (L.getD n 0) = b.s (M.getD n 0) ∧ ∀ i, i ≤ n → (decide (L.getD i 0 = L.getD n 0) = decide (M.getD i 0 = M.getD n 0) ∧ a.r (L.getD i 0) (L.getD n 0) = b.r (M.getD i 0) (M.getD n 0) ∧ a.r (L.getD n 0) (L.getD i 0) = b.r (M.getD n 0) (M.getD i 0)) := by
  unfold fitsL
  simp only [Bool.and_eq_true, beq_iff_eq, List.all_eq_true, List.mem_range, Nat.lt_succ_iff]
theorem fitsL_no1 {a b : St} {L M : List Nat} {n : Nat} (h : a.s (L.getD n 0) ≠ b.s (M.getD n 0)) : fitsL a L b M n = false := by
  rw [← Bool.not_eq_true, fitsL_iff]
  exact fun h' => h h'.1
theorem fitsL_no2 {a b : St} {L M : List Nat} {n i : Nat} (hi : i ≤ n) (h : ¬ (decide (L.getD i 0 = L.getD n 0) = decide (M.getD i 0 = M.getD n 0) ∧ a.r (L.getD i 0) (L.getD n 0) = b.r (M.getD i 0) (M.getD n 0) ∧ a.r (L.getD n 0) (L.getD i 0) = b.r (M.getD n 0) (M.getD i 0))) : fitsL a L b M n = false := by
  rw [← Bool.not_eq_true, fitsL_iff]
  exact fun h' => h (h'.2 i hi)
end Gs
theorem l1Set_bF (n : Nat) (S R : ByteArray) (x : Nat) (w : World) (hx : x < n) (hS : S.size = n) (hn : n ≤ 8) :
    Calls Tryz.prog 72 #[strV n S R, .int .i64 (x : Int)] w fun e w' => e = .returned (.bool (oneAt S x)) ∧ Below w.heap.size w w' :=
  (l1Set_any n S R x w (by omega) (by omega)).mono fun _ _ h => ⟨h.1, by rw [h.2]; exact boxS_below _ _ _ _⟩
theorem l1Rel_bF (n : Nat) (S R : ByteArray) (x y : Nat) (w : World) (hx : x < n) (hy : y < n) (hn : n ≤ 8) (hR : R.size = n * n) :
    Calls Tryz.prog 73 #[strV n S R, .int .i64 (x : Int), .int .i64 (y : Int)] w fun e w' => e = .returned (.bool (relAt n R x y)) ∧ Below w.heap.size w w' :=
  (l1Rel_any n S R x y w hx hy hn hR).mono fun _ _ h => ⟨h.1, by rw [h.2]; exact boxS_below _ _ _ _⟩
set_option maxRecDepth 100000 in
set_option maxHeartbeats 4000000 in
theorem l1Fits_any (n : Nat) (S R : ByteArray) (m : Nat) (S2 R2 : ByteArray) (va vb : Value) (L M : List Nat) (l : Nat) (w : World)
    (hS : S.size = n) (hR : R.size = n * n) (hn : n ≤ 8) (hS2 : S2.size = m) (hR2 : R2.size = m * m) (hm : m ≤ 8)
    (hva : NumsAt w va L) (hvb : NumsAt w vb M) (hl : L.length = l + 1) (hlm : M.length = l + 1) (hl8 : l ≤ 100) (hL : ∀ j, j < L.length → L.getD j 0 < n) (hM : ∀ j, j < M.length → M.getD j 0 < m) :
    Calls Tryz.prog 50 #[strV n S R, va, strV m S2 R2, vb] w fun e w' => e = .returned (.bool (Gs.fitsL (stOf n S R) L (stOf m S2 R2) M l)) ∧ Below w.heap.size w w' := by
  obtain ⟨aa, ca, rfl, ca1, ca2, hca⟩ := hva.view
  obtain ⟨ab, cb, rfl, cb1, cb2, hcb⟩ := hvb.view
  unfold maxLen at ca2 cb2
  obtain ⟨ga, oa, rfl, hga, hcka⟩ := hca (by omega)
  obtain ⟨gb, ob, rfl, hgb, hckb⟩ := hcb (by omega)
  rw [hl] at hcka ca1 hL ⊢
  rw [hlm] at hckb cb1 hM ⊢
  have HCA := Lib.hid (fun w' (hb : Below w.heap.size w w') j hj => (hb.cell (p := ⟨ga, oa + j, none⟩) hga).trans (hcka j hj))
  have HCB := Lib.hid (fun w' (hb : Below w.heap.size w w') j hj => (hb.cell (p := ⟨gb, ob + j, none⟩) hgb).trans (hckb j hj))
  clear hca hcb hva hvb hcka hckb
  have HLL := Lib.hid hL
  have HMM := Lib.hid hM
  have R1 := Lib.hid (fun x y w hx hy => l1Rel_bF n S R x y w hx hy hn hR)
  have RR2 := Lib.hid (fun x y w hx hy => l1Rel_bF m S2 R2 x y w hx hy hm hR2)
  have hxl := hL l (by omega)
  have hyl := hM l (by omega)
  have HT := Lib.hid (Two.new w n S R m S2 R2)
  unfold boxS at HT
  obtain ⟨RES, hres⟩ : ∃ p, Gs.fitsL (stOf n S R) L (stOf m S2 R2) M l = p := ⟨_, rfl⟩
  rw [hres]
  have HNO1 := Lib.hid (fun h => Gs.fitsL_no1 (a := stOf n S R) (b := stOf m S2 R2) (L := L) (M := M) (n := l) h)
  have HNO2 := Lib.hid (fun i hi h => Gs.fitsL_no2 (a := stOf n S R) (b := stOf m S2 R2) (L := L) (M := M) (n := l) (i := i) hi h)
  have HYES := Lib.hid (fun h => (Gs.fitsL_iff (a := stOf n S R) (b := stOf m S2 R2) (L := L) (M := M) (n := l)).2 h)
  have HRES := Lib.hid hres
  have D1 := Lib.hid (fun w' hb => HCA.out w' hb l (by omega))
  have D2 := Lib.hid (fun w' hb => HCB.out w' hb l (by omega))
  obtain ⟨x, hx⟩ : ∃ x, L.getD l 0 = x := ⟨_, rfl⟩
  obtain ⟨y, hy⟩ : ∃ x, M.getD l 0 = x := ⟨_, rfl⟩
  rw [hx] at hxl HNO1 HNO2 HYES D1
  rw [hy] at hyl HNO1 HNO2 HYES D2
  have j1 := fun w => l1Set_bF n S R x w hxl hS hn; have j2 := fun w => l1Set_bF m S2 R2 y w hyl hS2 hm
  obtain ⟨p1, hp1⟩ : ∃ p, oneAt S x = p := ⟨_, rfl⟩
  obtain ⟨p2, hp2⟩ : ∃ p, oneAt S2 y = p := ⟨_, rfl⟩
  rw [hp1] at j1; rw [hp2] at j2
  unfold strV at j1 j2
  have J1 := Lib.hid j1; have J2 := Lib.hid j2
  have P1 := Lib.hid hp1; have P2 := Lib.hid hp2
  clear j1 j2 hp1 hp2 hx hy hres hl hlm hL hM hS hS2 hR hR2
  have hwr : IntKind.i64.wrap (((l + 1 : Nat) : Int) - 1) = (l : Int) := by rw [show ((l + 1 : Nat) : Int) - 1 = (l : Int) by omega]; exact IntWalk.i64_in _ (by omega)
  unfold strV
  by_cases hpq : p1 = p2
  · subst hpq
    go_enter Tryz.func50, Tryz.ntmps50
    go_wp2_with fail
    have d1 := D1.out _ HT.out.old
    have d2 := D2.out _ HT.out.old
    have f0 := fun s => Since.cell HT.out.a.cells.1 s
    have f1 := fun s => Since.cell HT.out.a.cells.2.1 s
    have f2 := fun s => Since.cell HT.out.a.cells.2.2.1 s
    have g0 := fun s => Since.cell HT.out.b.cells.1 s
    have g1 := fun s => Since.cell HT.out.b.cells.2.1 s
    have g2 := fun s => Since.cell HT.out.b.cells.2.2.1 s
    have k0 := fun s => Since.cell d1 s
    have k1 := fun s => Since.cell d2 s
    refine wp_region_since (by kernel_rfl) (by kernel_rfl) ?_
    try simp only [List.append_eq, List.cons_append, List.nil_append]
    repeat (go_big_quiet_step (first | (with_reducible exact Since.call (J1.out _)) | (with_reducible exact Since.call (J2.out _))))
    refine wpQuiet_nil ?_
    intro w1 hb1
    have HT1 := Lib.hid (HT.out.below hb1)
    clear f0 f1 f2 g0 g1 g2 hb1 k0 k1
    go_wp2_with fail
    clear d1 d2
    go_loopw [10] (fun i wr => ∃ k : Nat, k ≤ l + 1 ∧ i = .int .i64 (k : Int) ∧ Hid (Two w wr n S R m S2 R2) ∧ Hid (∀ j, j < k → (decide (L.getD j 0 = x) = decide (M.getD j 0 = y) ∧ relAt n R (L.getD j 0) x = relAt m R2 (M.getD j 0) y ∧ relAt n R x (L.getD j 0) = relAt m R2 y (M.getD j 0)))) (fun i _ => l + 1 - (intOf i).toNat)
    case atStart => exact ⟨0, by omega, rfl, HT1.out, fun j hj => absurd hj (by omega)⟩
    case round =>
      clear HT1 HT
      obtain ⟨k, hk, rfl, HT2, HK⟩ := hrel
      by_cases hlt : k ≤ l
      · have hltI : (k : Int) ≤ (l : Int) := by omega
        have d1 := D1.out _ HT2.out.old
        have d2 := D2.out _ HT2.out.old
        have d3 := HCA.out _ HT2.out.old k (by omega)
        have d4 := HCB.out _ HT2.out.old k (by omega)
        have hv := HLL.out k (by omega)
        have hu := HMM.out k (by omega)
        have HNK : Hid (¬ (decide (L.getD k 0 = x) = decide (M.getD k 0 = y) ∧ relAt n R (L.getD k 0) x = relAt m R2 (M.getD k 0) y ∧ relAt n R x (L.getD k 0) = relAt m R2 y (M.getD k 0)) → RES = false) := fun h => HRES.out.symm.trans (HNO2.out k hlt h)
        have HMORE : Hid ((decide (L.getD k 0 = x) = decide (M.getD k 0 = y) ∧ relAt n R (L.getD k 0) x = relAt m R2 (M.getD k 0) y ∧ relAt n R x (L.getD k 0) = relAt m R2 y (M.getD k 0)) → ∀ j, j < k + 1 → (decide (L.getD j 0 = x) = decide (M.getD j 0 = y) ∧ relAt n R (L.getD j 0) x = relAt m R2 (M.getD j 0) y ∧ relAt n R x (L.getD j 0) = relAt m R2 y (M.getD j 0))) := by
          intro h j hj
          by_cases hjk : j = k
          · rw [hjk]; exact h
          · exact HK.out j (by omega)
        generalize L.getD k 0 = v at *
        generalize M.getD k 0 = u at *
        have j5 := fun w => R1.out v x w hv hxl; have j6 := fun w => RR2.out u y w hu hyl; have j7 := fun w => R1.out x v w hxl hv; have j8 := fun w => RR2.out y u w hyl hu
        unfold strV at j5 j6 j7 j8
        have e1 : ((v : Int) == (x : Int)) = decide (v = x) := by rw [Bool.eq_iff_iff, beq_iff_eq, decide_eq_true_eq]; omega
        have e2 : ((u : Int) == (y : Int)) = decide (u = y) := by rw [Bool.eq_iff_iff, beq_iff_eq, decide_eq_true_eq]; omega
        generalize decide (v = x) = c1 at *
        generalize decide (u = y) = c2 at *
        generalize relAt n R v x = s1 at *
        generalize relAt m R2 u y = s2 at *
        generalize relAt n R x v = t1 at *
        generalize relAt m R2 y u = t2 at *
        have J5 := Lib.hid j5; have J6 := Lib.hid j6; have J7 := Lib.hid j7; have J8 := Lib.hid j8
        clear j5 j6 j7 j8
        by_cases hc : c1 = c2
        · subst hc
          by_cases hs : s1 = s2
          · subst hs
            by_cases ht : t1 = t2
            · subst ht
              go_wp2_with fail
              have f0 := fun s => Since.cell HT2.out.a.cells.1 s
              have f1 := fun s => Since.cell HT2.out.a.cells.2.1 s
              have f2 := fun s => Since.cell HT2.out.a.cells.2.2.1 s
              have g0 := fun s => Since.cell HT2.out.b.cells.1 s
              have g1 := fun s => Since.cell HT2.out.b.cells.2.1 s
              have g2 := fun s => Since.cell HT2.out.b.cells.2.2.1 s
              have k0 := fun s => Since.cell d1 s
              have k1 := fun s => Since.cell d2 s
              have k2 := fun s => Since.cell d3 s
              have k3 := fun s => Since.cell d4 s
              refine wp_region_since (by kernel_rfl) (by kernel_rfl) ?_
              try simp only [List.append_eq, List.cons_append, List.nil_append]
              repeat (go_big_quiet_step (first | (with_reducible exact Since.call (J5.out _)) | (with_reducible exact Since.call (J6.out _)) | (with_reducible exact Since.call (J7.out _)) | (with_reducible exact Since.call (J8.out _))))
              refine wpQuiet_nil ?_
              intro w1 hb1
              have HT1 := Lib.hid (HT2.out.below hb1)
              clear f0 f1 f2 g0 g1 g2 hb1 k0 k1 k2 k3
              go_wp2_with fail
              go_roundw
              case rel => exact ⟨k + 1, by omega, by go_num, HT1.out, HMORE.out (by simp)⟩
              case measure => simp [intOf]; omega
            · clear HK HMORE
              have HE : Hid (RES = false) := HNK.out (fun h => ht h.2.2)
              have hne : t2 = !t1 := by cases t2 <;> cases t1 <;> first | rfl | exact absurd rfl ht
              subst hne
              clear HNK ht
              go_wp2_with fail
              have f0 := fun s => Since.cell HT2.out.a.cells.1 s
              have f1 := fun s => Since.cell HT2.out.a.cells.2.1 s
              have f2 := fun s => Since.cell HT2.out.a.cells.2.2.1 s
              have g0 := fun s => Since.cell HT2.out.b.cells.1 s
              have g1 := fun s => Since.cell HT2.out.b.cells.2.1 s
              have g2 := fun s => Since.cell HT2.out.b.cells.2.2.1 s
              have k0 := fun s => Since.cell d1 s
              have k1 := fun s => Since.cell d2 s
              have k2 := fun s => Since.cell d3 s
              have k3 := fun s => Since.cell d4 s
              refine wp_region_since (by kernel_rfl) (by kernel_rfl) ?_
              try simp only [List.append_eq, List.cons_append, List.nil_append]
              repeat (go_big_quiet_step (first | (with_reducible exact Since.call (J5.out _)) | (with_reducible exact Since.call (J6.out _)) | (with_reducible exact Since.call (J7.out _)) | (with_reducible exact Since.call (J8.out _))))
              refine wpQuiet_nil ?_
              intro w1 hb1
              have HT1 := Lib.hid (HT2.out.below hb1)
              clear f0 f1 f2 g0 g1 g2 hb1 k0 k1 k2 k3
              go_wp2_with fail
              go_ret
              exact ⟨ret_bool HE.out.symm, HT1.out.old⟩
          · clear HK HMORE
            have HE : Hid (RES = false) := HNK.out (fun h => hs h.2.1)
            have hne : s2 = !s1 := by cases s2 <;> cases s1 <;> first | rfl | exact absurd rfl hs
            subst hne
            clear HNK hs
            go_wp2_with fail
            have f0 := fun s => Since.cell HT2.out.a.cells.1 s
            have f1 := fun s => Since.cell HT2.out.a.cells.2.1 s
            have f2 := fun s => Since.cell HT2.out.a.cells.2.2.1 s
            have g0 := fun s => Since.cell HT2.out.b.cells.1 s
            have g1 := fun s => Since.cell HT2.out.b.cells.2.1 s
            have g2 := fun s => Since.cell HT2.out.b.cells.2.2.1 s
            have k0 := fun s => Since.cell d1 s
            have k1 := fun s => Since.cell d2 s
            have k2 := fun s => Since.cell d3 s
            have k3 := fun s => Since.cell d4 s
            refine wp_region_since (by kernel_rfl) (by kernel_rfl) ?_
            try simp only [List.append_eq, List.cons_append, List.nil_append]
            repeat (go_big_quiet_step (first | (with_reducible exact Since.call (J5.out _)) | (with_reducible exact Since.call (J6.out _)) | (with_reducible exact Since.call (J7.out _)) | (with_reducible exact Since.call (J8.out _))))
            refine wpQuiet_nil ?_
            intro w1 hb1
            have HT1 := Lib.hid (HT2.out.below hb1)
            clear f0 f1 f2 g0 g1 g2 hb1 k0 k1 k2 k3
            go_wp2_with fail
            go_ret
            exact ⟨ret_bool HE.out.symm, HT1.out.old⟩
        · clear HK HMORE
          have HE : Hid (RES = false) := HNK.out (fun h => hc h.1)
          have hne : c2 = !c1 := by cases c2 <;> cases c1 <;> first | rfl | exact absurd rfl hc
          subst hne
          clear HNK hc
          go_wp2_with fail
          have f0 := fun s => Since.cell HT2.out.a.cells.1 s
          have f1 := fun s => Since.cell HT2.out.a.cells.2.1 s
          have f2 := fun s => Since.cell HT2.out.a.cells.2.2.1 s
          have g0 := fun s => Since.cell HT2.out.b.cells.1 s
          have g1 := fun s => Since.cell HT2.out.b.cells.2.1 s
          have g2 := fun s => Since.cell HT2.out.b.cells.2.2.1 s
          have k0 := fun s => Since.cell d1 s
          have k1 := fun s => Since.cell d2 s
          have k2 := fun s => Since.cell d3 s
          have k3 := fun s => Since.cell d4 s
          refine wp_region_since (by kernel_rfl) (by kernel_rfl) ?_
          try simp only [List.append_eq, List.cons_append, List.nil_append]
          repeat (go_big_quiet_step (first | (with_reducible exact Since.call (J5.out _)) | (with_reducible exact Since.call (J6.out _)) | (with_reducible exact Since.call (J7.out _)) | (with_reducible exact Since.call (J8.out _))))
          refine wpQuiet_nil ?_
          intro w1 hb1
          have HT1 := Lib.hid (HT2.out.below hb1)
          clear f0 f1 f2 g0 g1 g2 hb1 k0 k1 k2 k3
          go_wp2_with fail
          go_ret
          exact ⟨ret_bool HE.out.symm, HT1.out.old⟩
      · have hltI : ¬ (k : Int) ≤ (l : Int) := by omega
        have HE : Hid (RES = true) := by
          show _ = _
          rw [← HRES.out]
          exact HYES.out ⟨P1.out.trans P2.out.symm, fun i hi => HK.out i (by omega)⟩
        clear HK
        go_wp2_with fail
        go_ret
        exact ⟨ret_bool HE.out.symm, HT2.out.old⟩
  · have hne : p2 = !p1 := by cases p1 <;> cases p2 <;> first | rfl | exact absurd rfl hpq
    have HE : Hid (RES = false) := HRES.out.symm.trans (HNO1.out (by show oneAt S x ≠ oneAt S2 y; rw [P1.out, P2.out]; exact hpq))
    subst hne
    clear hpq
    go_enter Tryz.func50, Tryz.ntmps50
    go_wp2_with fail
    have d1 := D1.out _ HT.out.old
    have d2 := D2.out _ HT.out.old
    have f0 := fun s => Since.cell HT.out.a.cells.1 s
    have f1 := fun s => Since.cell HT.out.a.cells.2.1 s
    have f2 := fun s => Since.cell HT.out.a.cells.2.2.1 s
    have g0 := fun s => Since.cell HT.out.b.cells.1 s
    have g1 := fun s => Since.cell HT.out.b.cells.2.1 s
    have g2 := fun s => Since.cell HT.out.b.cells.2.2.1 s
    have k0 := fun s => Since.cell d1 s
    have k1 := fun s => Since.cell d2 s
    refine wp_region_since (by kernel_rfl) (by kernel_rfl) ?_
    try simp only [List.append_eq, List.cons_append, List.nil_append]
    repeat (go_big_quiet_step (first | (with_reducible exact Since.call (J1.out _)) | (with_reducible exact Since.call (J2.out _))))
    refine wpQuiet_nil ?_
    intro w1 hb1
    have HT1 := Lib.hid (HT.out.below hb1)
    clear f0 f1 f2 g0 g1 g2 hb1 k0 k1
    go_wp2_with fail
    go_ret
    exact ⟨ret_bool HE.out.symm, HT1.out.old⟩
end Go.Proofs.YthmhjihppbeodaaGreatDoor

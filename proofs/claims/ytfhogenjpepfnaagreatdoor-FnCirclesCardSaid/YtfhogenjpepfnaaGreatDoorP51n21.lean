/- Contracts of the program's functions and what they compute: part 21. Conditions: those that each theorem states. -/
import Derived.Test.YtfhogenjpepfnaaGreatDoorP51n5
import Derived.Test.YtfhogenjpepfnaaGreatDoorP51n17
namespace Go.Proofs.YtfhogenjpepfnaaGreatDoor
open Go.RowKit
set_option linter.unusedVariables false
theorem index_num (v : Value) (L : List Nat) (y : Nat) (w : World) (hv : NumsAt w v L) : Calls Tryz.prog 60 #[v, .int .i64 (y : Int)] w fun e w' => (∃ z : Int, e = .returned (.int .i64 z) ∧ decide (0 ≤ z) = decide (y ∈ L)) ∧ w' = w := by
  obtain ⟨a, cap, rfl, h1, h2, h3⟩ := hv.view
  have HC := Lib.hid h3
  clear h3 hv
  unfold maxLen at h2
  go_enter Tryz.func60, Tryz.ntmps60
  go_wp2_with fail
  go_loopw [8, 5] (fun i _ wr => (∃ k : Nat, k ≤ L.length ∧ i = .int .i64 (k : Int) ∧ Hid (∀ j, j < k → L.getD j 0 ≠ y)) ∧ wr = w) (fun i _ _ => L.length - (intOf i).toNat)
  case atStart => exact ⟨⟨0, by omega, rfl, fun j hj => by omega⟩, rfl⟩
  case round =>
    obtain ⟨⟨k, hk, rfl, HK⟩, hw⟩ := hrel
    rw [hw]; clear hw
    by_cases hlt : k < L.length
    · obtain ⟨g, o, rfl, hg, hc⟩ := HC.out (by omega)
      have d1 := hc k hlt
      obtain ⟨x, hx⟩ : ∃ x, L.getD k 0 = x := ⟨_, rfl⟩
      rw [hx] at d1
      clear hc
      have hkI : (k : Int) < (L.length : Int) := by omega
      by_cases hxy : x = y
      · have HE : Hid (decide ((0 : Int) ≤ (k : Int)) = decide (y ∈ L)) := by
          show _ = _
          have : y ∈ L := by
            rw [← hxy, ← hx]
            simp [hlt]
          simp [this]
        have e1 : ((y : Int) == (x : Int)) = true := by rw [hxy]; simp
        clear hx hxy
        go_wp2_with fail
        go_ret
        exact ⟨⟨_, rfl, HE.out⟩, rfl⟩
      · have e1 : ((y : Int) == (x : Int)) = false := by simp; omega
        have HX := Lib.hid (fun e : L.getD k 0 = y => hxy (hx.symm.trans e))
        clear hx hxy
        go_wp2_with fail
        go_roundw
        case rel =>
          refine ⟨⟨k + 1, by omega, by go_num, fun j hj => ?_⟩, trivial⟩
          by_cases hjk : j = k
          · rw [hjk]; exact HX.out
          · exact HK.out j (by omega)
        case measure => simp [intOf]; omega
    · have HE : Hid (decide ((0 : Int) ≤ -1) = decide (y ∈ L)) := by
        show _ = _
        have : ¬ y ∈ L := by
          intro hm
          obtain ⟨j, hj, e⟩ := List.mem_iff_getElem.1 hm
          refine HK.out j (by omega) ?_
          simp [hj, e]
        simp [this]
      go_wp2_with fail
      go_ret
      exact ⟨⟨_, rfl, HE.out⟩, rfl⟩
theorem contains_num (v : Value) (L : List Nat) (y : Nat) (w : World) (hv : NumsAt w v L) : Calls Tryz.prog 41 #[v, .int .i64 (y : Int)] w fun e w' => e = .returned (.bool (decide (y ∈ L))) ∧ w' = w := by
  have HI := Lib.hid (index_num v L y w hv)
  obtain ⟨a, cap, rfl, h1, h2, h3⟩ := hv.view
  clear h3 hv
  go_enter Tryz.func41, Tryz.ntmps41
  go_wp2_with fail
  refine HI.out.mono ?_; rintro e w1 ⟨⟨z, rfl, hz⟩, hw⟩; rw [hw]; clear hw
  have HZ := Lib.hid hz; clear hz
  go_wp2_with fail
  go_ret
  exact ⟨ret_bool HZ.out, rfl⟩
namespace Gs
theorem fit_no1 {a b : St} {o : List Nat} {x : Nat} (h : a.s x ≠ b.s o.length ∨ a.r x x ≠ b.r o.length o.length) : fitsI a b o x = false := by
  rw [← Bool.not_eq_true, fitsI_iff]
  rintro ⟨h1, h2, _⟩
  rcases h with h | h
  · exact h h1
  · exact h h2
theorem fit_no2 {a b : St} {o : List Nat} {x k : Nat} (hk : k < o.length) (h : a.r x (o.getD k 0) ≠ b.r o.length k ∨ a.r (o.getD k 0) x ≠ b.r k o.length) : fitsI a b o x = false := by
  rw [← Bool.not_eq_true, fitsI_iff]
  rintro ⟨_, _, h3⟩
  rcases h with h | h
  · exact h (h3 k hk).1
  · exact h (h3 k hk).2
end Gs
set_option maxRecDepth 100000 in
set_option maxHeartbeats 2000000 in
theorem placed_any (n : Nat) (S R S2 R2 : ByteArray) (v : Value) (o : List Nat) (x : Nat) (w : World)
    (hS : S.size = n) (hR : R.size = n * n) (hn : n ≤ 8) (hS2 : S2.size = n) (hR2 : R2.size = n * n)
    (hv : NumsAt w v o) (hl : o.length < n) (ho : ∀ z ∈ o, z < n) (hx : x < n) :
    Calls Tryz.prog 42 #[strV n S R, strV n S2 R2, v, .int .i64 (x : Int)] w fun e w' => e = .returned (.bool (Gs.fitsI (stOf n S R) (stOf n S2 R2) o x)) ∧ Below w.heap.size w w' := by
  obtain ⟨aa, ca, rfl, ca1, ca2, hca⟩ := hv.view
  unfold maxLen at ca2
  have HCA := Lib.hid hca; clear hca hv
  have HA := Lib.hid ho
  have R1 := Lib.hid (fun x y w hx hy => inRel_b n S R x y w hx hy hn hR)
  have RR2 := Lib.hid (fun x y w hx hy => inRel_b n S2 R2 x y w hx hy hn hR2)
  have j1 := fun w => inSet_b n S R x w (by omega) (by omega); have j2 := fun w => inSet_b n S2 R2 o.length w (by omega) (by omega)
  have j3 := fun w => R1.out x x w hx hx; have j4 := fun w => RR2.out o.length o.length w hl hl
  have HT := Lib.hid (Two.new w n S R n S2 R2)
  unfold boxS at HT
  obtain ⟨RES, hres⟩ : ∃ p, Gs.fitsI (stOf n S R) (stOf n S2 R2) o x = p := ⟨_, rfl⟩
  rw [hres]
  have HRES := Lib.hid hres
  have HNO1 := Lib.hid (fun h => Gs.fit_no1 (a := stOf n S R) (b := stOf n S2 R2) (o := o) (x := x) h)
  have HNO2 := Lib.hid (fun k hk h => Gs.fit_no2 (a := stOf n S R) (b := stOf n S2 R2) (o := o) (x := x) (k := k) hk h)
  have HYES := Lib.hid (fun h => (Gs.fitsI_iff (a := stOf n S R) (b := stOf n S2 R2) (o := o) (x := x)).2 h)
  obtain ⟨len, hlen⟩ : ∃ l, o.length = l := ⟨_, rfl⟩
  rw [hlen] at j2 j4 HNO1 HNO2 HYES hl ca1 HCA ⊢
  have HLEN := Lib.hid hlen
  clear hres hlen ho
  obtain ⟨p1, hp1⟩ : ∃ p, oneAt S x = p := ⟨_, rfl⟩
  obtain ⟨p2, hp2⟩ : ∃ p, oneAt S2 len = p := ⟨_, rfl⟩
  obtain ⟨q1, hq1⟩ : ∃ p, relAt n R x x = p := ⟨_, rfl⟩
  obtain ⟨q2, hq2⟩ : ∃ p, relAt n R2 len len = p := ⟨_, rfl⟩
  rw [hp1] at j1; rw [hp2] at j2; rw [hq1] at j3; rw [hq2] at j4
  unfold strV at j1 j2 j3 j4
  have J1 := Lib.hid j1; have J2 := Lib.hid j2; have J3 := Lib.hid j3; have J4 := Lib.hid j4
  have P1 := Lib.hid hp1; have P2 := Lib.hid hp2; have Q1 := Lib.hid hq1; have Q2 := Lib.hid hq2
  clear j1 j2 j3 j4 hp1 hp2 hq1 hq2 hS hS2 hR hR2
  unfold strV
  by_cases hpq : p1 = p2
  · subst hpq
    by_cases hqq : q1 = q2
    · subst hqq
      go_enter Tryz.func42, Tryz.ntmps42
      go_wp2_with fail
      have f0 := fun s => Since.cell HT.out.a.cells.1 s
      have f1 := fun s => Since.cell HT.out.a.cells.2.1 s
      have f2 := fun s => Since.cell HT.out.a.cells.2.2.1 s
      have g0 := fun s => Since.cell HT.out.b.cells.1 s
      have g1 := fun s => Since.cell HT.out.b.cells.2.1 s
      have g2 := fun s => Since.cell HT.out.b.cells.2.2.1 s
      refine wp_region_since (by kernel_rfl) (by kernel_rfl) ?_
      repeat (go_big_quiet_step (first | (with_reducible exact Since.call (J1.out _)) | (with_reducible exact Since.call (J2.out _)) | (with_reducible exact Since.call (J3.out _)) | (with_reducible exact Since.call (J4.out _))))
      refine wpQuiet_nil ?_
      intro w1 hb1
      have HT1 := Lib.hid (HT.out.below hb1)
      clear f0 f1 f2 g0 g1 g2 hb1
      go_wp2_with fail
      go_loopw [34] (fun i wr => ∃ k : Nat, k ≤ len ∧ i = .int .i64 k ∧ Hid (Two w wr n S R n S2 R2) ∧ Hid (∀ j, j < k → relAt n R x (o.getD j 0) = relAt n R2 len j ∧ relAt n R (o.getD j 0) x = relAt n R2 j len)) (fun i _ => len - (intOf i).toNat)
      case atStart => exact ⟨0, by omega, rfl, HT1.out, fun j hj => absurd hj (by omega)⟩
      case round =>
        clear HT1 HT
        obtain ⟨k, hk, rfl, HT2, HK⟩ := hrel
        by_cases hlt : k < len
        · obtain ⟨ga, oa, rfl, hga, hcka⟩ := HCA.out (by omega)
          have d1 := (HT2.out.old.cell (p := ⟨ga, oa + k, none⟩) hga).trans (hcka k hlt)
          have hy : o.getD k 0 < n := HA.out _ (by simp [HLEN.out, hlt])
          have HNK := Lib.hid (HNO2.out k hlt)
          have HMORE : Hid (relAt n R x (o.getD k 0) = relAt n R2 len k ∧ relAt n R (o.getD k 0) x = relAt n R2 k len → ∀ j, j < k + 1 → relAt n R x (o.getD j 0) = relAt n R2 len j ∧ relAt n R (o.getD j 0) x = relAt n R2 j len) := by
            intro h j hj
            by_cases hjk : j = k
            · rw [hjk]; exact h
            · exact HK.out j (by omega)
          have HNK2 : Hid (relAt n R x (o.getD k 0) ≠ relAt n R2 len k ∨ relAt n R (o.getD k 0) x ≠ relAt n R2 k len → RES = false) := fun h => HRES.out.symm.trans (HNK.out h)
          clear hcka HNK
          have hkn : k < n := by omega
          have hkI : (k : Int) < (len : Int) := by omega
          generalize o.getD k 0 = y at *
          have j5 := fun w => R1.out x y w hx hy; have j6 := fun w => RR2.out len k w hl hkn; have j7 := fun w => R1.out y x w hy hx; have j8 := fun w => RR2.out k len w hkn hl
          unfold strV at j5 j6 j7 j8
          generalize relAt n R x y = s1 at *
          generalize relAt n R2 len k = s2 at *
          generalize relAt n R y x = t1 at *
          generalize relAt n R2 k len = t2 at *
          have J5 := Lib.hid j5; have J6 := Lib.hid j6; have J7 := Lib.hid j7; have J8 := Lib.hid j8
          clear j5 j6 j7 j8
          by_cases hs : s1 = s2
          · subst hs
            by_cases ht : t1 = t2
            · subst ht
              go_wp2_with fail
              have f0 := fun s => Since.cell HT2.out.a.cells.1 s
              have f1 := fun s => Since.cell HT2.out.a.cells.2.1 s
              have f2 := fun s => Since.cell HT2.out.a.cells.2.2.1 s
              have g0 := fun s => Since.cell HT2.out.b.cells.1 s
              have g1 := fun s => Since.cell HT2.out.b.cells.2.1 s
              have g2 := fun s => Since.cell HT2.out.b.cells.2.2.1 s
              refine wp_region_since (by kernel_rfl) (by kernel_rfl) ?_
              repeat (go_big_quiet_step (first | (with_reducible exact Since.call (J5.out _)) | (with_reducible exact Since.call (J6.out _)) | (with_reducible exact Since.call (J7.out _)) | (with_reducible exact Since.call (J8.out _))))
              refine wpQuiet_nil ?_
              intro w1 hb1
              have HT1 := Lib.hid (HT2.out.below hb1)
              clear f0 f1 f2 g0 g1 g2 hb1
              go_wp2_with fail
              go_roundw
              case rel => exact ⟨k + 1, by omega, by go_num, HT1.out, HMORE.out (by simp)⟩
              case measure => simp [intOf]; omega
            · clear HK HMORE
              have HE : Hid (RES = false) := HNK2.out (.inr ht)
              have hne : t2 = !t1 := by cases t2 <;> cases t1 <;> first | rfl | exact absurd rfl ht
              subst hne
              clear HNK2 ht
              go_wp2_with fail
              have f0 := fun s => Since.cell HT2.out.a.cells.1 s
              have f1 := fun s => Since.cell HT2.out.a.cells.2.1 s
              have f2 := fun s => Since.cell HT2.out.a.cells.2.2.1 s
              have g0 := fun s => Since.cell HT2.out.b.cells.1 s
              have g1 := fun s => Since.cell HT2.out.b.cells.2.1 s
              have g2 := fun s => Since.cell HT2.out.b.cells.2.2.1 s
              refine wp_region_since (by kernel_rfl) (by kernel_rfl) ?_
              repeat (go_big_quiet_step (first | (with_reducible exact Since.call (J5.out _)) | (with_reducible exact Since.call (J6.out _)) | (with_reducible exact Since.call (J7.out _)) | (with_reducible exact Since.call (J8.out _))))
              refine wpQuiet_nil ?_
              intro w1 hb1
              have HT1 := Lib.hid (HT2.out.below hb1)
              clear f0 f1 f2 g0 g1 g2 hb1
              go_wp2_with fail
              go_ret
              exact ⟨ret_bool HE.out.symm, HT1.out.old⟩
          · clear HK HMORE
            have HE : Hid (RES = false) := HNK2.out (.inl hs)
            have hne : s2 = !s1 := by cases s2 <;> cases s1 <;> first | rfl | exact absurd rfl hs
            subst hne
            clear HNK2 hs
            go_wp2_with fail
            have f0 := fun s => Since.cell HT2.out.a.cells.1 s
            have f1 := fun s => Since.cell HT2.out.a.cells.2.1 s
            have f2 := fun s => Since.cell HT2.out.a.cells.2.2.1 s
            have g0 := fun s => Since.cell HT2.out.b.cells.1 s
            have g1 := fun s => Since.cell HT2.out.b.cells.2.1 s
            have g2 := fun s => Since.cell HT2.out.b.cells.2.2.1 s
            refine wp_region_since (by kernel_rfl) (by kernel_rfl) ?_
            repeat (go_big_quiet_step (first | (with_reducible exact Since.call (J5.out _)) | (with_reducible exact Since.call (J6.out _)) | (with_reducible exact Since.call (J7.out _)) | (with_reducible exact Since.call (J8.out _))))
            refine wpQuiet_nil ?_
            intro w1 hb1
            have HT1 := Lib.hid (HT2.out.below hb1)
            clear f0 f1 f2 g0 g1 g2 hb1
            go_wp2_with fail
            go_ret
            exact ⟨ret_bool HE.out.symm, HT1.out.old⟩
        · have HE : Hid (RES = true) := by
            show _ = _
            rw [← HRES.out]
            refine HYES.out ⟨P1.out.trans P2.out.symm, Q1.out.trans Q2.out.symm, fun j hj => HK.out j ?_⟩
            omega
          clear HK
          have hkn : ¬ (k : Int) < (len : Int) := by omega
          go_wp2_with fail
          go_ret
          exact ⟨ret_bool HE.out.symm, HT2.out.old⟩
    · have hne : q2 = !q1 := by cases q1 <;> cases q2 <;> first | rfl | exact absurd rfl hqq
      have HE : Hid (RES = false) := HRES.out.symm.trans (HNO1.out (.inr (by show relAt n R x x ≠ relAt n R2 len len; rw [Q1.out, Q2.out]; exact hqq)))
      subst hne
      clear hqq
      go_enter Tryz.func42, Tryz.ntmps42
      go_wp2_with fail
      have f0 := fun s => Since.cell HT.out.a.cells.1 s
      have f1 := fun s => Since.cell HT.out.a.cells.2.1 s
      have f2 := fun s => Since.cell HT.out.a.cells.2.2.1 s
      have g0 := fun s => Since.cell HT.out.b.cells.1 s
      have g1 := fun s => Since.cell HT.out.b.cells.2.1 s
      have g2 := fun s => Since.cell HT.out.b.cells.2.2.1 s
      refine wp_region_since (by kernel_rfl) (by kernel_rfl) ?_
      repeat (go_big_quiet_step (first | (with_reducible exact Since.call (J1.out _)) | (with_reducible exact Since.call (J2.out _)) | (with_reducible exact Since.call (J3.out _)) | (with_reducible exact Since.call (J4.out _))))
      refine wpQuiet_nil ?_
      intro w1 hb1
      have HT1 := Lib.hid (HT.out.below hb1)
      clear f0 f1 f2 g0 g1 g2 hb1
      go_wp2_with fail
      go_ret
      exact ⟨ret_bool HE.out.symm, HT1.out.old⟩
  · have hne : p2 = !p1 := by cases p1 <;> cases p2 <;> first | rfl | exact absurd rfl hpq
    have HE : Hid (RES = false) := HRES.out.symm.trans (HNO1.out (.inl (by show oneAt S x ≠ oneAt S2 len; rw [P1.out, P2.out]; exact hpq)))
    subst hne
    clear hpq
    go_enter Tryz.func42, Tryz.ntmps42
    go_wp2_with fail
    have f0 := fun s => Since.cell HT.out.a.cells.1 s
    have f1 := fun s => Since.cell HT.out.a.cells.2.1 s
    have f2 := fun s => Since.cell HT.out.a.cells.2.2.1 s
    have g0 := fun s => Since.cell HT.out.b.cells.1 s
    have g1 := fun s => Since.cell HT.out.b.cells.2.1 s
    have g2 := fun s => Since.cell HT.out.b.cells.2.2.1 s
    refine wp_region_since (by kernel_rfl) (by kernel_rfl) ?_
    repeat (go_big_quiet_step (first | (with_reducible exact Since.call (J1.out _)) | (with_reducible exact Since.call (J2.out _)) | (with_reducible exact Since.call (J3.out _)) | (with_reducible exact Since.call (J4.out _))))
    refine wpQuiet_nil ?_
    intro w1 hb1
    have HT1 := Lib.hid (HT.out.below hb1)
    clear f0 f1 f2 g0 g1 g2 hb1
    go_wp2_with fail
    go_ret
    exact ⟨ret_bool HE.out.symm, HT1.out.old⟩
end Go.Proofs.YtfhogenjpepfnaaGreatDoor

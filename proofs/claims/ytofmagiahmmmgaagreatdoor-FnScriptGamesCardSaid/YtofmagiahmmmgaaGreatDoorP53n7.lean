/- Contracts of the program's functions and what they compute: part 7. Conditions: those that each theorem states. -/
import Derived.Test.YtofmagiahmmmgaaGreatDoorP53n1
import Derived.Test.YtofmagiahmmmgaaGreatDoorP53n3
import Derived.Test.YtofmagiahmmmgaaGreatDoorP53n5
import Derived.Outline
namespace Go.Proofs.YtofmagiahmmmgaaGreatDoor
open Go.RowKit
set_option linter.unusedVariables false
/-- A structure's plain form. -/
def stOf (n : Nat) (S R : ByteArray) : Gs.St := ⟨n, oneAt S, relAt n R⟩
theorem inSet_b (n : Int) (S R : ByteArray) (x : Nat) (w : World) (hx : x < S.size) (hS : S.size ≤ 9223372036854775807) :
    Calls Tryz.prog 100 #[strV n S R, .int .i64 (x : Int)] w fun e w' => e = .returned (.bool (oneAt S x)) ∧ Below w.heap.size w w' :=
  (inSet_any n S R x w hx hS).mono fun _ _ ⟨h1, h2⟩ => ⟨h1, by rw [h2]; exact boxS_below _ _ _ _⟩
theorem inRel_b (n : Nat) (S R : ByteArray) (x y : Nat) (w : World) (hx : x < n) (hy : y < n) (hn : n ≤ 8) (hR : R.size = n * n) :
    Calls Tryz.prog 101 #[strV n S R, .int .i64 (x : Int), .int .i64 (y : Int)] w fun e w' => e = .returned (.bool (relAt n R x y)) ∧ Below w.heap.size w w' :=
  (inRel_any n S R x y w hx hy hn hR).mono fun _ _ ⟨h1, h2⟩ => ⟨h1, by rw [h2]; exact boxS_below _ _ _ _⟩
/-- Two structures in the blocks B and B + 1. -/
structure Two (w wr : World) (n : Nat) (S R : ByteArray) (m : Nat) (S2 R2 : ByteArray) : Prop where
  a : SBlk wr w.heap.size n S R
  b : SBlk wr (w.heap.size + 1) m S2 R2
  old : Below w.heap.size w wr
theorem Two.below {w wr w' : World} {n m : Nat} {S R S2 R2 : ByteArray} (h : Two w wr n S R m S2 R2) (hb : Below wr.heap.size wr w') : Two w w' n S R m S2 R2 := by
  have h1 := h.b.cells.2.2.2.2.2.2
  exact ⟨h.a.below hb (by omega), h.b.below hb h1, h.old.trans (hb.mono (by omega))⟩
theorem Two.new (w : World) (n : Nat) (S R : ByteArray) (m : Nat) (S2 R2 : ByteArray) : Two w (boxS (boxS w n S R) m S2 R2) n S R m S2 R2 := by
  refine ⟨(boxS_SBlk w n S R).below (boxS_below (boxS w n S R) m S2 R2) (by rw [boxS_size]; omega), ?_, (boxS_below w n S R).trans ((boxS_below _ _ _ _).mono (by rw [boxS_size]; omega))⟩
  have h := boxS_SBlk (boxS w n S R) m S2 R2
  rw [boxS_size] at h
  exact h
theorem still_no {a b : Gs.St} {la lb : List Nat} {x y : Nat} (h : a.s x ≠ b.s y ∨ a.r x x ≠ b.r y y) : Gs.still a la b lb x y = false := by
  unfold Gs.still
  rcases h with h | h
  · rw [show (a.s x == b.s y) = false by simpa using h]; rfl
  · rw [show (a.r x x == b.r y y) = false by simpa using h]; simp
/-- What is asked of a pair. -/
def pairOk (a b : Gs.St) (x y : Nat) (p : Nat × Nat) : Bool := ((decide (p.1 = x)) == (decide (p.2 = y))) && (a.r p.1 x == b.r p.2 y) && (a.r x p.1 == b.r y p.2)
theorem still_yes {a b : Gs.St} {la lb : List Nat} {x y : Nat} (h : a.s x = b.s y) (h' : a.r x x = b.r y y) (k : (la.zip lb).all (pairOk a b x y) = true) : Gs.still a la b lb x y = true := by
  unfold Gs.still
  rw [h, h']
  simp only [beq_self_eq_true, Bool.true_and]
  exact k
theorem still_not {a b : Gs.St} {la lb : List Nat} {x y : Nat} {k : Nat} (hk : k < la.length) (hk' : k < lb.length) (h : pairOk a b x y (la[k], lb[k]) = false) : Gs.still a la b lb x y = false := by
  rw [← Bool.not_eq_true, Gs.still]
  intro hh
  rw [Bool.and_eq_true] at hh
  have hm : (la[k], lb[k]) ∈ la.zip lb := by
    have : (la.zip lb)[k]'(by rw [List.length_zip]; omega) = (la[k], lb[k]) := by simp
    rw [← this]
    exact List.getElem_mem _
  have := List.all_eq_true.1 hh.2 _ hm
  have e : pairOk a b x y (la[k], lb[k]) = true := this
  rw [h] at e; cases e
theorem zip_take_succ {a b : Gs.St} {la lb : List Nat} {x y : Nat} {k : Nat} (hk : k < la.length) (hk' : k < lb.length) (h : ((la.zip lb).take k).all (pairOk a b x y) = true) (h' : pairOk a b x y (la[k], lb[k]) = true) : ((la.zip lb).take (k + 1)).all (pairOk a b x y) = true := by
  rw [List.take_succ_eq_append_getElem (by rw [List.length_zip]; omega), List.all_append, h]
  simp [h']
set_option maxRecDepth 100000 in
set_option maxHeartbeats 1000000 in
theorem stillSame_any (n : Nat) (S R : ByteArray) (m : Nat) (S2 R2 : ByteArray) (va vb : Value) (la lb : List Nat) (x y : Nat) (w : World)
    (hS : S.size = n) (hR : R.size = n * n) (hn : n ≤ 8) (hS2 : S2.size = m) (hR2 : R2.size = m * m) (hm : m ≤ 8)
    (hva : NumsAt w va la) (hvb : NumsAt w vb lb) (hl : la.length = lb.length) (hl8 : la.length ≤ 8) (ha : ∀ z ∈ la, z < n) (hb : ∀ z ∈ lb, z < m) (hx : x < n) (hy : y < m) :
    Calls Tryz.prog 91 #[strV n S R, va, strV m S2 R2, vb, .int .i64 (x : Int), .int .i64 (y : Int)] w fun e w' => e = .returned (.bool (Gs.still (stOf n S R) la (stOf m S2 R2) lb x y)) ∧ Below w.heap.size w w' := by
  obtain ⟨aa, ca, rfl, ca1, ca2, hca⟩ := hva.view
  obtain ⟨ab, cb, rfl, cb1, cb2, hcb⟩ := hvb.view
  unfold maxLen at ca2 cb2
  have HCA := Lib.hid hca; have HCB := Lib.hid hcb; clear hca hcb hva hvb
  have HL := Lib.hid hl
  have HA := Lib.hid ha; have HB := Lib.hid hb
  have R1 := Lib.hid (fun x y w hx hy => inRel_b n S R x y w hx hy hn hR)
  have RR2 := Lib.hid (fun x y w hx hy => inRel_b m S2 R2 x y w hx hy hm hR2)
  have j1 := fun w => inSet_b n S R x w (by omega) (by omega); have j2 := fun w => inSet_b m S2 R2 y w (by omega) (by omega)
  have j3 := fun w => R1.out x x w hx hx; have j4 := fun w => RR2.out y y w hy hy
  have HT := Lib.hid (Two.new w n S R m S2 R2)
  unfold boxS at HT
  rw [← hl]
  obtain ⟨p1, hp1⟩ : ∃ p, oneAt S x = p := ⟨_, rfl⟩
  obtain ⟨p2, hp2⟩ : ∃ p, oneAt S2 y = p := ⟨_, rfl⟩
  obtain ⟨q1, hq1⟩ : ∃ p, relAt n R x x = p := ⟨_, rfl⟩
  obtain ⟨q2, hq2⟩ : ∃ p, relAt m R2 y y = p := ⟨_, rfl⟩
  obtain ⟨RES, hres⟩ : ∃ p, Gs.still (stOf n S R) la (stOf m S2 R2) lb x y = p := ⟨_, rfl⟩
  rw [hres]
  have HRES := Lib.hid hres
  rw [hp1] at j1; rw [hp2] at j2; rw [hq1] at j3; rw [hq2] at j4
  unfold strV at j1 j2 j3 j4
  have J1 := Lib.hid j1; have J2 := Lib.hid j2; have J3 := Lib.hid j3; have J4 := Lib.hid j4
  have P1 := Lib.hid hp1; have P2 := Lib.hid hp2; have Q1 := Lib.hid hq1; have Q2 := Lib.hid hq2
  clear j1 j2 j3 j4 hres hp1 hp2 hq1 hq2 ha hb hl hS hS2 hR hR2
  generalize hlen : la.length = len at *
  have HLEN := Lib.hid hlen; clear hlen
  by_cases hpq : p1 = p2
  · subst hpq
    by_cases hqq : q1 = q2
    · subst hqq
      unfold strV
      go_enter Tryz.func91, Tryz.ntmps91
      go_wp2_with fail
      have f0 := fun s => Since.cell HT.out.a.cells.1 s
      have f1 := fun s => Since.cell HT.out.a.cells.2.1 s
      have f2 := fun s => Since.cell HT.out.a.cells.2.2.1 s
      have g0 := fun s => Since.cell HT.out.b.cells.1 s
      have g1 := fun s => Since.cell HT.out.b.cells.2.1 s
      have g2 := fun s => Since.cell HT.out.b.cells.2.2.1 s
      refine wp_region_since (by kernel_rfl) (by kernel_rfl) ?_
      repeat (go_big_quiet_step (first | (with_reducible exact Since.call (J1.out _)) | (with_reducible exact Since.call (J2.out _)) | (with_reducible exact Since.call (J3.out _)) | (with_reducible exact Since.call (J4.out _))))
      refine wpQuiet_nil ?_
      intro w1 hb1
      have HT1 := Lib.hid (HT.out.below hb1)
      clear f0 f1 f2 g0 g1 g2 hb1
      go_wp2_with fail
      go_loopw [36] (fun i wr => ∃ k : Nat, k ≤ len ∧ i = .int .i64 k ∧ Hid (Two w wr n S R m S2 R2) ∧ Hid (((la.zip lb).take k).all (pairOk (stOf n S R) (stOf m S2 R2) x y) = true)) (fun i _ => len - (intOf i).toNat)
      case atStart => exact ⟨0, by omega, rfl, HT1.out, rfl⟩
      case round =>
        obtain ⟨k, hk, rfl, HT2, HK⟩ := hrel
        by_cases hlt : k < len
        · obtain ⟨ga, oa, rfl, hga, hcka⟩ := HCA.out (by omega)
          obtain ⟨gb, ob, rfl, hgb, hckb⟩ := HCB.out (by rw [← HL.out]; omega)
          have hka : k < la.length := by rw [HLEN.out]; exact hlt
          have hkb : k < lb.length := by rw [← HL.out]; exact hlt
          have d1 := (HT2.out.old.cell (p := ⟨ga, oa + k, none⟩) hga).trans (hcka k hlt)
          have d2 := (HT2.out.old.cell (p := ⟨gb, ob + k, none⟩) hgb).trans (hckb k hkb)
          have hv : la.getD k 0 < n := HA.out _ (by simp [hka])
          have hu : lb.getD k 0 < m := HB.out _ (by simp [hkb])
          have HOK := Lib.hid (fun h => still_not (a := stOf n S R) (b := stOf m S2 R2) (x := x) (y := y) hka hkb h)
          have HMORE := Lib.hid (fun h h' => zip_take_succ (a := stOf n S R) (b := stOf m S2 R2) (x := x) (y := y) hka hkb h h')
          rw [show (la[k], lb[k]) = (la.getD k 0, lb.getD k 0) by simp [hka, hkb]] at HOK HMORE
          clear hcka hckb hka hkb
          generalize la.getD k 0 = v at *
          generalize lb.getD k 0 = u at *
          have j5 := fun w => R1.out v x w hv hx; have j6 := fun w => RR2.out u y w hu hy; have j7 := fun w => R1.out x v w hx hv; have j8 := fun w => RR2.out y u w hy hu
          unfold strV at j5 j6 j7 j8
          have e1 : ((v : Int) == (x : Int)) = decide (v = x) := by rw [Bool.eq_iff_iff, beq_iff_eq, decide_eq_true_eq]; omega
          have e2 : ((u : Int) == (y : Int)) = decide (u = y) := by rw [Bool.eq_iff_iff, beq_iff_eq, decide_eq_true_eq]; omega
          have HP : Hid (pairOk (stOf n S R) (stOf m S2 R2) x y (v, u) = (((decide (v = x)) == (decide (u = y))) && (relAt n R v x == relAt m R2 u y) && (relAt n R x v == relAt m R2 y u))) := rfl
          generalize decide (v = x) = c1 at *
          generalize decide (u = y) = c2 at *
          generalize relAt n R v x = s1 at *
          generalize relAt m R2 u y = s2 at *
          generalize relAt n R x v = t1 at *
          generalize relAt m R2 y u = t2 at *
          have J5 := Lib.hid j5; have J6 := Lib.hid j6; have J7 := Lib.hid j7; have J8 := Lib.hid j8
          clear j5 j6 j7 j8
          by_cases hc : c1 = c2
          · subst hc
            by_cases hs : s1 = s2
            · subst hs
              by_cases ht : t1 = t2
              · subst ht
                have HP1 : Hid (pairOk (stOf n S R) (stOf m S2 R2) x y (v, u) = true) := by show _ = _; rw [HP.out]; simp
                clear HP
                go_wp2_with fail
                have f0 := fun s => Since.cell HT2.out.a.cells.1 s
                have f1 := fun s => Since.cell HT2.out.a.cells.2.1 s
                have f2 := fun s => Since.cell HT2.out.a.cells.2.2.1 s
                have g0 := fun s => Since.cell HT2.out.b.cells.1 s
                have g1 := fun s => Since.cell HT2.out.b.cells.2.1 s
                have g2 := fun s => Since.cell HT2.out.b.cells.2.2.1 s
                refine wp_region_since (by kernel_rfl) (by kernel_rfl) ?_
                repeat (go_big_quiet_step (first | (with_reducible exact Since.call (J5.out _)) | (with_reducible exact Since.call (J6.out _)) | (with_reducible exact Since.call (J7.out _)) | (with_reducible exact Since.call (J8.out _))))
                refine wpQuiet_nil ?_
                intro w1 hb1
                have HT3 := Lib.hid (HT2.out.below hb1)
                clear f0 f1 f2 g0 g1 g2 hb1
                go_wp2_with fail
                go_roundw
                case rel => exact ⟨k + 1, by omega, by go_num, HT3.out, HMORE.out HK.out HP1.out⟩
                case measure => simp [intOf]; omega
              · clear HK
                have hne : t2 = !t1 := by cases t2 <;> cases t1 <;> first | rfl | exact absurd rfl ht
                subst hne
                have HP1 : Hid (pairOk (stOf n S R) (stOf m S2 R2) x y (v, u) = false) := by show _ = _; rw [HP.out]; simp
                clear HP HMORE
                go_wp2_with fail
                have f0 := fun s => Since.cell HT2.out.a.cells.1 s
                have f1 := fun s => Since.cell HT2.out.a.cells.2.1 s
                have f2 := fun s => Since.cell HT2.out.a.cells.2.2.1 s
                have g0 := fun s => Since.cell HT2.out.b.cells.1 s
                have g1 := fun s => Since.cell HT2.out.b.cells.2.1 s
                have g2 := fun s => Since.cell HT2.out.b.cells.2.2.1 s
                refine wp_region_since (by kernel_rfl) (by kernel_rfl) ?_
                repeat (go_big_quiet_step (first | (with_reducible exact Since.call (J5.out _)) | (with_reducible exact Since.call (J6.out _)) | (with_reducible exact Since.call (J7.out _)) | (with_reducible exact Since.call (J8.out _))))
                refine wpQuiet_nil ?_
                intro w1 hb1
                have HT3 := Lib.hid (HT2.out.below hb1)
                clear f0 f1 f2 g0 g1 g2 hb1
                go_wp2_with fail
                go_ret
                exact ⟨ret_bool (by rw [← HRES.out]; exact (HOK.out HP1.out).symm), HT3.out.old⟩
            · clear HK
              have hne : s2 = !s1 := by cases s2 <;> cases s1 <;> first | rfl | exact absurd rfl hs
              subst hne
              have HP1 : Hid (pairOk (stOf n S R) (stOf m S2 R2) x y (v, u) = false) := by show _ = _; rw [HP.out]; simp
              clear HP HMORE
              go_wp2_with fail
              have f0 := fun s => Since.cell HT2.out.a.cells.1 s
              have f1 := fun s => Since.cell HT2.out.a.cells.2.1 s
              have f2 := fun s => Since.cell HT2.out.a.cells.2.2.1 s
              have g0 := fun s => Since.cell HT2.out.b.cells.1 s
              have g1 := fun s => Since.cell HT2.out.b.cells.2.1 s
              have g2 := fun s => Since.cell HT2.out.b.cells.2.2.1 s
              refine wp_region_since (by kernel_rfl) (by kernel_rfl) ?_
              repeat (go_big_quiet_step (first | (with_reducible exact Since.call (J5.out _)) | (with_reducible exact Since.call (J6.out _)) | (with_reducible exact Since.call (J7.out _)) | (with_reducible exact Since.call (J8.out _))))
              refine wpQuiet_nil ?_
              intro w1 hb1
              have HT3 := Lib.hid (HT2.out.below hb1)
              clear f0 f1 f2 g0 g1 g2 hb1
              go_wp2_with fail
              go_ret
              exact ⟨ret_bool (by rw [← HRES.out]; exact (HOK.out HP1.out).symm), HT3.out.old⟩
          · clear HK
            have hne : c2 = !c1 := by cases c2 <;> cases c1 <;> first | rfl | exact absurd rfl hc
            subst hne
            have HP1 : Hid (pairOk (stOf n S R) (stOf m S2 R2) x y (v, u) = false) := by show _ = _; rw [HP.out]; simp
            clear HP HMORE
            go_wp2_with fail
            have f0 := fun s => Since.cell HT2.out.a.cells.1 s
            have f1 := fun s => Since.cell HT2.out.a.cells.2.1 s
            have f2 := fun s => Since.cell HT2.out.a.cells.2.2.1 s
            have g0 := fun s => Since.cell HT2.out.b.cells.1 s
            have g1 := fun s => Since.cell HT2.out.b.cells.2.1 s
            have g2 := fun s => Since.cell HT2.out.b.cells.2.2.1 s
            refine wp_region_since (by kernel_rfl) (by kernel_rfl) ?_
            repeat (go_big_quiet_step (first | (with_reducible exact Since.call (J5.out _)) | (with_reducible exact Since.call (J6.out _)) | (with_reducible exact Since.call (J7.out _)) | (with_reducible exact Since.call (J8.out _))))
            refine wpQuiet_nil ?_
            intro w1 hb1
            have HT3 := Lib.hid (HT2.out.below hb1)
            clear f0 f1 f2 g0 g1 g2 hb1
            go_wp2_with fail
            go_ret
            exact ⟨ret_bool (by rw [← HRES.out]; exact (HOK.out HP1.out).symm), HT3.out.old⟩
        · have hkn : k = len := by omega
          have HE : Hid (Gs.still (stOf n S R) la (stOf m S2 R2) lb x y = true) := by
            refine still_yes ?_ ?_ ?_
            · exact P1.out.trans P2.out.symm
            · exact Q1.out.trans Q2.out.symm
            · have h := HK.out
              rw [List.take_of_length_le (by rw [List.length_zip, HLEN.out, ← HL.out]; omega)] at h
              exact h
          clear HK
          go_wp2_with fail
          go_ret
          exact ⟨ret_bool (by rw [← HRES.out]; exact HE.out.symm), HT2.out.old⟩
    · have hne : q2 = !q1 := by cases q1 <;> cases q2 <;> first | rfl | exact absurd rfl hqq
      have HE : Hid (Gs.still (stOf n S R) la (stOf m S2 R2) lb x y = false) := still_no (.inr (by show relAt n R x x ≠ relAt m R2 y y; rw [Q1.out, Q2.out]; exact hqq))
      subst hne
      clear hqq
      unfold strV
      go_enter Tryz.func91, Tryz.ntmps91
      go_wp2_with fail
      have f0 := fun s => Since.cell HT.out.a.cells.1 s
      have f1 := fun s => Since.cell HT.out.a.cells.2.1 s
      have f2 := fun s => Since.cell HT.out.a.cells.2.2.1 s
      have g0 := fun s => Since.cell HT.out.b.cells.1 s
      have g1 := fun s => Since.cell HT.out.b.cells.2.1 s
      have g2 := fun s => Since.cell HT.out.b.cells.2.2.1 s
      refine wp_region_since (by kernel_rfl) (by kernel_rfl) ?_
      repeat (go_big_quiet_step (first | (with_reducible exact Since.call (J1.out _)) | (with_reducible exact Since.call (J2.out _)) | (with_reducible exact Since.call (J3.out _)) | (with_reducible exact Since.call (J4.out _))))
      refine wpQuiet_nil ?_
      intro w1 hb1
      have HT1 := Lib.hid (HT.out.below hb1)
      clear f0 f1 f2 g0 g1 g2 hb1
      go_wp2_with fail
      go_ret
      exact ⟨ret_bool (by rw [← HRES.out]; exact HE.out.symm), HT1.out.old⟩
  · have hne : p2 = !p1 := by cases p1 <;> cases p2 <;> first | rfl | exact absurd rfl hpq
    have HE : Hid (Gs.still (stOf n S R) la (stOf m S2 R2) lb x y = false) := still_no (.inl (by show oneAt S x ≠ oneAt S2 y; rw [P1.out, P2.out]; exact hpq))
    subst hne
    clear hpq
    unfold strV
    go_enter Tryz.func91, Tryz.ntmps91
    go_wp2_with fail
    have f0 := fun s => Since.cell HT.out.a.cells.1 s
    have f1 := fun s => Since.cell HT.out.a.cells.2.1 s
    have f2 := fun s => Since.cell HT.out.a.cells.2.2.1 s
    have g0 := fun s => Since.cell HT.out.b.cells.1 s
    have g1 := fun s => Since.cell HT.out.b.cells.2.1 s
    have g2 := fun s => Since.cell HT.out.b.cells.2.2.1 s
    refine wp_region_since (by kernel_rfl) (by kernel_rfl) ?_
    repeat (go_big_quiet_step (first | (with_reducible exact Since.call (J1.out _)) | (with_reducible exact Since.call (J2.out _)) | (with_reducible exact Since.call (J3.out _)) | (with_reducible exact Since.call (J4.out _))))
    refine wpQuiet_nil ?_
    intro w1 hb1
    have HT1 := Lib.hid (HT.out.below hb1)
    clear f0 f1 f2 g0 g1 g2 hb1
    go_wp2_with fail
    go_ret
    exact ⟨ret_bool (by rw [← HRES.out]; exact HE.out.symm), HT1.out.old⟩
end Go.Proofs.YtofmagiahmmmgaaGreatDoor

/- The reference's SameShape and WordOf. Condition: the texts' lengths fit an integer. -/
import Derived.Test.YtjepegkbbbebkaaDoorOrderS
import Derived.Test.YtjepegkbbbebkaaDoorWdOf
import Derived.Test.YtjepegkbbbebkaaDoorLag
namespace Go.Proofs.YtjepegkbbbebkaaDoor
open Go.RowKit
set_option linter.unusedVariables false
set_option maxRecDepth 100000

namespace Gs
theorem turns_undo {a b : St} {p : List Nat} (hn : a.n = b.n) (hp : Turns a b p) (hl : p.length = a.n) : Turns b a (undo a.n p) ∧ (undo a.n p).length = b.n := by
  have hl2 : (undo a.n p).length = a.n := by unfold undo; simp
  have hat := fun i (hi : i < a.n) => undo_at hp.nodup hl hp.lt hi
  have hnd : (undo a.n p).Nodup := by
    refine List.pairwise_iff_getElem.2 fun i j hi hj hij e => ?_
    have h1 := hat i (by omega)
    have h2 := hat j (by omega)
    have e' : (undo a.n p).getD i 0 = (undo a.n p).getD j 0 := by simp [hi, hj, e]
    rw [e'] at h1
    omega
  refine ⟨⟨hnd, fun x hx => ?_, fun i hi => ?_, fun i j hi hj => ?_⟩, by rw [hl2, hn]⟩
  · obtain ⟨i, hi, rfl⟩ := List.mem_iff_getElem.1 hx
    have := (hat i (by omega)).1
    rw [← hn]
    simpa [hi] using this
  · rw [hl2] at hi
    have h := hat i hi
    have := hp.s _ (show (undo a.n p).getD i 0 < p.length by omega)
    rw [h.2] at this
    exact this.symm
  · rw [hl2] at hi hj
    have h := hat i hi
    have h' := hat j hj
    have := hp.r _ _ (show (undo a.n p).getD i 0 < p.length by omega) (show (undo a.n p).getD j 0 < p.length by omega)
    rw [h.2, h'.2] at this
    exact this.symm
theorem shapes_symm {a b : St} (hn : a.n = b.n) : (shapes a b).isEmpty = (shapes b a).isEmpty := by
  have key : ∀ {a b : St}, a.n = b.n → (shapes a b).isEmpty = false → (shapes b a).isEmpty = false := by
    intro a b hn h
    cases hs : shapes a b with
    | nil => rw [hs] at h; cases h
    | cons p l =>
      have hp := shapes_mem.1 (show p ∈ shapes a b by rw [hs]; simp)
      have hq := shapes_mem.2 (turns_undo hn hp.1 hp.2)
      cases hs2 : shapes b a with
      | nil => rw [hs2] at hq; cases hq
      | cons q l => rfl
  cases h1 : (shapes a b).isEmpty <;> cases h2 : (shapes b a).isEmpty
  · rfl
  · rw [key hn h1] at h2; cases h2
  · rw [key hn.symm h2] at h1; cases h1
  · rfl
end Gs
theorem ssB_symm (n : Int) (S R : ByteArray) (m : Int) (S2 R2 : ByteArray) : ssB n S R m S2 R2 = ssB m S2 R2 n S R := by
  unfold ssB
  cases h1 : validB n S R
  · cases h2 : validB m S2 R2 <;> simp
  · cases h2 : validB m S2 R2
    · simp
    · by_cases h : n = m
      · subst h
        rw [Gs.shapes_symm (a := stOf n.toNat S R) (b := stOf n.toNat S2 R2) rfl]
      · rw [decide_eq_false h, decide_eq_false (fun e => h e.symm)]; simp
theorem l2Int_any (b : Bool) (w : World) : Calls Tryd.prog 51 #[.bool b] w fun e w' => e = .returned (.int .i64 (if b then 1 else 0)) ∧ w' = w := by
  cases b
  all_goals
    go_enter Tryd.func51, Tryd.ntmps51
    go_wp2_with fail
    go_ret
    exact ⟨rfl, rfl⟩
set_option maxHeartbeats 2000000 in
theorem specSameShape_any (n : Int) (S R : ByteArray) (m : Int) (S2 R2 : ByteArray) (hS : S.size ≤ 9223372036854775807) (hR : R.size ≤ 9223372036854775807) (hS2 : S2.size ≤ 9223372036854775807) (hR2 : R2.size ≤ 9223372036854775807) (w : World) :
    Calls Tryd.prog 53 #[strV n S R, strV m S2 R2] w fun e w' => (∃ v, e = .returned (.tuple #[v, .bool (ssB m S2 R2 n S R)])) ∧ Below w.heap.size w w' := by
  rw [ssB_symm]
  have HIS := Lib.hid (fun w => specValid_any n S R w hS hR)
  have HIS2 := Lib.hid (fun w => specValid_any m S2 R2 w hS2 hR2)
  have HB := Lib.hid (Bx2.new w n S R m S2 R2)
  unfold boxS at HB
  obtain ⟨RES, hres⟩ : ∃ z, ssB n S R m S2 R2 = z := ⟨_, rfl⟩
  rw [hres]
  obtain ⟨s0, s1, s2, _, _, _, hl⟩ := HB.out.a.cells
  obtain ⟨t0, t1, t2, _, _, _, hl'⟩ := HB.out.b.cells
  obtain ⟨W, hW⟩ : ∃ W, (w.alloc (.cells #[.int .i64 n, .string S, .string R] 24)).alloc (.cells #[.int .i64 m, .string S2, .string R2] 24) = W := ⟨_, rfl⟩
  rw [hW] at HB s0 s1 s2 hl t0 t1 t2 hl'
  have HW := Lib.hid hW
  clear hW
  have al0 : ∀ wx : World, Below wx.heap.size wx (wx.alloc (.cells #[] 3)) := fun wx => (Below.refl _ _).alloc (Nat.le_refl _) _
  cases hv : validB n S R
  · have HE : Hid (RES = false) := by show _ = _; rw [← hres]; unfold ssB; rw [hv]; rfl
    rw [hv] at HIS
    clear hv hres
    unfold strV at HIS
    unfold strV
    go_enter Tryd.func53, Tryd.ntmps53
    go_upto_region 1 with fail
    rw [HW.out]
    go_wp2_with fail
    refine (HIS.out _).mono ?_; rintro e w1 ⟨rfl, hb1⟩
    have HB1 := Lib.hid ((HB.out.below hb1).below (al0 _))
    clear hb1 al0
    go_wp2_with fail
    go_ret2
    exact ⟨⟨.slice (some ⟨w1.heap.size, 0, none⟩) 0 0, ret_uv HE.out.symm⟩, HB1.out.old⟩
  · cases hv2 : validB m S2 R2
    · have HE : Hid (RES = false) := by show _ = _; rw [← hres]; unfold ssB; rw [hv, hv2]; rfl
      rw [hv] at HIS
      rw [hv2] at HIS2
      clear hv hv2 hres
      unfold strV at HIS HIS2
      unfold strV
      go_enter Tryd.func53, Tryd.ntmps53
      go_upto_region 1 with fail
      rw [HW.out]
      go_wp2_with fail
      refine (HIS.out _).mono ?_; rintro e w1 ⟨rfl, hb1⟩
      have HB1 := Lib.hid (HB.out.below hb1)
      clear hb1 s0 s1 s2 hl t0 t1 t2 hl'
      obtain ⟨t0, t1, t2, _, _, _, hl'⟩ := HB1.out.b.cells
      go_wp2_with fail
      refine (HIS2.out _).mono ?_; rintro e w2 ⟨rfl, hb2⟩
      have HB2 := Lib.hid ((HB1.out.below hb2).below (al0 _))
      clear hb2 al0
      go_wp2_with fail
      go_ret2
      exact ⟨⟨.slice (some ⟨w2.heap.size, 0, none⟩) 0 0, ret_uv HE.out.symm⟩, HB2.out.old⟩
    · rw [hv] at HIS
      rw [hv2] at HIS2
      unfold strV at HIS HIS2
      by_cases hnm : n = m
      · subst hnm
        obtain ⟨k, rfl⟩ := nat_of_valid hv
        obtain ⟨h1, h8, hSS, hRR, _, _⟩ := valid_is hv
        obtain ⟨_, _, hSS2, hRR2, _, _⟩ := valid_is hv2
        have HE : Hid (RES = !(Gs.shapes (stOf k S R) (stOf k S2 R2)).isEmpty) := by show _ = _; rw [← hres]; unfold ssB; rw [hv, hv2]; simp
        have HOR := Lib.hid (fun w v hv => order_any k S R S2 R2 h8 hSS hRR hSS2 hRR2 k w v [] (by simp) (by simp) hv)
        unfold strV at HOR
        clear hv hv2 hres hSS hRR hSS2 hRR2
        unfold strV
        go_enter Tryd.func53, Tryd.ntmps53
        go_upto_region 1 with fail
        rw [HW.out]
        go_wp2_with fail
        refine (HIS.out _).mono ?_; rintro e w1 ⟨rfl, hb1⟩
        have HB1 := Lib.hid (HB.out.below hb1)
        clear hb1 s0 s1 s2 hl t0 t1 t2 hl'
        obtain ⟨t0, t1, t2, _, _, _, hl'⟩ := HB1.out.b.cells
        go_wp2_with fail
        refine (HIS2.out _).mono ?_; rintro e w2 ⟨rfl, hb2⟩
        have HB2 := Lib.hid (HB1.out.below hb2)
        clear hb2 t0 t1 t2 hl'
        have HB3 := Lib.hid (HB2.out.below (al0 _))
        obtain ⟨s0, s1, s2, _, _, _, hl⟩ := HB2.out.a.cells
        obtain ⟨t0, t1, t2, _, _, _, hl'⟩ := HB2.out.b.cells
        obtain ⟨u0, u1, u2, _, _, _, hm⟩ := HB3.out.a.cells
        obtain ⟨x0, x1, x2, _, _, _, hm'⟩ := HB3.out.b.cells
        have HCC := Lib.hid (HOR.out (w2.alloc (.cells #[] 3)) (.slice (some ⟨w2.heap.size, 0, none⟩) 0 0) (.inr ⟨w2.heap.size, 0, 0, rfl, Nat.le_refl _, by decide, by simp, fun j hj => by simp at hj⟩))
        clear al0 HOR
        go_wp2_with fail
        refine HCC.out.mono ?_; rintro e w3 ⟨⟨v, rfl⟩, hb3⟩
        have HB4 := Lib.hid (HB3.out.below hb3)
        clear hb3 s0 s1 s2 hl t0 t1 t2 hl' u0 u1 u2 hm x0 x1 x2 hm'
        go_wp2_with fail
        go_ret2
        exact ⟨⟨v, ret_uv HE.out.symm⟩, HB4.out.old⟩
      · have HE : Hid (RES = false) := by show _ = _; rw [← hres]; unfold ssB; rw [hv, hv2]; simp [hnm]
        have hnB : (n != m) = true := by simpa using hnm
        clear hv hv2 hres
        unfold strV
        go_enter Tryd.func53, Tryd.ntmps53
        go_upto_region 1 with fail
        rw [HW.out]
        go_wp2_with fail
        refine (HIS.out _).mono ?_; rintro e w1 ⟨rfl, hb1⟩
        have HB1 := Lib.hid (HB.out.below hb1)
        clear hb1 s0 s1 s2 hl t0 t1 t2 hl'
        obtain ⟨t0, t1, t2, _, _, _, hl'⟩ := HB1.out.b.cells
        go_wp2_with fail
        refine (HIS2.out _).mono ?_; rintro e w2 ⟨rfl, hb2⟩
        have HB2 := Lib.hid (HB1.out.below hb2)
        clear hb2 t0 t1 t2 hl'
        obtain ⟨s0, s1, s2, _, _, _, hl⟩ := HB2.out.a.cells
        obtain ⟨t0, t1, t2, _, _, _, hl'⟩ := HB2.out.b.cells
        have HB3 := Lib.hid (HB2.out.below (al0 _))
        clear al0
        go_wp2_with fail
        go_ret2
        exact ⟨⟨.slice (some ⟨w2.heap.size, 0, none⟩) 0 0, ret_uv HE.out.symm⟩, HB3.out.old⟩
set_option maxHeartbeats 4000000 in
theorem specWordOf_any (n : Int) (S R : ByteArray) (hS : S.size ≤ 9223372036854775807) (hR : R.size ≤ 9223372036854775807) (w : World) :
    Calls Tryd.prog 9 #[strV n S R] w fun e w' => e = .returned (woV (woB n S R)) ∧ Below w.heap.size w w' := by
  have HIS := Lib.hid (fun w => specValid_any n S R w hS hR)
  have HB : Hid (SBlk (boxS w n S R) w.heap.size n S R ∧ Below w.heap.size w (boxS w n S R)) := ⟨boxS_SBlk _ _ _ _, boxS_below _ _ _ _⟩
  unfold boxS at HB
  obtain ⟨RES, hres⟩ : ∃ z, woB n S R = z := ⟨_, rfl⟩
  rw [hres]
  cases hv : validB n S R
  · have HE : Hid (RES = none) := by show _ = _; rw [← hres]; unfold woB; rw [hv]; rfl
    rw [hv] at HIS
    clear hv hres
    unfold strV at HIS
    unfold strV
    go_enter Tryd.func9, Tryd.ntmps9
    go_wp2_with fail
    refine (HIS.out _).mono ?_; rintro e w1 ⟨rfl, hb1⟩
    have HB1 := Lib.hid (HB.out.2.trans (hb1.mono HB.out.2.size))
    clear hb1
    go_wp2_with fail
    go_ret2
    exact ⟨by rw [HE.out]; rfl, HB1.out⟩
  · obtain ⟨m, rfl⟩ := nat_of_valid hv
    obtain ⟨h1, h8, hSS, hRR, _, _⟩ := valid_is hv
    rw [hv] at HIS
    have HV := Lib.hid hv
    have HRS := Lib.hid hres
    have mk := fun w => make_bytes m h1 h8 w
    have HIR := Lib.hid (fun x y w hx hy => l1Rel_b m S R x y w hx hy h8 hRR)
    have HIN := Lib.hid (fun x w (hx : x < m) => l1Set_b m S R x w hx hSS h8)
    have HSH := Lib.hid (fun (T U : ByteArray) (k : Nat) (hT : T.size ≤ 100) (hU : U.size ≤ 100) w => specSameShape_any m S R (k : Int) T U hS hR (by omega) (by omega) w)
    clear hv hres hSS hRR
    unfold strV at HIS HIR HIN HSH
    unfold strV
    go_enter Tryd.func9, Tryd.ntmps9
    go_wp2_with fail
    refine (HIS.out _).mono ?_; rintro e w1 ⟨rfl, hb1⟩
    have HB1 := Lib.hid (And.intro (HB.out.1.below hb1 HB.out.1.cells.2.2.2.2.2.2) (HB.out.2.trans (hb1.mono HB.out.2.size)))
    clear hb1
    obtain ⟨s0, s1, s2, _, _, _, hl⟩ := HB1.out.1.cells
    have hal : Below w1.heap.size w1 (w1.alloc (.cells (bytesC (List.replicate m 0)) 5)) := (Below.refl _ _).alloc (Nat.le_refl _) _
    have HW0 : Hid (Wd w (w1.alloc (.cells (bytesC (List.replicate m 0)) 5)) w1.heap.size m S R (List.replicate m 0)) :=
      ⟨HB1.out.1.below hal HB1.out.1.cells.2.2.2.2.2.2, heap_alloc_new _ _, HB1.out.1.cells.2.2.2.2.2.2, HB1.out.2.trans (hal.mono HB1.out.2.size)⟩
    clear hal
    go_upto_region 4 with fail
    obtain ⟨W1, hW1⟩ : ∃ W, w1.alloc (.cells (bytesC (List.replicate m 0)) 5) = W := ⟨_, rfl⟩
    rw [hW1] at HW0 ⊢
    generalize w1.heap.size = g at *
    clear hW1 mk s0 s1 s2 hl HB1
    obtain ⟨s0, s1, s2, _, _, _, hl⟩ := HW0.out.a.cells
    go_wp2_with fail
    go_loopw [5] (fun q wr => ∃ x : Nat, x ≤ m ∧ q = .int .i64 (x : Int) ∧ ∃ l : List UInt8, Hid (fillW m S R x = some l ∧ Wd w wr g m S R l)) (fun q _ => m - (intOf q).toNat)
    case atStart => exact ⟨0, by omega, rfl, _, rfl, HW0.out⟩
    case round =>
      clear s0 s1 s2 hl HW0
      obtain ⟨x, hx, rfl, l, HX⟩ := hrel
      obtain ⟨s0, s1, s2, _, _, _, hl⟩ := HX.out.2.a.cells
      by_cases hlt : x < m
      · have hltI : (x : Int) < (m : Int) := by omega
        go_wp2_with fail
        go_loopw [7, 6] (fun q p wr => ∃ y : Nat, y ≤ m ∧ q = .int .i64 (y : Int) ∧ ∃ z : Nat, z ≤ y ∧ p = .int .i64 (z : Int) ∧ Hid (cntR m R x y = z ∧ Wd w wr g m S R l)) (fun q _ _ => m - (intOf q).toNat)
        case atStart => exact ⟨0, by omega, rfl, 0, by omega, rfl, rfl, HX.out.2⟩
        case round =>
          clear s0 s1 s2 hl
          obtain ⟨y, hy, rfl, z, hz, rfl, HY⟩ := hrel
          obtain ⟨s0, s1, s2, _, _, _, hl⟩ := HY.out.2.a.cells
          by_cases hly : y < m
          · have hlyI : (y : Int) < (m : Int) := by omega
            have HR1 := Lib.hid (fun w => HIR.out y x w hly hlt)
            have HCS : Hid (cntR m R x (y + 1) = z + (if relAt m R y x then 1 else 0)) := by show _ = _; rw [← HY.out.1]; rfl
            generalize relAt m R y x = bt at *
            go_wp2_with fail
            refine (HR1.out _).mono ?_; rintro e w2 ⟨rfl, hb2⟩
            have HY2 := Lib.hid (HY.out.2.below hb2)
            clear hb2 HR1
            cases bt
            · go_wp2_with fail
              go_roundw
              case rel => exact ⟨y + 1, by omega, by go_num, z, by omega, rfl, HCS.out, HY2.out⟩
              case measure => simp [intOf]; omega
            · go_wp2_with fail
              go_roundw
              case rel => exact ⟨y + 1, by omega, by go_num, z + 1, by omega, by go_num, HCS.out, HY2.out⟩
              case measure => simp [intOf]; omega
          · have hlyI : ¬ (y : Int) < (m : Int) := by omega
            have hym : y = m := by omega
            have HP : Hid (plc m R x = z) := by have := HY.out.1; rw [hym] at this; exact this
            have hlen := fill_len HX.out.1
            have HSTEP := Lib.hid (fill_step HX.out.1)
            rw [HP.out] at HSTEP
            have HLEN := Lib.hid hlen
            clear hlen
            by_cases hzm : z < m
            · have hzI : ¬ (m : Int) ≤ (z : Int) := by omega
              obtain ⟨d1, d2⟩ := bytesC_cell HY.out.2.bs z (by rw [HLEN.out]; exact hzm)
              obtain ⟨c, hc⟩ : ∃ c, l.getD z 0 = c := ⟨_, rfl⟩
              rw [hc] at d1 HSTEP
              by_cases hc0 : c = 0
              · have HSN : Hid (fillW m S R (x + 1) = some (l.set z (if oneAt S x then 120 else 121))) := HSTEP.out.trans (if_pos ⟨hzm, hc0⟩)
                have hcI : ((c.toNat : Int) != 0) = false := by rw [hc0]; rfl
                have hcI2 : (c.toNat : Int) = 0 := by rw [hc0]; rfl
                have HI1 := Lib.hid (fun w => HIN.out x w hlt)
                generalize oneAt S x = bt at *
                have HS1 := Lib.hid (HY.out.2.set z 121 121 rfl)
                clear hc hc0 HSTEP
                go_upto_region 15 with fail
                obtain ⟨i0, i1, i2, _, _, _, hm⟩ := HY.out.2.a.cells
                clear HS1
                go_wp2_with fail
                refine (HI1.out _).mono ?_; rintro e w2 ⟨rfl, hb2⟩
                have HS2 := Lib.hid (HY.out.2.below hb2)
                clear hb2 i0 i1 i2 hm HI1 d1 d2
                obtain ⟨q1, q2⟩ := bytesC_cell HS2.out.bs z (by rw [HLEN.out]; exact hzm)
                cases bt
                · have HS3 := Lib.hid (HS2.out.set z 121 121 rfl)
                  go_wp2_with fail
                  refine (l2Int_any _ _).mono ?_; rintro e wz ⟨rfl, hwz⟩; rw [hwz]; clear hwz wz
                  go_wp2_with fail
                  go_roundw
                  case rel => exact ⟨x + 1, by omega, by go_num, _, HSN.out, HS3.out⟩
                  case measure => simp [intOf]; omega
                · have HS3 := Lib.hid (HS2.out.set z 120 120 rfl)
                  go_wp2_with fail
                  refine (l2Int_any _ _).mono ?_; rintro e wz ⟨rfl, hwz⟩; rw [hwz]; clear hwz wz
                  go_wp2_with fail
                  go_roundw
                  case rel => exact ⟨x + 1, by omega, by go_num, _, HSN.out, HS3.out⟩
                  case measure => simp [intOf]; omega
              · have HNO : Hid (RES = none) := by
                  show _ = _
                  rw [← HRS.out]
                  exact woB_no (fill_no (HSTEP.out.trans (if_neg (fun h => hc0 h.2))) (by omega))
                have hcI : ((c.toNat : Int) != 0) = true := by
                  rw [bne_iff_ne]
                  intro h
                  exact hc0 (UInt8.toNat_inj.1 (by simpa using h))
                have hcI2 : ¬ (c.toNat : Int) = 0 := by rw [bne_iff_ne] at hcI; exact hcI
                clear hc hc0 HSTEP
                go_wp2_with fail
                go_ret2
                exact ⟨by rw [HNO.out]; rfl, HY.out.2.old⟩
            · have hzI : (m : Int) ≤ (z : Int) := by omega
              have HNO : Hid (RES = none) := by
                show _ = _
                rw [← HRS.out]
                exact woB_no (fill_no (HSTEP.out.trans (if_neg (fun h => hzm h.1))) (by omega))
              clear HSTEP
              go_wp2_with fail
              go_ret2
              exact ⟨by rw [HNO.out]; rfl, HY.out.2.old⟩
      · have hltI : ¬ (x : Int) < (m : Int) := by omega
        have hxm : x = m := by omega
        have hF := HX.out.1
        rw [hxm] at hF
        have hlen := fill_len hF
        have hz : (txB l).size = m := by rw [← hlen]; simp [txB, ByteArray.size]
        have HRF : Hid (RES = if shpB m S R l then some (txB l) else none) := by show _ = _; rw [← HRS.out]; exact woB_some HV.out hF
        have HWS := Lib.hid (fun w => l12Structure_any (txB l) w (by omega))
        have HSS : Hid (∀ w, Calls Tryd.prog 53 #[.agg #[.int .i64 (m : Int), .string S, .string R], .agg #[.int .i64 ((txB l).size : Int), .string (bitsOf (letB (txB l)) (txB l).size), .string (gridOf ltB (txB l).size)]] w fun e w' => (∃ v, e = .returned (.tuple #[v, .bool (shpB m S R l)])) ∧ Below w.heap.size w w') := fun w =>
          HSH.out _ _ (txB l).size (by rw [bitsOf_size]; omega) (by unfold gridOf; rw [bitsOf_size, hz]; have := Nat.mul_le_mul h8 h8; omega) w
        have cv := HX.out.2.conv hlen
        have HCV := Lib.hid (fun w' (h : Wd w w' g m S R l) => h.conv hlen)
        unfold wordV strV at HWS
        generalize bitsOf (letB (txB l)) (txB l).size = TB at *
        generalize gridOf ltB (txB l).size = UB at *
        generalize (txB l).size = k at *
        generalize shpB m S R l = bt at *
        generalize txB l = tx at *
        have HXW := Lib.hid HX.out.2
        clear hF hlen hz HSH HX
        go_wp2_with fail
        go_region_with (first
          | (go_at_call 38; refine (HWS.out _).mono ?_; rintro e w2 ⟨rfl, hb2⟩; have HW2 := Lib.hid (HXW.out.drew.below hb2); clear hb2; obtain ⟨i0, i1, i2, i3, i4, i5, hm⟩ := HW2.out.a.cells)
          | (go_at_call 53; refine (HSS.out _).mono ?_; rintro e w3 ⟨⟨v3, rfl⟩, hb3⟩; have HW3 := Lib.hid (HW2.out.below hb3); clear hb3; have cv3 := HCV.out _ HW3.out))
        all_goals
          cases bt
          · have HE : Hid (RES = none) := HRF.out.trans (if_neg (by simp))
            go_wp2_with fail
            go_ret2
            exact ⟨by rw [HE.out]; rfl, HW3.out.old⟩
          · have HE : Hid (RES = some tx) := HRF.out.trans (if_pos rfl)
            go_wp2_with fail
            go_ret2
            exact ⟨by rw [HE.out]; rfl, HW3.out.old⟩
end Go.Proofs.YtjepegkbbbebkaaDoor

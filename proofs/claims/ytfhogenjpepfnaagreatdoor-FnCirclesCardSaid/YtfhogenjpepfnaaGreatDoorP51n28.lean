/- Contracts of the program's functions and what they compute: part 28. Conditions: those that each theorem states. -/
import Derived.Test.YtfhogenjpepfnaaGreatDoorP51n27
namespace Go.Proofs.YtfhogenjpepfnaaGreatDoor
open Go.RowKit
set_option linter.unusedVariables false
set_option maxRecDepth 100000
set_option maxHeartbeats 2000000 in
theorem distancesFrom_any (n : Nat) (S R : ByteArray) (x : Nat) (hn : n ≤ 8) (hR : R.size = n * n) (hx : x < n) (w : World) :
    Calls Tryz.prog 28 #[strV n S R, .int .i64 (x : Int)] w (ListI (distL n R x) w) := by
  have HNR := Lib.hid (fun y w hy => implnearOf_any n S R y hn hR hy w)
  have HBE := Lib.hid (fun w => besides_any n (by omega) w)
  have HB : Hid (Below w.heap.size w (boxS w n S R) ∧ SBlk (boxS w n S R) w.heap.size n S R ∧ (boxS w n S R).heap.size = w.heap.size + 1) := ⟨boxS_below _ _ _ _, boxS_SBlk _ _ _ _, boxS_size _ _ _ _⟩
  obtain ⟨W, hW⟩ : ∃ W, boxS w n S R = W := ⟨_, rfl⟩
  rw [hW] at HB
  unfold boxS at hW
  have HW := Lib.hid hW
  clear hW hR
  have HNB : Hid (∀ v y, y ∈ nearL n R v n → y < n) := fun v y hy => nearL_lt hy
  generalize hdl : distL n R x = DL
  have HDL := Lib.hid hdl
  clear hdl
  unfold strV at HNR
  unfold strV
  go_enter Tryz.func28, Tryz.ntmps28
  go_upto_region 1 with fail
  rw [HW.out]
  obtain ⟨c0, c1, c2, f0, f1, f2, hl⟩ := HB.out.2.1.cells
  go_wp2_with fail
  refine (HBE.out _).mono ?_; rintro e w2 ⟨v, rfl, ho, hb2⟩
  have HQ0 : Hid (DQ n ((List.replicate n (-1)).set x 0) [x] ∧ bfs (fun v => nearL n R v n) (n + 1) ((List.replicate n (-1)).set x 0) [x] = DL ∧ negD ((List.replicate n (-1)).set x 0) + 1 ≤ n + 1 ∧ n + 1 ≤ 9) := ⟨(DQ.start hx).1, HDL.out, by have := (DQ.start hx).2; omega, by omega⟩
  have H0 : ∃ g cap, v = .slice (some ⟨g, 0, none⟩) n cap ∧ n ≤ cap ∧ cap ≤ maxLen ∧ w2.cell? ⟨g, x, none⟩ = some (.int .i64 (-1)) ∧ w2.frozen? ⟨g, x, none⟩ = false ∧
      Hid (DstB w n S R g cap ((List.replicate n (-1)).set x 0) (.slice (some ⟨w2.heap.size, 0, none⟩) 1 1) [x] ((w2.setCell ⟨g, x, none⟩ (.int .i64 0)).alloc (.cells #[.int .i64 (x : Int)] 3))) := by
    obtain ⟨g, cap, hv, h1, h2, h3, h4, h5⟩ := ho.cells
    have ho' := ho
    rw [hv, List.length_replicate] at ho'
    rw [List.length_replicate] at hv h3 h5
    have hz := HB.out.2.2
    refine ⟨g, cap, hv, h3, h4, by rw [h5 x hx, getD_rep, if_pos hx], ?_, ?_⟩
    · have := ho'.own
      rw [List.length_replicate] at this
      exact this.frozenAt x
    · refine ⟨?_, ?_, ?_, ?_, ?_⟩
      · exact ((HB.out.2.1.below hb2 (by omega)).far (by simp; omega) _).below ((Below.refl _ _).alloc (Nat.le_refl _) _) (by simp; omega)
      · refine OwnI.below (w := w2.setCell ⟨g, x, none⟩ (.int .i64 0)) ?_ ((Below.refl _ _).alloc (Nat.le_refl _) _)
        have h6 := ho'.own
        rw [List.length_replicate] at h6
        refine ⟨?_, by simp, by simp; omega⟩
        rw [List.length_set, List.map_set, List.length_replicate, ← hz]
        exact (h6.stored x (.int .i64 0)).1
      · have := OwnQ.one (w.heap.size + 1) (w2.setCell ⟨g, x, none⟩ (.int .i64 0)) (by simp; omega) x _ rfl
        simpa using this
      · simp [Value.ownBlock]; omega
      · exact ((HB.out.1.trans (hb2.mono (by omega))).setCell (by simp; omega) _).alloc (by simp; omega) _
  clear ho hb2 HB c0 c1 c2 f0 f1 f2 hl HDL
  obtain ⟨g, cap, rfl, hc1, hc2, hcx, hfx, HP0⟩ := H0
  go_wp2_with fail
  go_loopw [6, 7, 9] (fun q _ _ wr => ∃ (D : List Int) (Q : List Nat) (f : Nat), Hid (DstB w n S R g cap D q Q wr) ∧ Hid (DQ n D Q ∧ bfs (fun v => nearL n R v n) f D Q = DL ∧ negD D + Q.length ≤ f ∧ f ≤ 9)) (fun q _ _ wr => msr g n q wr)
  case atStart => exact ⟨_, _, _, HP0, HQ0⟩
  case round =>
    clear HP0 HQ0 hcx hfx
    obtain ⟨D, Q, f, HP, HQ⟩ := hrel
    match Q, HP, HQ with
    | [], HP, HQ =>
      have HF : Hid (ListI DL w (.returned (.slice (some ⟨g, 0, none⟩) n cap)) wr) := ⟨_, rfl, by
        have e := HQ.out.2.1
        rw [bfs_nil] at e
        rw [← e]; exact (HP.out.out).mono (by omega), HP.out.old⟩
      have HV : Hid (∃ g o cap, u6 = .slice (some ⟨g, o, none⟩) 0 cap) := by
        obtain ⟨g, o, cap, e, _⟩ := HP.out.que.view
        exact ⟨g, o, cap, e⟩
      obtain ⟨g', o', cap', rfl⟩ := HV.out
      go_wp2_with fail
      go_ret
      exact HF.out
    | v0 :: Q', HP, HQ =>
      have HV : Hid (∃ g o cap, u6 = .slice (some ⟨g, o, none⟩) (Q'.length + 1) cap ∧ wr.cell? ⟨g, o, none⟩ = some (.int .i64 (v0 : Int))) := by
        obtain ⟨g, o, cap, e, _, _, _, _, h6, _⟩ := HP.out.que.view
        exact ⟨g, o, cap, e, by have := h6 0 (by simp); simpa using this⟩
      have hv0 : v0 < n := HQ.out.1.q v0 (by simp)
      have HT : Hid (∃ v', OwnQ (w.heap.size + 1) wr v' Q' ∧ v'.ownBlock = u6.ownBlock ∧ ∀ wx, (Instr.slice 30 u6 (some (.int .i64 1)) none none).run Tryz.prog wx = .ok v' wx) := HP.out.que.tail
      have HM := Lib.hid (HP.out.msr)
      obtain ⟨q2, ho2, hob, hsl⟩ := HT.out
      have HP1 := Lib.hid (HP.out.pop ho2 hob)
      obtain ⟨gq, oq, cq, rfl, hcq⟩ := HV.out
      clear ho2 hob HV HT
      have hQI : (0 : Int) < ((Q'.length + 1 : Nat) : Int) := by omega
      obtain ⟨c0, c1, c2, f0, f1, f2, hl⟩ := HP1.out.a.cells
      have HN1 := Lib.hid (fun w => HNR.out v0 w hv0)
      go_wp2_with fail
      refine (HN1.out _).mono ?_; rintro e w2 ⟨nv, rfl, hon, hbn⟩
      have HL : Hid ((nearL n R v0 n).length ≤ 8 ∧ ∀ y ∈ nearL n R v0 n, y < n) := ⟨by have := nearL_len n R v0 n; omega, fun y hy => HNB.out v0 y hy⟩
      have HK : Hid (NbAt w2 nv (nearL n R v0 n) g q2) := by
        refine ⟨hon.nums, fun k hk => ?_⟩
        obtain ⟨k', ck, ek, h1, h2, _⟩ := hon.cells
        rw [ek] at hk
        have e : k' = k := by simpa [Value.ownBlock] using hk
        obtain ⟨kq, eq, hq1, hq2⟩ := HP1.out.que.block
        have := HP1.out.gl
        exact ⟨by omega, by rw [eq]; intro e2; injection e2 with e2; omega, by omega⟩
      have HP2 := Lib.hid (HP1.out.below hbn)
      have HQ2 : Hid (DQ n D Q' ∧ (∃ f', bfs (fun v => nearL n R v n) f' (bfsIn D Q' v0 ((nearL n R v0 n).drop 0)).1 (bfsIn D Q' v0 ((nearL n R v0 n).drop 0)).2 = DL ∧ negD D + Q'.length ≤ f' ∧ f' ≤ 9) ∧ negD D + Q'.length + 1 = msr g n (.slice (some ⟨gq, oq, none⟩) (Q'.length + 1) cq) wr) := by
        refine ⟨⟨HQ.out.1.len, HQ.out.1.low, HQ.out.1.top, fun y hy => HQ.out.1.q y (by simp [hy])⟩, ?_, by rw [HM.out]; simp; omega⟩
        obtain ⟨_, h2, h3, h9⟩ := HQ.out
        simp at h3
        match f, h2, h3, h9 with
        | f + 1, h2, h3, h9 => exact ⟨f, h2, by omega, by omega⟩
      clear hon hbn HP1 HP HQ HM c0 c1 c2 f0 f1 f2 hl hcq hsl HN1
      generalize nearL n R v0 n = NL at *
      obtain ⟨na, nc, rfl, hn1, hn2, hnc⟩ := HK.out.at_.view
      clear hnc
      go_wp2_with fail
      obtain ⟨wo, hwo⟩ : ∃ wo, wo = wr := ⟨_, rfl⟩
      subst hwo
      go_loopw [30, 6, 9] (fun p q _ wq => ∃ (k : Nat) (D2 : List Int) (Q2 : List Nat), k ≤ NL.length ∧ p = .int .i64 (k : Int) ∧ Hid (DstB w n S R g cap D2 q Q2 wq) ∧ Hid (NbAt wq (.slice na NL.length nc) NL g q) ∧ Hid (DQ n D2 Q2 ∧ (∃ f', bfs (fun v => nearL n R v n) f' (bfsIn D2 Q2 v0 (NL.drop k)).1 (bfsIn D2 Q2 v0 (NL.drop k)).2 = DL ∧ negD D2 + Q2.length ≤ f' ∧ f' ≤ 9) ∧ negD D2 + Q2.length + 1 = msr g n (.slice (some ⟨gq, oq, none⟩) (Q'.length + 1) cq) wo)) (fun p _ _ _ => NL.length - (intOf p).toNat)
      case atStart => exact ⟨0, _, _, by omega, rfl, HP2, HK, HQ2⟩
      case round =>
        clear HP2 HK HQ2
        obtain ⟨k, D2, Q2, hk, rfl, HP, HK, HQ⟩ := hrel
        by_cases hlt : k < NL.length
        · have hkI : (k : Int) < (NL.length : Int) := by omega
          have hl8 : NL.length ≤ 8 := HL.out.1
          obtain ⟨y, hy⟩ : ∃ y, NL.getD k 0 = y := ⟨_, rfl⟩
          have hyn : y < n := HL.out.2 y (by rw [← hy, List.getD_eq_getElem?_getD, List.getElem?_eq_getElem hlt]; exact List.getElem_mem hlt)
          have HD : Hid (NL.drop k = y :: NL.drop (k + 1)) := by
            show _ = _
            rw [List.drop_eq_getElem_cons hlt, ← hy, List.getD_eq_getElem?_getD, List.getElem?_eq_getElem hlt]
            rfl
          have HC : Hid (∃ gn on, na = some ⟨gn, on, none⟩ ∧ wr.cell? ⟨gn, on + k, none⟩ = some (.int .i64 (y : Int))) := by
            obtain ⟨a, c, e, _, _, h⟩ := HK.out.at_.view
            injection e with e1 e2 e3
            obtain ⟨gn, on, e4, _, h5⟩ := h (by omega)
            exact ⟨gn, on, e1.trans e4, by rw [h5 k hlt, hy]⟩
          obtain ⟨gn, on, rfl, hcn⟩ := HC.out
          have hcy := (HP.out.cell hyn).1
          have hfy := (HP.out.cell hyn).2
          have hcv := (HP.out.cell hv0).1
          have hle8 := HQ.out.1.top v0
          have hlow := HQ.out.1.low v0
          obtain ⟨dv, hdv⟩ : ∃ z, D2.getD v0 0 = z := ⟨_, rfl⟩
          obtain ⟨dy, hdy⟩ : ∃ z, D2.getD y 0 = z := ⟨_, rfl⟩
          rw [hdv] at hcv hle8 hlow
          rw [hdy] at hcy
          by_cases hneg : dy < 0
          · have HPS := Lib.hid (HP.out.set y (dv + 1))
            have HKS : Hid (NbAt (wr.setCell ⟨g, y, none⟩ (.int .i64 (dv + 1))) (.slice (some ⟨gn, on, none⟩) NL.length nc) NL g u6) := HK.out.keep (fun k' hk' => Below.heap_setCell _ _ _ _ (HK.out.ne k' hk').1) (by simp) (.inl rfl)
            have HQS : Hid ((DQ n (D2.set y (dv + 1)) (Q2 ++ [y]) ∧ (∃ f', bfs (fun v => nearL n R v n) f' (bfsIn (D2.set y (dv + 1)) (Q2 ++ [y]) v0 (NL.drop (k + 1))).1 (bfsIn (D2.set y (dv + 1)) (Q2 ++ [y]) v0 (NL.drop (k + 1))).2 = DL ∧ negD (D2.set y (dv + 1)) + (Q2 ++ [y]).length ≤ f' ∧ f' ≤ 9) ∧ negD (D2.set y (dv + 1)) + (Q2 ++ [y]).length + 1 = msr g n (.slice (some ⟨gq, oq, none⟩) (Q'.length + 1) cq) wo)) := by
              obtain ⟨h1, h2⟩ := HQ.out.1.push v0 y hyn (by rw [hdy]; exact hneg)
              obtain ⟨_, ⟨f', h3, h4, h9⟩, h5⟩ := HQ.out
              rw [HD.out] at h3
              unfold bfsIn at h3
              rw [hdy, if_pos hneg] at h3
              rw [hdv] at h1 h2 h3
              refine ⟨h1, ⟨f', h3, ?_, h9⟩, ?_⟩
              · simp; omega
              · simp; omega
            have HLQ : Hid (Q2.length ≤ 2000000 ∧ w.heap.size + 1 ≤ (wr.setCell ⟨g, y, none⟩ (.int .i64 (dv + 1))).heap.size) := by
              obtain ⟨h1, ⟨f', h3, h4, h9⟩, h5⟩ := HQ.out
              have := HP.out.gl
              exact ⟨by omega, by simp; omega⟩
            clear hdv hdy HD
            go_wp2_with (first | (at_builtin; refine wpList_ownQ1 HPS.out.que HLQ.out.1 HLQ.out.2 rfl (.tmp 47) (.tmp 49) rfl y wr.heap.size (by simp) rfl rfl ?_; intro v' w' ho hg ha; have HP9 := Lib.hid (HPS.out.push ho hg ha); have HK9 := Lib.hid (And.intro hg ha); clear ho hg ha) | fail)
            have HKF : Hid (NbAt w' (.slice (some ⟨gn, on, none⟩) NL.length nc) NL g v') := HKS.out.keep (fun k' hk' => HK9.out.1.block k' (HKS.out.ne k' hk').2.2 (fun e => (HKS.out.ne k' hk').2.1 e.symm)) HK9.out.1.size HK9.out.2
            clear HK9 HKS HPS HP HK
            go_wp2_with fail
            go_roundw
            case rel => exact ⟨k + 1, _, _, by omega, by go_num, HP9, HKF, HQS⟩
            case measure => simp [intOf]; omega
          · have HQN : Hid ((DQ n D2 Q2 ∧ (∃ f', bfs (fun v => nearL n R v n) f' (bfsIn D2 Q2 v0 (NL.drop (k + 1))).1 (bfsIn D2 Q2 v0 (NL.drop (k + 1))).2 = DL ∧ negD D2 + Q2.length ≤ f' ∧ f' ≤ 9) ∧ negD D2 + Q2.length + 1 = msr g n (.slice (some ⟨gq, oq, none⟩) (Q'.length + 1) cq) wo)) := by
              obtain ⟨h1, ⟨f', h3, h4, h9⟩, h5⟩ := HQ.out
              rw [HD.out] at h3
              unfold bfsIn at h3
              rw [hdy, if_neg hneg] at h3
              exact ⟨h1, ⟨f', h3, h4, h9⟩, h5⟩
            clear hdv hdy HD
            go_wp2_with fail
            go_roundw
            case rel => exact ⟨k + 1, D2, Q2, by omega, by go_num, HP, HK, HQN⟩
            case measure => simp [intOf]; omega
        · obtain rfl : k = NL.length := by omega
          go_wp2_with fail
          go_roundw
          case rel =>
            obtain ⟨h1, ⟨f', h3, h4, h9⟩, h5⟩ := HQ.out
            rw [List.drop_length] at h3
            exact ⟨D2, Q2, f', HP, ⟨h1, h3, h4, h9⟩⟩
          case measure =>
            have h6 := HP.out.msr
            have h5 := HQ.out.2.2
            show msr g n u6 wr < msr g n (.slice (some ⟨gq, oq, none⟩) (Q'.length + 1) cq) wo
            omega
end Go.Proofs.YtfhogenjpepfnaaGreatDoor

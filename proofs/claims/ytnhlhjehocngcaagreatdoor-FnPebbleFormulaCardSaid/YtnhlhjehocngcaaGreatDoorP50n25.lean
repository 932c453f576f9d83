/- Contracts of the program's functions and what they compute: part 25. Conditions: those that each theorem states. -/
import Derived.Test.YtnhlhjehocngcaaGreatDoorP50n18
import Derived.Test.YtnhlhjehocngcaaGreatDoorP50n24
namespace Go.Proofs.YtnhlhjehocngcaaGreatDoor
open Go.RowKit
set_option linter.unusedVariables false
set_option maxRecDepth 100000
theorem vn_at (i : Nat) (h : i < 3) : (⟨#[97, 98, 99]⟩ : ByteArray).extract i (i + 1) = vnB i := by
  rcases (show i = 0 ∨ i = 1 ∨ i = 2 by omega) with rfl | rfl | rfl <;> rfl
set_option maxHeartbeats 4000000 in
theorem l7Differ_any (n m : Nat) (S R S2 R2 : ByteArray) (L M : List Int) (v u : Value) (w : World) (hS : S.size = n) (hR : R.size = n * n) (hn : n ≤ 8) (hS2 : S2.size = m) (hR2 : R2.size = m * m) (hm : m ≤ 8) (hv : IntsAt w v L) (hu : IntsAt w u M) (hr : Rdy n m L M) (hk3 : L.length ≤ 3) :
    Calls Tryz.prog 74 #[strV n S R, v, strV m S2 R2, u] w fun e w' => e = .returned (.string (firstA (stOf n S R) (stOf m S2 R2) L M)) ∧ Below w.heap.size w w' := by
  have HR := Lib.hid hr
  have HLM := Lib.hid hr.len
  have HS1 := Lib.hid (fun x w (hx : x < n) => l1Set_b n S R x w (by omega) (by omega))
  have HS2 := Lib.hid (fun x w (hx : x < m) => l1Set_b m S2 R2 x w (by omega) (by omega))
  have HR1 := Lib.hid (fun x y w hx hy => l1Rel_b n S R x y w hx hy hn hR)
  have HR2 := Lib.hid (fun x y w hx hy => l1Rel_b m S2 R2 x y w hx hy hm hR2)
  have HSG := Lib.hid (fun s is w hs => l3Atom_any s is w hs)
  have HT := Lib.hid (Two.new w n S R m S2 R2)
  obtain ⟨FA, hFA⟩ : ∃ f, fa1 (stOf n S R) (stOf m S2 R2) L M = f := ⟨_, rfl⟩
  have HFA : Hid (firstA (stOf n S R) (stOf m S2 R2) L M = (fsO FA L.length).getD ByteArray.empty) := by rw [← hFA]; rfl
  have HFAE := Lib.hid hFA
  rw [HFA.out]
  unfold boxS at HT
  obtain ⟨a, ca, rfl, la1, la2, hva⟩ := hv.view
  obtain ⟨b, cb, rfl, lb1, lb2, hvb⟩ := hu.view
  unfold maxLen at la2 lb2
  have HA := Lib.hid hva
  have HB := Lib.hid hvb
  rw [← hr.len] at lb1 ⊢
  rw [← hr.len] at HB
  obtain ⟨ll, hll⟩ : ∃ ll, L.length = ll := ⟨_, rfl⟩
  have HLL := Lib.hid hll
  rw [hll] at la1 lb1 HA HB hk3 HFA ⊢
  clear hv hu hva hvb hr hS hR hS2 hR2 hFA hll
  unfold strV at HS1 HS2 HR1 HR2
  unfold strV
  obtain ⟨c0, c1, c2, f0, f1, f2, hl1⟩ := HT.out.a.cells
  obtain ⟨d0, d1, d2, _, _, _, hl2⟩ := HT.out.b.cells
  go_enter Tryz.func74, Tryz.ntmps74
  go_wp2_with fail
  go_loopw [9, 10, 11, 12] (fun q _ _ _ wr => ∃ i : Nat, i ≤ ll ∧ q = .int .i64 (i : Int) ∧ Hid (fsO FA i = none) ∧ Hid (Two w wr n S R m S2 R2)) (fun q _ _ _ _ => ll - (intOf q).toNat)
  case atStart => exact ⟨0, by omega, rfl, rfl, HT⟩
  case round =>
    clear HT c0 c1 c2 f0 f1 f2 hl1 d0 d1 d2 hl2
    obtain ⟨i, hi, rfl, HN, HT⟩ := hrel
    by_cases hlt : i < ll
    · have hiI : (i : Int) < (ll : Int) := by omega
      have hi3 : (i : Int) + 1 ≤ 3 := by omega
      have hxi := vn_at i (by omega)
      have HFY := Lib.hid (fun s (h : FA i = some s) => fsO_yes HN.out h hlt)
      have HFN := Lib.hid (fun (h : FA i = none) => fsO_no HN.out h)
      obtain ⟨ga, oa, rfl, hga, hca⟩ := HA.out (by omega)
      obtain ⟨gb, ob, rfl, hgb, hcb⟩ := HB.out (by omega)
      have e1 := (HT.out.old.cell (p := ⟨ga, oa + i, none⟩) hga).trans (hca i hlt)
      have HCA := Lib.hid hca
      have HCB := Lib.hid hcb
      clear hca hcb
      by_cases hneg : L.getD i 0 < 0
      · have HFI := Lib.hid (HFN.out (by rw [← HFAE.out]; exact fa1_neg hneg))
        obtain ⟨x, hx⟩ : ∃ x, L.getD i 0 = x := ⟨_, rfl⟩
        rw [hx] at e1 hneg
        have hnegB : decide (x < 0) = true := decide_eq_true hneg
        clear hx
        generalize vnB i = vi at *
        go_wp2_with fail
        go_roundw
        case rel => exact ⟨i + 1, by omega, by go_num, HFI, HT⟩
        case measure => simp [intOf]; omega
      · obtain ⟨x, y, hx, hy, hxn, hym, hex, hey⟩ := rdy_at HR.out (by rw [HLL.out]; exact hlt) (by omega)
        have HNEG := Lib.hid hneg
        rw [hx] at e1
        have HE1 : Hid (∀ wz, Below w.heap.size w wz → wz.cell? ⟨ga, oa + i, none⟩ = some (.int .i64 (x : Int))) := fun wz hb => by
          have := (hb.cell (p := ⟨ga, oa + i, none⟩) hga).trans (HCA.out i hlt)
          rw [hx] at this
          exact this
        have HE2 : Hid (∀ wz, Below w.heap.size w wz → wz.cell? ⟨gb, ob + i, none⟩ = some (.int .i64 (y : Int))) := fun wz hb => by
          have := (hb.cell (p := ⟨gb, ob + i, none⟩) hgb).trans (HCB.out i (by omega))
          rw [hy] at this
          exact this
        have hnegB : decide ((x : Int) < 0) = false := decide_eq_false (by omega)
        have hnegI : ¬ ((x : Int) < 0) := by omega
        have HX : Hid (L.getD i 0 = (x : Int) ∧ M.getD i 0 = (y : Int) ∧ elB L i = x ∧ elB M i = y) := ⟨hx, hy, hex, hey⟩
        clear hx hy hex hey hneg
        have j1 := fun w => HS1.out x w hxn
        have j2 := fun w => HS2.out y w hym
        have HFS : Hid (∀ r q, oneAt S x = r → oneAt S2 y = q → (r != q) = true → FA i = some (sgB (⟨#[80]⟩ ++ vnB i) r)) := fun r q h1 h2 h3 => by
          rw [← HFAE.out]
          exact fa1_set HNEG.out (by rw [HX.out.2.2.1]; exact h1) (by rw [HX.out.2.2.2]; exact h2) h3
        have HFG : Hid (∀ r q, oneAt S x = r → oneAt S2 y = q → (r != q) = false → FA i = fsO (fa3 (stOf n S R) (stOf m S2 R2) L M i) (i + 1)) := fun r q h1 h2 h3 => by
          rw [← HFAE.out]
          exact fa1_go HNEG.out (by rw [HX.out.2.2.1]; exact h1) (by rw [HX.out.2.2.2]; exact h2) h3
        have hvs : (vnB i).size = 1 := rfl
        have HVS := Lib.hid hvs
        clear hvs
        obtain ⟨r1, hr1⟩ : ∃ r, oneAt S x = r := ⟨_, rfl⟩
        obtain ⟨r2, hr2⟩ : ∃ r, oneAt S2 y = r := ⟨_, rfl⟩
        have HFS1 := Lib.hid (HFS.out r1 r2 hr1 hr2)
        have HFG1 := Lib.hid (HFG.out r1 r2 hr1 hr2)
        rw [hr1] at j1
        rw [hr2] at j2
        have J1 := Lib.hid j1
        have J2 := Lib.hid j2
        clear j1 j2 hr1 hr2 HFS HFG
        obtain ⟨F3, hF3⟩ : ∃ f, fa3 (stOf n S R) (stOf m S2 R2) L M i = f := ⟨_, rfl⟩
        have HF3 := Lib.hid hF3
        rw [hF3] at HFG1
        clear hF3
        obtain ⟨vi, hvi⟩ : ∃ vi, vnB i = vi := ⟨_, rfl⟩
        have HVI := Lib.hid hvi
        rw [hvi] at HVS HFS1 hxi
        clear hvi
        clear e1
        obtain ⟨c0, c1, c2, f0, f1, f2, hl1⟩ := HT.out.a.cells
        obtain ⟨d0, d1, d2, _, _, _, hl2⟩ := HT.out.b.cells
        have e1 := HE1.out _ HT.out.old
        have e2 := HE2.out _ HT.out.old
        have s_c0 := fun s => Since.cell c0 s
        have s_c1 := fun s => Since.cell c1 s
        have s_c2 := fun s => Since.cell c2 s
        have s_d0 := fun s => Since.cell d0 s
        have s_d1 := fun s => Since.cell d1 s
        have s_d2 := fun s => Since.cell d2 s
        have s_e1 := fun s => Since.cell e1 s
        have s_e2 := fun s => Since.cell e2 s
        go_wp2_with fail
        refine wp_region_since (by kernel_rfl) (by kernel_rfl) ?_
        repeat (go_big_quiet_step (first | (with_reducible exact Since.call (J1.out _)) | (with_reducible exact Since.call (J2.out _))))
        refine wpQuiet_nil ?_
        intro w3 hb_w3
        have HTw3 := Lib.hid (HT.out.below hb_w3)
        clear hb_w3 s_c0 s_c1 s_c2 s_d0 s_d1 s_d2 s_e1 s_e2 c0 c1 c2 d0 d1 d2 e1 e2 f0 f1 f2 hl1 hl2
        obtain ⟨zz, hrr⟩ : ∃ z, (!(r1 == r2)) = z := ⟨_, rfl⟩
        rw [hrr]
        change (r1 != r2) = zz at hrr
        cases zz
        · have HFG1b := Lib.hid (HFG1.out hrr)
          clear hrr HFS1 HFG1 J1 J2 HT
          go_wp2_with fail
          obtain ⟨wo, hwo⟩ : ∃ wo, wo = w3 := ⟨_, rfl⟩
          subst hwo
          go_loopw [11, 12] (fun q _ wr => ∃ k : Nat, k ≤ i + 1 ∧ q = .int .i64 (k : Int) ∧ Hid (fsO F3 k = none) ∧ Hid (Two w wr n S R m S2 R2)) (fun q _ _ => i + 1 - (intOf q).toNat)
          case atStart => exact ⟨0, by omega, rfl, rfl, HTw3⟩
          case round =>
            clear HTw3
            obtain ⟨k, hk, rfl, HN3, HT⟩ := hrel
            by_cases hlt3 : k < i + 1
            · have hkI : (k : Int) ≤ (i : Int) := by omega
              have hkI2 : (k : Int) < (ll : Int) := by omega
              have hk3' : (k : Int) + 1 ≤ 3 := by omega
              have hxk := vn_at k (by omega)
              have HFY3 := Lib.hid (fun s (h : F3 k = some s) => fsO_yes HN3.out h hlt3)
              have HFN3 := Lib.hid (fun (h : F3 k = none) => fsO_no HN3.out h)
              have e3 := (HT.out.old.cell (p := ⟨ga, oa + k, none⟩) hga).trans (HCA.out k (by omega))
              by_cases hneg : L.getD k 0 < 0
              · have HFI3 := Lib.hid (HFN3.out (by rw [← HF3.out]; exact fa3_neg hneg))
                obtain ⟨x2, hx⟩ : ∃ x, L.getD k 0 = x := ⟨_, rfl⟩
                rw [hx] at e3 hneg
                have hnegB2 : decide (x2 < 0) = true := decide_eq_true hneg
                clear hx
                generalize vnB k = vk at *
                go_wp2_with fail
                go_roundw
                case rel => exact ⟨k + 1, by omega, by go_num, HFI3, HT⟩
                case measure => simp [intOf]; omega
              · obtain ⟨x2, y2, hx, hy, hx2n, hy2m, hex, hey⟩ := rdy_at HR.out (i := k) (by rw [HLL.out]; omega) (by omega)
                have HE3 : Hid (∀ wz, Below w.heap.size w wz → wz.cell? ⟨ga, oa + k, none⟩ = some (.int .i64 (x2 : Int))) := fun wz hb => by
                  have := (hb.cell (p := ⟨ga, oa + k, none⟩) hga).trans (HCA.out k (by omega))
                  rw [hx] at this
                  exact this
                have HE4 : Hid (∀ wz, Below w.heap.size w wz → wz.cell? ⟨gb, ob + k, none⟩ = some (.int .i64 (y2 : Int))) := fun wz hb => by
                  have := (hb.cell (p := ⟨gb, ob + k, none⟩) hgb).trans (HCB.out k (by omega))
                  rw [hy] at this
                  exact this
                have hnegB2 : decide ((x2 : Int) < 0) = false := decide_eq_false (by omega)
                have hnegI2 : ¬ ((x2 : Int) < 0) := by omega
                have HVS3 : Hid ((vnB k).size = 1) := rfl
                obtain ⟨b1, hb1⟩ : ∃ b, ((x : Int) == (x2 : Int)) = b := ⟨_, rfl⟩
                obtain ⟨b2, hb2⟩ : ∃ b, ((y : Int) == (y2 : Int)) = b := ⟨_, rfl⟩
                have q1 := fun w => HR1.out x2 x w hx2n hxn
                have q2 := fun w => HR2.out y2 y w hy2m hym
                have q3 := fun w => HR1.out x x2 w hxn hx2n
                have q4 := fun w => HR2.out y y2 w hym hy2m
                have HF4 : Hid (F3 k = if b1 != b2 then some (sgB (⟨#[61]⟩ ++ vnB k ++ vnB i) b1) else if relAt n R x2 x != relAt m R2 y2 y then some (sgB (⟨#[69]⟩ ++ vnB k ++ vnB i) (relAt n R x2 x)) else if relAt n R x x2 != relAt m R2 y y2 then some (sgB (⟨#[69]⟩ ++ vnB i ++ vnB k) (relAt n R x x2)) else none) := by
                  show _ = _
                  rw [← HF3.out]
                  refine fa3_is hneg ?_ ?_ ?_ ?_ ?_ ?_
                  · rw [hx, HX.out.1, ← hb1, Bool.eq_iff_iff, decide_eq_true_iff, beq_iff_eq]; exact eq_comm
                  · rw [hy, HX.out.2.1, ← hb2, Bool.eq_iff_iff, decide_eq_true_iff, beq_iff_eq]; exact eq_comm
                  · rw [hex, HX.out.2.2.1]; rfl
                  · rw [hey, HX.out.2.2.2]; rfl
                  · rw [hex, HX.out.2.2.1]; rfl
                  · rw [hey, HX.out.2.2.2]; rfl
                rw [HVI.out] at HF4
                rw [hx] at e3
                generalize relAt n R x2 x = r1 at *
                generalize relAt m R2 y2 y = r2 at *
                generalize relAt n R x x2 = r3 at *
                generalize relAt m R2 y y2 = r4 at *
                generalize vnB k = vk at *
                have Q1 := Lib.hid q1
                have Q2 := Lib.hid q2
                have Q3 := Lib.hid q3
                have Q4 := Lib.hid q4
                clear q1 q2 q3 q4 hneg hx hy hex hey
                go_upto_region 13 with fail
                clear e3
                obtain ⟨c0, c1, c2, f0, f1, f2, hl1⟩ := HT.out.a.cells
                obtain ⟨d0, d1, d2, _, _, _, hl2⟩ := HT.out.b.cells
                have e1 := HE1.out _ HT.out.old
                have e2 := HE2.out _ HT.out.old
                have e3 := HE3.out _ HT.out.old
                have e4 := HE4.out _ HT.out.old
                have s_c0 := fun s => Since.cell c0 s
                have s_c1 := fun s => Since.cell c1 s
                have s_c2 := fun s => Since.cell c2 s
                have s_d0 := fun s => Since.cell d0 s
                have s_d1 := fun s => Since.cell d1 s
                have s_d2 := fun s => Since.cell d2 s
                have s_e1 := fun s => Since.cell e1 s
                have s_e2 := fun s => Since.cell e2 s
                have s_e3 := fun s => Since.cell e3 s
                have s_e4 := fun s => Since.cell e4 s
                go_wp2_with fail
                refine wp_region_since (by kernel_rfl) (by kernel_rfl) ?_
                repeat (go_big_quiet_step (fail))
                refine wpQuiet_nil ?_
                intro w4 hb_w4
                have HTw4 := Lib.hid (HT.out.below hb_w4)
                clear hb_w4 s_c0 s_c1 s_c2 s_d0 s_d1 s_d2 s_e1 s_e2 s_e3 s_e4 c0 c1 c2 d0 d1 d2 e1 e2 e3 e4 f0 f1 f2 hl1 hl2
                obtain ⟨zz, hbb⟩ : ∃ z, (!(b1 == b2)) = z := ⟨_, rfl⟩
                rw [hbb]
                change (b1 != b2) = zz at hbb
                cases zz
                · have HF5 : Hid (F3 k = if r1 != r2 then some (sgB (⟨#[69]⟩ ++ vk ++ vi) r1) else if r3 != r4 then some (sgB (⟨#[69]⟩ ++ vi ++ vk) r3) else none) := by show _ = _; rw [HF4.out, if_neg (by rw [hbb]; decide)]
                  clear hbb HF4 HT
                  obtain ⟨c0, c1, c2, f0, f1, f2, hl1⟩ := HTw4.out.a.cells
                  obtain ⟨d0, d1, d2, _, _, _, hl2⟩ := HTw4.out.b.cells
                  have e1 := HE1.out _ HTw4.out.old
                  have e2 := HE2.out _ HTw4.out.old
                  have e3 := HE3.out _ HTw4.out.old
                  have e4 := HE4.out _ HTw4.out.old
                  have s_c0 := fun s => Since.cell c0 s
                  have s_c1 := fun s => Since.cell c1 s
                  have s_c2 := fun s => Since.cell c2 s
                  have s_d0 := fun s => Since.cell d0 s
                  have s_d1 := fun s => Since.cell d1 s
                  have s_d2 := fun s => Since.cell d2 s
                  have s_e1 := fun s => Since.cell e1 s
                  have s_e2 := fun s => Since.cell e2 s
                  have s_e3 := fun s => Since.cell e3 s
                  have s_e4 := fun s => Since.cell e4 s
                  go_wp2_with fail
                  refine wp_region_since (by kernel_rfl) (by kernel_rfl) ?_
                  repeat (go_big_quiet_step (first | (with_reducible exact Since.call (Q1.out _)) | (with_reducible exact Since.call (Q2.out _))))
                  refine wpQuiet_nil ?_
                  intro w5 hb_w5
                  have HTw5 := Lib.hid (HTw4.out.below hb_w5)
                  clear hb_w5 s_c0 s_c1 s_c2 s_d0 s_d1 s_d2 s_e1 s_e2 s_e3 s_e4 c0 c1 c2 d0 d1 d2 e1 e2 e3 e4 f0 f1 f2 hl1 hl2
                  clear HTw4
                  obtain ⟨zz, hrr⟩ : ∃ z, (!(r1 == r2)) = z := ⟨_, rfl⟩
                  rw [hrr]
                  change (r1 != r2) = zz at hrr
                  cases zz
                  · have HF6 : Hid (F3 k = if r3 != r4 then some (sgB (⟨#[69]⟩ ++ vi ++ vk) r3) else none) := by show _ = _; rw [HF5.out, if_neg (by rw [hrr]; decide)]
                    clear hrr HF5 Q1 Q2
                    obtain ⟨c0, c1, c2, f0, f1, f2, hl1⟩ := HTw5.out.a.cells
                    obtain ⟨d0, d1, d2, _, _, _, hl2⟩ := HTw5.out.b.cells
                    have e1 := HE1.out _ HTw5.out.old
                    have e2 := HE2.out _ HTw5.out.old
                    have e3 := HE3.out _ HTw5.out.old
                    have e4 := HE4.out _ HTw5.out.old
                    have s_c0 := fun s => Since.cell c0 s
                    have s_c1 := fun s => Since.cell c1 s
                    have s_c2 := fun s => Since.cell c2 s
                    have s_d0 := fun s => Since.cell d0 s
                    have s_d1 := fun s => Since.cell d1 s
                    have s_d2 := fun s => Since.cell d2 s
                    have s_e1 := fun s => Since.cell e1 s
                    have s_e2 := fun s => Since.cell e2 s
                    have s_e3 := fun s => Since.cell e3 s
                    have s_e4 := fun s => Since.cell e4 s
                    go_wp2_with fail
                    refine wp_region_since (by kernel_rfl) (by kernel_rfl) ?_
                    repeat (go_big_quiet_step (first | (with_reducible exact Since.call (Q3.out _)) | (with_reducible exact Since.call (Q4.out _))))
                    refine wpQuiet_nil ?_
                    intro w6 hb_w6
                    have HTw6 := Lib.hid (HTw5.out.below hb_w6)
                    clear hb_w6 s_c0 s_c1 s_c2 s_d0 s_d1 s_d2 s_e1 s_e2 s_e3 s_e4 c0 c1 c2 d0 d1 d2 e1 e2 e3 e4 f0 f1 f2 hl1 hl2
                    clear HTw5
                    obtain ⟨zz, hrr⟩ : ∃ z, (!(r3 == r4)) = z := ⟨_, rfl⟩
                    rw [hrr]
                    change (r3 != r4) = zz at hrr
                    cases zz
                    · have HFI3 := Lib.hid (HFN3.out (by rw [HF6.out, if_neg (by rw [hrr]; decide)]))
                      clear hrr HF6 Q3 Q4
                      go_wp2_with fail
                      go_roundw
                      case rel => exact ⟨k + 1, by omega, by go_num, HFI3, HTw6⟩
                      case measure => simp [intOf]; omega
                    · have HFI := Lib.hid (HFY.out _ (HFG1b.out.trans (HFY3.out _ (by rw [HF6.out, if_pos hrr]))))
                      have HE : Hid ((fsO FA ll).getD ByteArray.empty = sgB (⟨#[69]⟩ ++ vi ++ vk) r3) := by show _ = _; rw [HFI.out]; rfl
                      have hz : ¬ 9223372036854775807 < (⟨#[69]⟩ : ByteArray).size + vi.size := by rw [HVS.out]; decide
                      have hz2 : ¬ 9223372036854775807 < (⟨#[69]⟩ ++ vi : ByteArray).size + vk.size := by rw [ByteArray.size_append, HVS.out, HVS3.out]; decide
                      have HSI := Lib.hid (fun w => HSG.out (⟨#[69]⟩ ++ vi ++ vk) r3 w (by rw [ByteArray.size_append, ByteArray.size_append, HVS.out, HVS3.out]; decide))
                      clear hrr HF6
                      obtain ⟨c0, c1, c2, f0, f1, f2, hl1⟩ := HTw6.out.a.cells
                      obtain ⟨d0, d1, d2, _, _, _, hl2⟩ := HTw6.out.b.cells
                      have e1 := HE1.out _ HTw6.out.old
                      have e2 := HE2.out _ HTw6.out.old
                      have e3 := HE3.out _ HTw6.out.old
                      have e4 := HE4.out _ HTw6.out.old
                      have s_c0 := fun s => Since.cell c0 s
                      have s_c1 := fun s => Since.cell c1 s
                      have s_c2 := fun s => Since.cell c2 s
                      have s_d0 := fun s => Since.cell d0 s
                      have s_d1 := fun s => Since.cell d1 s
                      have s_d2 := fun s => Since.cell d2 s
                      have s_e1 := fun s => Since.cell e1 s
                      have s_e2 := fun s => Since.cell e2 s
                      have s_e3 := fun s => Since.cell e3 s
                      have s_e4 := fun s => Since.cell e4 s
                      go_wp2_with fail
                      refine wp_region_since (by kernel_rfl) (by kernel_rfl) ?_
                      repeat (go_big_quiet_step (first | (with_reducible exact Since.call (Q3.out _)) | (with_reducible exact Since.call_same ((HSI.out _).mono fun _ _ h => ⟨h.1, h.2.symm⟩))))
                      refine wpQuiet_nil ?_
                      intro w7 hb_w7
                      have HTw7 := Lib.hid (HTw6.out.below hb_w7)
                      clear hb_w7 s_c0 s_c1 s_c2 s_d0 s_d1 s_d2 s_e1 s_e2 s_e3 s_e4 c0 c1 c2 d0 d1 d2 e1 e2 e3 e4 f0 f1 f2 hl1 hl2
                      go_wp2_with fail
                      go_ret
                      exact ⟨ret_str HE.out.symm, HTw7.out.old⟩
                  · have HFI := Lib.hid (HFY.out _ (HFG1b.out.trans (HFY3.out _ (by rw [HF5.out, if_pos hrr]))))
                    have HE : Hid ((fsO FA ll).getD ByteArray.empty = sgB (⟨#[69]⟩ ++ vk ++ vi) r1) := by show _ = _; rw [HFI.out]; rfl
                    have hz : ¬ 9223372036854775807 < (⟨#[69]⟩ : ByteArray).size + vk.size := by rw [HVS3.out]; decide
                    have hz2 : ¬ 9223372036854775807 < (⟨#[69]⟩ ++ vk : ByteArray).size + vi.size := by rw [ByteArray.size_append, HVS.out, HVS3.out]; decide
                    have HSI := Lib.hid (fun w => HSG.out (⟨#[69]⟩ ++ vk ++ vi) r1 w (by rw [ByteArray.size_append, ByteArray.size_append, HVS.out, HVS3.out]; decide))
                    clear hrr HF5
                    obtain ⟨c0, c1, c2, f0, f1, f2, hl1⟩ := HTw5.out.a.cells
                    obtain ⟨d0, d1, d2, _, _, _, hl2⟩ := HTw5.out.b.cells
                    have e1 := HE1.out _ HTw5.out.old
                    have e2 := HE2.out _ HTw5.out.old
                    have e3 := HE3.out _ HTw5.out.old
                    have e4 := HE4.out _ HTw5.out.old
                    have s_c0 := fun s => Since.cell c0 s
                    have s_c1 := fun s => Since.cell c1 s
                    have s_c2 := fun s => Since.cell c2 s
                    have s_d0 := fun s => Since.cell d0 s
                    have s_d1 := fun s => Since.cell d1 s
                    have s_d2 := fun s => Since.cell d2 s
                    have s_e1 := fun s => Since.cell e1 s
                    have s_e2 := fun s => Since.cell e2 s
                    have s_e3 := fun s => Since.cell e3 s
                    have s_e4 := fun s => Since.cell e4 s
                    go_wp2_with fail
                    refine wp_region_since (by kernel_rfl) (by kernel_rfl) ?_
                    repeat (go_big_quiet_step (first | (with_reducible exact Since.call (Q1.out _)) | (with_reducible exact Since.call_same ((HSI.out _).mono fun _ _ h => ⟨h.1, h.2.symm⟩))))
                    refine wpQuiet_nil ?_
                    intro w6 hb_w6
                    have HTw6 := Lib.hid (HTw5.out.below hb_w6)
                    clear hb_w6 s_c0 s_c1 s_c2 s_d0 s_d1 s_d2 s_e1 s_e2 s_e3 s_e4 c0 c1 c2 d0 d1 d2 e1 e2 e3 e4 f0 f1 f2 hl1 hl2
                    go_wp2_with fail
                    go_ret
                    exact ⟨ret_str HE.out.symm, HTw6.out.old⟩
                · have HFI := Lib.hid (HFY.out _ (HFG1b.out.trans (HFY3.out _ (by rw [HF4.out, if_pos hbb]))))
                  have HE : Hid ((fsO FA ll).getD ByteArray.empty = sgB (⟨#[61]⟩ ++ vk ++ vi) b1) := by show _ = _; rw [HFI.out]; rfl
                  have hz : ¬ 9223372036854775807 < (⟨#[61]⟩ : ByteArray).size + vk.size := by rw [HVS3.out]; decide
                  have hz2 : ¬ 9223372036854775807 < (⟨#[61]⟩ ++ vk : ByteArray).size + vi.size := by rw [ByteArray.size_append, HVS.out, HVS3.out]; decide
                  have HSI := Lib.hid (fun w => HSG.out (⟨#[61]⟩ ++ vk ++ vi) b1 w (by rw [ByteArray.size_append, ByteArray.size_append, HVS.out, HVS3.out]; decide))
                  clear hbb HF4
                  obtain ⟨c0, c1, c2, f0, f1, f2, hl1⟩ := HTw4.out.a.cells
                  obtain ⟨d0, d1, d2, _, _, _, hl2⟩ := HTw4.out.b.cells
                  have e1 := HE1.out _ HTw4.out.old
                  have e2 := HE2.out _ HTw4.out.old
                  have e3 := HE3.out _ HTw4.out.old
                  have e4 := HE4.out _ HTw4.out.old
                  have s_c0 := fun s => Since.cell c0 s
                  have s_c1 := fun s => Since.cell c1 s
                  have s_c2 := fun s => Since.cell c2 s
                  have s_d0 := fun s => Since.cell d0 s
                  have s_d1 := fun s => Since.cell d1 s
                  have s_d2 := fun s => Since.cell d2 s
                  have s_e1 := fun s => Since.cell e1 s
                  have s_e2 := fun s => Since.cell e2 s
                  have s_e3 := fun s => Since.cell e3 s
                  have s_e4 := fun s => Since.cell e4 s
                  go_wp2_with fail
                  refine wp_region_since (by kernel_rfl) (by kernel_rfl) ?_
                  repeat (go_big_quiet_step (first | (with_reducible exact Since.call_same ((HSI.out _).mono fun _ _ h => ⟨h.1, h.2.symm⟩))))
                  refine wpQuiet_nil ?_
                  intro w5 hb_w5
                  have HTw5 := Lib.hid (HTw4.out.below hb_w5)
                  clear hb_w5 s_c0 s_c1 s_c2 s_d0 s_d1 s_d2 s_e1 s_e2 s_e3 s_e4 c0 c1 c2 d0 d1 d2 e1 e2 e3 e4 f0 f1 f2 hl1 hl2
                  go_wp2_with fail
                  go_ret
                  exact ⟨ret_str HE.out.symm, HTw5.out.old⟩
            · obtain rfl : k = i + 1 := by omega
              have hkI : ¬ ((i : Int) + 1 ≤ (i : Int)) := by omega
              have hkB : decide ((i : Int) + 1 ≤ (i : Int)) = false := decide_eq_false hkI
              have HFI2 := Lib.hid (HFN.out (HFG1b.out.trans HN3.out))
              have hii : ((i + 1 : Nat) : Int) = (i : Int) + 1 := by omega
              rw [hii]
              clear hii
              go_wp2_with fail
              go_roundw
              case rel => exact ⟨i + 1, by omega, by go_num, HFI2, HT⟩
              case measure => simp [intOf]; omega
        · have HFI := Lib.hid (HFY.out _ (HFS1.out hrr))
          have HE : Hid ((fsO FA ll).getD ByteArray.empty = sgB (⟨#[80]⟩ ++ vi) r1) := by show _ = _; rw [HFI.out]; rfl
          have hz : ¬ 9223372036854775807 < (⟨#[80]⟩ : ByteArray).size + vi.size := by rw [HVS.out]; decide
          have HSI := Lib.hid (fun w => HSG.out (⟨#[80]⟩ ++ vi) r1 w (by rw [ByteArray.size_append, HVS.out]; decide))
          clear hrr HFS1 HFG1
          obtain ⟨c0, c1, c2, f0, f1, f2, hl1⟩ := HTw3.out.a.cells
          obtain ⟨d0, d1, d2, _, _, _, hl2⟩ := HTw3.out.b.cells
          have e1 := HE1.out _ HTw3.out.old
          have e2 := HE2.out _ HTw3.out.old
          have s_c0 := fun s => Since.cell c0 s
          have s_c1 := fun s => Since.cell c1 s
          have s_c2 := fun s => Since.cell c2 s
          have s_d0 := fun s => Since.cell d0 s
          have s_d1 := fun s => Since.cell d1 s
          have s_d2 := fun s => Since.cell d2 s
          have s_e1 := fun s => Since.cell e1 s
          have s_e2 := fun s => Since.cell e2 s
          go_wp2_with fail
          refine wp_region_since (by kernel_rfl) (by kernel_rfl) ?_
          repeat (go_big_quiet_step (first | (with_reducible exact Since.call (J1.out _)) | (with_reducible exact Since.call_same ((HSI.out _).mono fun _ _ h => ⟨h.1, h.2.symm⟩))))
          refine wpQuiet_nil ?_
          intro w4 hb_w4
          have HTw4 := Lib.hid (HTw3.out.below hb_w4)
          clear hb_w4 s_c0 s_c1 s_c2 s_d0 s_d1 s_d2 s_e1 s_e2 c0 c1 c2 d0 d1 d2 e1 e2 f0 f1 f2 hl1 hl2
          go_wp2_with fail
          go_ret
          exact ⟨ret_str HE.out.symm, HTw4.out.old⟩
    · obtain rfl : i = ll := by omega
      have HE : Hid ((fsO FA i).getD ByteArray.empty = ByteArray.empty) := by show _ = _; rw [HN.out]; rfl
      go_wp2_with fail
      go_ret
      exact ⟨ret_str HE.out.symm, HT.out.old⟩
end Go.Proofs.YtnhlhjehocngcaaGreatDoor

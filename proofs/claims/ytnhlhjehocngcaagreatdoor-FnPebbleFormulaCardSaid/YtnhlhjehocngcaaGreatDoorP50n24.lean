/- Contracts of the program's functions and what they compute: part 24. Conditions: those that each theorem states. -/
import Derived.Test.YtnhlhjehocngcaaGreatDoorP50n14
namespace Go.Proofs.YtnhlhjehocngcaaGreatDoor
open Go.RowKit
set_option linter.unusedVariables false
set_option maxRecDepth 100000
/-- The numbers under the pebbles at a place. -/
theorem rdy_at {n m : Nat} {L M : List Int} (h : Rdy n m L M) {i : Nat} (hi : i < L.length) (h0 : 0 ≤ L.getD i 0) : ∃ x y : Nat, L.getD i 0 = (x : Int) ∧ M.getD i 0 = (y : Int) ∧ x < n ∧ y < m ∧ elB L i = x ∧ elB M i = y := by
  have h1 := h.la (L.getD i 0) (by rw [List.getD_eq_getElem?_getD, List.getElem?_eq_getElem hi]; exact List.getElem_mem _)
  have h2 := h.lb (M.getD i 0) (by rw [List.getD_eq_getElem?_getD, List.getElem?_eq_getElem (by rw [← h.len]; exact hi)]; exact List.getElem_mem _)
  have h3 := h.sg i
  refine ⟨(L.getD i 0).toNat, (M.getD i 0).toNat, by omega, by omega, by omega, by omega, rfl, rfl⟩
theorem fa1_neg {a b : Gs.St} {L M : List Int} {i : Nat} (h : L.getD i 0 < 0) : fa1 a b L M i = none := by unfold fa1; rw [if_pos h]
theorem fa1_set {a b : Gs.St} {L M : List Int} {i : Nat} {r q : Bool} (h : ¬ L.getD i 0 < 0) (h1 : a.s (elB L i) = r) (h2 : b.s (elB M i) = q) (hne : (r != q) = true) : fa1 a b L M i = some (sgB (⟨#[80]⟩ ++ vnB i) r) := by
  unfold fa1; rw [if_neg h, h1, h2, if_pos hne]
theorem fa1_go {a b : Gs.St} {L M : List Int} {i : Nat} {r q : Bool} (h : ¬ L.getD i 0 < 0) (h1 : a.s (elB L i) = r) (h2 : b.s (elB M i) = q) (hne : (r != q) = false) : fa1 a b L M i = fsO (fa3 a b L M i) (i + 1) := by
  unfold fa1; rw [if_neg h, h1, h2, if_neg (by rw [hne]; decide)]
theorem fa3_neg {a b : Gs.St} {L M : List Int} {i k : Nat} (h : L.getD k 0 < 0) : fa3 a b L M i k = none := by unfold fa3; rw [if_pos h]
theorem fa3_is {a b : Gs.St} {L M : List Int} {i k : Nat} {e1 e2 r1 r2 r3 r4 : Bool} (h : ¬ L.getD k 0 < 0) (h1 : decide (L.getD k 0 = L.getD i 0) = e1) (h2 : decide (M.getD k 0 = M.getD i 0) = e2)
    (h3 : a.r (elB L k) (elB L i) = r1) (h4 : b.r (elB M k) (elB M i) = r2) (h5 : a.r (elB L i) (elB L k) = r3) (h6 : b.r (elB M i) (elB M k) = r4) :
    fa3 a b L M i k = if e1 != e2 then some (sgB (⟨#[61]⟩ ++ vnB k ++ vnB i) e1) else if r1 != r2 then some (sgB (⟨#[69]⟩ ++ vnB k ++ vnB i) r1) else if r3 != r4 then some (sgB (⟨#[69]⟩ ++ vnB i ++ vnB k) r3) else none := by
  unfold fa3; rw [if_neg h, h1, h2, h3, h4, h5, h6]
theorem ret_str {s u : ByteArray} (h : s = u) : Ending.returned (.string s) = .returned (.string u) := by rw [h]
set_option maxHeartbeats 4000000 in
theorem firstAtom_any (n m : Nat) (S R S2 R2 : ByteArray) (L M : List Int) (v u : Value) (w : World) (hS : S.size = n) (hR : R.size = n * n) (hn : n ≤ 8) (hS2 : S2.size = m) (hR2 : R2.size = m * m) (hm : m ≤ 8) (hv : IntsAt w v L) (hu : IntsAt w u M) (hr : Rdy n m L M) (hk3 : L.length ≤ 3) :
    Calls Tryz.prog 65 #[strV n S R, v, strV m S2 R2, u] w fun e w' => e = .returned (.string (firstA (stOf n S R) (stOf m S2 R2) L M)) ∧ Below w.heap.size w w' := by
  have HR := Lib.hid hr
  have HLM := Lib.hid hr.len
  have HS1 := Lib.hid (fun x w (hx : x < n) => inSet_b n S R x w (by omega) (by omega))
  have HS2 := Lib.hid (fun x w (hx : x < m) => inSet_b m S2 R2 x w (by omega) (by omega))
  have HR1 := Lib.hid (fun x y w hx hy => inRel_b n S R x y w hx hy hn hR)
  have HR2 := Lib.hid (fun x y w hx hy => inRel_b m S2 R2 x y w hx hy hm hR2)
  have HSG := Lib.hid (fun s is w hs => signed_any s is w hs)
  have HNM := Lib.hid (fun i w hi => nameOf_any i w hi)
  have HT := Lib.hid (Two.new w n S R m S2 R2)
  obtain ⟨FA, hFA⟩ : ∃ f, fa1 (stOf n S R) (stOf m S2 R2) L M = f := ⟨_, rfl⟩
  have HFA : Hid (firstA (stOf n S R) (stOf m S2 R2) L M = (fsO FA L.length).getD ByteArray.empty) := by rw [← hFA]; rfl
  have HFAE := Lib.hid hFA
  rw [HFA.out]
  unfold boxS at HT
  obtain ⟨a, ca, rfl, la1, la2, hva⟩ := hv.view
  obtain ⟨b, cb, rfl, lb1, lb2, hvb⟩ := hu.view
  unfold maxLen at la2 lb2
  have HA := Lib.hid hva
  have HB := Lib.hid hvb
  rw [← hr.len] at lb1 ⊢
  rw [← hr.len] at HB
  obtain ⟨ll, hll⟩ : ∃ ll, L.length = ll := ⟨_, rfl⟩
  have HLL := Lib.hid hll
  rw [hll] at la1 lb1 HA HB hk3 HFA ⊢
  clear hv hu hva hvb hr hS hR hS2 hR2 hFA hll
  unfold strV at HS1 HS2 HR1 HR2
  unfold strV
  obtain ⟨c0, c1, c2, f0, f1, f2, hl1⟩ := HT.out.a.cells
  obtain ⟨d0, d1, d2, _, _, _, hl2⟩ := HT.out.b.cells
  go_enter Tryz.func65, Tryz.ntmps65
  go_wp2_with fail
  go_loopw [19, 9, 10, 11, 12, 13, 14, 15, 16] (fun q _ _ _ _ _ _ _ _ wr => ∃ i : Nat, i ≤ ll ∧ q = .int .i64 (i : Int) ∧ Hid (fsO FA i = none) ∧ Hid (Two w wr n S R m S2 R2)) (fun q _ _ _ _ _ _ _ _ _ => ll - (intOf q).toNat)
  case atStart => exact ⟨0, by omega, rfl, rfl, HT⟩
  case round =>
    clear HT c0 c1 c2 f0 f1 f2 hl1 d0 d1 d2 hl2
    obtain ⟨i, hi, rfl, HN, HT⟩ := hrel
    by_cases hlt : i < ll
    · have hiI : (i : Int) < (ll : Int) := by omega
      have HFY := Lib.hid (fun s (h : FA i = some s) => fsO_yes HN.out h hlt)
      have HFN := Lib.hid (fun (h : FA i = none) => fsO_no HN.out h)
      obtain ⟨ga, oa, rfl, hga, hca⟩ := HA.out (by omega)
      obtain ⟨gb, ob, rfl, hgb, hcb⟩ := HB.out (by omega)
      have e1 := (HT.out.old.cell (p := ⟨ga, oa + i, none⟩) hga).trans (hca i hlt)
      have e2 := (HT.out.old.cell (p := ⟨gb, ob + i, none⟩) hgb).trans (hcb i hlt)
      have HCA := Lib.hid hca
      have HCB := Lib.hid hcb
      clear hca hcb
      by_cases hneg : L.getD i 0 < 0
      · have HFI := Lib.hid (HFN.out (by rw [← HFAE.out]; exact fa1_neg hneg))
        obtain ⟨x, hx⟩ : ∃ x, L.getD i 0 = x := ⟨_, rfl⟩
        rw [hx] at e1 hneg
        have hnegB : decide (x < 0) = true := decide_eq_true hneg
        clear hx
        go_wp2_with fail
        go_roundw
        case rel => exact ⟨i + 1, by omega, by go_num, HFI, HT⟩
        case measure => simp [intOf]; omega
      · obtain ⟨x, y, hx, hy, hxn, hym, hex, hey⟩ := rdy_at HR.out (by rw [HLL.out]; exact hlt) (by omega)
        have HNEG := Lib.hid hneg
        rw [hx] at e1
        rw [hy] at e2
        have hnegB : decide ((x : Int) < 0) = false := decide_eq_false (by omega)
        have hnegI : ¬ ((x : Int) < 0) := by omega
        have HX : Hid (L.getD i 0 = (x : Int) ∧ M.getD i 0 = (y : Int) ∧ elB L i = x ∧ elB M i = y) := ⟨hx, hy, hex, hey⟩
        clear hx hy hex hey hneg
        have hni := fun w => HNM.out i w (by omega)
        have j1 := fun w => HS1.out x w hxn
        have j2 := fun w => HS2.out y w hym
        have HFS : Hid (∀ r q, oneAt S x = r → oneAt S2 y = q → (r != q) = true → FA i = some (sgB (⟨#[80]⟩ ++ vnB i) r)) := fun r q h1 h2 h3 => by
          rw [← HFAE.out]
          exact fa1_set HNEG.out (by rw [HX.out.2.2.1]; exact h1) (by rw [HX.out.2.2.2]; exact h2) h3
        have HFG : Hid (∀ r q, oneAt S x = r → oneAt S2 y = q → (r != q) = false → FA i = fsO (fa3 (stOf n S R) (stOf m S2 R2) L M i) (i + 1)) := fun r q h1 h2 h3 => by
          rw [← HFAE.out]
          exact fa1_go HNEG.out (by rw [HX.out.2.2.1]; exact h1) (by rw [HX.out.2.2.2]; exact h2) h3
        have HVN : Hid (⟨#[UInt8.ofNat (97 + i)]⟩ = vnB i) := rfl
        rw [HVN.out] at hni
        have HNI := Lib.hid hni
        have hvs : (vnB i).size = 1 := rfl
        have HVS := Lib.hid hvs
        clear hvs hni HVN
        obtain ⟨r1, hr1⟩ : ∃ r, oneAt S x = r := ⟨_, rfl⟩
        obtain ⟨r2, hr2⟩ : ∃ r, oneAt S2 y = r := ⟨_, rfl⟩
        have HFS1 := Lib.hid (HFS.out r1 r2 hr1 hr2)
        have HFG1 := Lib.hid (HFG.out r1 r2 hr1 hr2)
        rw [hr1] at j1
        rw [hr2] at j2
        have J1 := Lib.hid j1
        have J2 := Lib.hid j2
        clear j1 j2 hr1 hr2 HFS HFG
        obtain ⟨F3, hF3⟩ : ∃ f, fa3 (stOf n S R) (stOf m S2 R2) L M i = f := ⟨_, rfl⟩
        have HF3 := Lib.hid hF3
        rw [hF3] at HFG1
        clear hF3
        obtain ⟨vi, hvi⟩ : ∃ vi, vnB i = vi := ⟨_, rfl⟩
        have HVI := Lib.hid hvi
        rw [hvi] at HVS HNI HFS1
        clear hvi
        have g2 := fun s => Since.cell e2 s
        go_wp2_with fail
        refine wp_region_since (by kernel_rfl) (by kernel_rfl) ?_
        repeat (go_big_quiet_step ((with_reducible exact Since.call_same ((HNI.out _).mono fun _ _ h => ⟨h.1, h.2⟩))))
        refine wpQuiet_nil ?_
        intro w2 hb2
        have HT2 := Lib.hid (HT.out.below hb2)
        clear g2 e1 e2 hb2 HT
        obtain ⟨c0, c1, c2, f0, f1, f2, hl1⟩ := HT2.out.a.cells
        obtain ⟨d0, d1, d2, _, _, _, hl2⟩ := HT2.out.b.cells
        have g0 := fun s => Since.cell c0 s
        have g1 := fun s => Since.cell c1 s
        have g2 := fun s => Since.cell c2 s
        have g3 := fun s => Since.cell d0 s
        have g4 := fun s => Since.cell d1 s
        have g5 := fun s => Since.cell d2 s
        go_wp2_with fail
        refine wp_region_since (by kernel_rfl) (by kernel_rfl) ?_
        repeat (go_big_quiet_step (first | (with_reducible exact Since.call (J1.out _)) | (with_reducible exact Since.call (J2.out _))))
        refine wpQuiet_nil ?_
        intro w3 hb3
        have HT3 := Lib.hid (HT2.out.below hb3)
        clear g0 g1 g2 g3 g4 g5 hb3 HT2 c0 c1 c2 f0 f1 f2 hl1 d0 d1 d2 hl2
        obtain ⟨c0, c1, c2, f0, f1, f2, hl1⟩ := HT3.out.a.cells
        obtain ⟨d0, d1, d2, _, _, _, hl2⟩ := HT3.out.b.cells
        obtain ⟨zz, hrr⟩ : ∃ z, (!(r1 == r2)) = z := ⟨_, rfl⟩
        rw [hrr]
        change (r1 != r2) = zz at hrr
        cases zz
        · have HFG1b := Lib.hid (HFG1.out hrr)
          clear hrr HFS1 HFG1 J1 J2
          go_wp2_with fail
          obtain ⟨wo, hwo⟩ : ∃ wo, wo = w3 := ⟨_, rfl⟩
          subst hwo
          go_loopw [50, 13, 14, 15, 16] (fun q _ _ _ _ wr => ∃ k : Nat, k ≤ i + 1 ∧ q = .int .i64 (k : Int) ∧ Hid (fsO F3 k = none) ∧ Hid (Two w wr n S R m S2 R2)) (fun q _ _ _ _ _ => i + 1 - (intOf q).toNat)
          case atStart => exact ⟨0, by omega, rfl, rfl, HT3⟩
          case round =>
            clear HT3 c0 c1 c2 f0 f1 f2 hl1 d0 d1 d2 hl2
            obtain ⟨k, hk, rfl, HN3, HT⟩ := hrel
            by_cases hlt3 : k < i + 1
            · have hkI : (k : Int) < (i : Int) + 1 := by omega
              have hkI2 : (k : Int) < (ll : Int) := by omega
              have HFY3 := Lib.hid (fun s (h : F3 k = some s) => fsO_yes HN3.out h hlt3)
              have HFN3 := Lib.hid (fun (h : F3 k = none) => fsO_no HN3.out h)
              have e1 := (HT.out.old.cell (p := ⟨ga, oa + k, none⟩) hga).trans (HCA.out k (by omega))
              have e2 := (HT.out.old.cell (p := ⟨gb, ob + k, none⟩) hgb).trans (HCB.out k (by omega))
              by_cases hneg : L.getD k 0 < 0
              · have HFI3 := Lib.hid (HFN3.out (by rw [← HF3.out]; exact fa3_neg hneg))
                obtain ⟨x2, hx⟩ : ∃ x, L.getD k 0 = x := ⟨_, rfl⟩
                rw [hx] at e1 hneg
                have hnegB : decide (x2 < 0) = true := decide_eq_true hneg
                clear hx
                go_wp2_with fail
                go_roundw
                case rel => exact ⟨k + 1, by omega, by go_num, HFI3, HT⟩
                case measure => simp [intOf]; omega
              · obtain ⟨x2, y2, hx, hy, hx2n, hy2m, hex, hey⟩ := rdy_at HR.out (i := k) (by rw [HLL.out]; omega) (by omega)
                rw [hx] at e1
                rw [hy] at e2
                have hnegB2 : decide ((x2 : Int) < 0) = false := decide_eq_false (by omega)
                have hnegI2 : ¬ ((x2 : Int) < 0) := by omega
                have hnk := fun w => HNM.out k w (by omega)
                have HVN : Hid (⟨#[UInt8.ofNat (97 + k)]⟩ = vnB k) := rfl
                rw [HVN.out] at hnk
                have HVS3 : Hid ((vnB k).size = 1) := rfl
                obtain ⟨b1, hb1⟩ : ∃ b, ((x2 : Int) == (x : Int)) = b := ⟨_, rfl⟩
                obtain ⟨b2, hb2⟩ : ∃ b, ((y2 : Int) == (y : Int)) = b := ⟨_, rfl⟩
                have q1 := fun w => HR1.out x2 x w hx2n hxn
                have q2 := fun w => HR2.out y2 y w hy2m hym
                have q3 := fun w => HR1.out x x2 w hxn hx2n
                have q4 := fun w => HR2.out y y2 w hym hy2m
                have HF4 : Hid (F3 k = if b1 != b2 then some (sgB (⟨#[61]⟩ ++ vnB k ++ vnB i) b1) else if relAt n R x2 x != relAt m R2 y2 y then some (sgB (⟨#[69]⟩ ++ vnB k ++ vnB i) (relAt n R x2 x)) else if relAt n R x x2 != relAt m R2 y y2 then some (sgB (⟨#[69]⟩ ++ vnB i ++ vnB k) (relAt n R x x2)) else none) := by
                  show _ = _
                  rw [← HF3.out]
                  refine fa3_is hneg ?_ ?_ ?_ ?_ ?_ ?_
                  · rw [hx, HX.out.1, ← hb1]; rfl
                  · rw [hy, HX.out.2.1, ← hb2]; rfl
                  · rw [hex, HX.out.2.2.1]; rfl
                  · rw [hey, HX.out.2.2.2]; rfl
                  · rw [hex, HX.out.2.2.1]; rfl
                  · rw [hey, HX.out.2.2.2]; rfl
                rw [HVI.out] at HF4
                generalize relAt n R x2 x = r1 at *
                generalize relAt m R2 y2 y = r2 at *
                generalize relAt n R x x2 = r3 at *
                generalize relAt m R2 y y2 = r4 at *
                generalize vnB k = vk at *
                have HNK := Lib.hid hnk
                have Q1 := Lib.hid q1
                have Q2 := Lib.hid q2
                have Q3 := Lib.hid q3
                have Q4 := Lib.hid q4
                clear hnk q1 q2 q3 q4 hneg hx hy hex hey HVN
                have g1 := fun s => Since.cell e2 s
                go_wp2_with fail
                refine wp_region_since (by kernel_rfl) (by kernel_rfl) ?_
                repeat (go_big_quiet_step ((with_reducible exact Since.call_same ((HNK.out _).mono fun _ _ h => ⟨h.1, h.2⟩))))
                refine wpQuiet_nil ?_
                intro w4 hb4
                have HT4 := Lib.hid (HT.out.below hb4)
                clear g1 e1 e2 hb4 HT
                go_upto_if 63 with fail
                obtain ⟨zz, hbb⟩ : ∃ z, (!(b1 == b2)) = z := ⟨_, rfl⟩
                rw [hbb]
                change (b1 != b2) = zz at hbb
                cases zz
                · have hbe : b2 = b1 := by cases b1 <;> cases b2 <;> first | rfl | cases hbb
                  have HF5 : Hid (F3 k = if r1 != r2 then some (sgB (⟨#[69]⟩ ++ vk ++ vi) r1) else if r3 != r4 then some (sgB (⟨#[69]⟩ ++ vi ++ vk) r3) else none) := by show _ = _; rw [HF4.out, if_neg (by rw [hbb]; decide)]
                  clear hbb HF4
                  obtain ⟨c0, c1, c2, f0, f1, f2, hl1⟩ := HT4.out.a.cells
                  obtain ⟨d0, d1, d2, _, _, _, hl2⟩ := HT4.out.b.cells
                  have g0 := fun s => Since.cell c0 s
                  have g1 := fun s => Since.cell c1 s
                  have g2 := fun s => Since.cell c2 s
                  have g3 := fun s => Since.cell d0 s
                  have g4 := fun s => Since.cell d1 s
                  have g5 := fun s => Since.cell d2 s
                  go_wp2_with fail
                  refine wp_region_since (by kernel_rfl) (by kernel_rfl) ?_
                  repeat (go_big_quiet_step (first | (with_reducible exact Since.call (Q1.out _)) | (with_reducible exact Since.call (Q2.out _))))
                  refine wpQuiet_nil ?_
                  intro w5 hb5
                  have HT5 := Lib.hid (HT4.out.below hb5)
                  clear g0 g1 g2 g3 g4 g5 hb5 c0 c1 c2 f0 f1 f2 hl1 d0 d1 d2 hl2 HT4
                  obtain ⟨c0, c1, c2, f0, f1, f2, hl1⟩ := HT5.out.a.cells
                  obtain ⟨d0, d1, d2, _, _, _, hl2⟩ := HT5.out.b.cells
                  obtain ⟨zz, hrr⟩ : ∃ z, (!(r1 == r2)) = z := ⟨_, rfl⟩
                  rw [hrr]
                  change (r1 != r2) = zz at hrr
                  cases zz
                  · have hre : r2 = r1 := by cases r1 <;> cases r2 <;> first | rfl | cases hrr
                    have HF6 : Hid (F3 k = if r3 != r4 then some (sgB (⟨#[69]⟩ ++ vi ++ vk) r3) else none) := by show _ = _; rw [HF5.out, if_neg (by rw [hrr]; decide)]
                    have g0 := fun s => Since.cell c0 s
                    have g1 := fun s => Since.cell c1 s
                    have g2 := fun s => Since.cell c2 s
                    have g3 := fun s => Since.cell d0 s
                    have g4 := fun s => Since.cell d1 s
                    have g5 := fun s => Since.cell d2 s
                    clear hrr HF5 Q1 Q2
                    go_wp2_with fail
                    refine wp_region_since (by kernel_rfl) (by kernel_rfl) ?_
                    repeat (go_big_quiet_step (first | (with_reducible exact Since.call (Q3.out _)) | (with_reducible exact Since.call (Q4.out _))))
                    refine wpQuiet_nil ?_
                    intro w6 hb6
                    have HT6 := Lib.hid (HT5.out.below hb6)
                    clear g0 g1 g2 g3 g4 g5 hb6 c0 c1 c2 f0 f1 f2 hl1 d0 d1 d2 hl2 HT5
                    obtain ⟨zz, hrr⟩ : ∃ z, (!(r3 == r4)) = z := ⟨_, rfl⟩
                    rw [hrr]
                    change (r3 != r4) = zz at hrr
                    cases zz
                    · have hre : r4 = r3 := by cases r3 <;> cases r4 <;> first | rfl | cases hrr
                      have HFI3 := Lib.hid (HFN3.out (by rw [HF6.out, if_neg (by rw [hrr]; decide)]))
                      clear hrr HF6 Q3 Q4
                      go_wp2_with fail
                      go_roundw
                      case rel => exact ⟨k + 1, by omega, by go_num, HFI3, HT6⟩
                      case measure => simp [intOf]; omega
                    · have hre : r4 = !r3 := by cases r3 <;> cases r4 <;> first | rfl | cases hrr
                      have HFI := Lib.hid (HFY.out _ (HFG1b.out.trans (HFY3.out _ (by rw [HF6.out, if_pos hrr]))))
                      have HE : Hid ((fsO FA ll).getD ByteArray.empty = sgB (⟨#[69]⟩ ++ vi ++ vk) r3) := by show _ = _; rw [HFI.out]; rfl
                      have hz : ¬ 9223372036854775807 < (⟨#[69]⟩ : ByteArray).size + vi.size := by rw [HVS.out]; decide
                      have hz2 : ¬ 9223372036854775807 < (⟨#[69]⟩ ++ vi : ByteArray).size + vk.size := by rw [ByteArray.size_append, HVS.out, HVS3.out]; decide
                      have HSI := Lib.hid (fun w => HSG.out (⟨#[69]⟩ ++ vi ++ vk) r3 w (by rw [ByteArray.size_append, ByteArray.size_append, HVS.out, HVS3.out]; decide))
                      clear hrr HF6
                      obtain ⟨c0, c1, c2, f0, f1, f2, hl1⟩ := HT6.out.a.cells
                      go_wp2_with fail
                      refine (Q3.out _).mono ?_; rintro e w7 ⟨rfl, hb7⟩
                      have HT7 := Lib.hid (HT6.out.below hb7)
                      clear hb7
                      go_wp2_with fail
                      refine (HSI.out _).mono ?_; rintro e w8 ⟨rfl, hw8⟩; rw [hw8]; clear hw8
                      go_wp2_with fail
                      go_ret
                      exact ⟨ret_str HE.out.symm, HT7.out.old⟩
                  · have hre : r2 = !r1 := by cases r1 <;> cases r2 <;> first | rfl | cases hrr
                    have HFI := Lib.hid (HFY.out _ (HFG1b.out.trans (HFY3.out _ (by rw [HF5.out, if_pos hrr]))))
                    have HE : Hid ((fsO FA ll).getD ByteArray.empty = sgB (⟨#[69]⟩ ++ vk ++ vi) r1) := by show _ = _; rw [HFI.out]; rfl
                    have hz : ¬ 9223372036854775807 < (⟨#[69]⟩ : ByteArray).size + vk.size := by rw [HVS3.out]; decide
                    have hz2 : ¬ 9223372036854775807 < (⟨#[69]⟩ ++ vk : ByteArray).size + vi.size := by rw [ByteArray.size_append, HVS.out, HVS3.out]; decide
                    have HSI := Lib.hid (fun w => HSG.out (⟨#[69]⟩ ++ vk ++ vi) r1 w (by rw [ByteArray.size_append, ByteArray.size_append, HVS.out, HVS3.out]; decide))
                    clear hrr HF5
                    go_wp2_with fail
                    refine (Q1.out _).mono ?_; rintro e w7 ⟨rfl, hb7⟩
                    have HT7 := Lib.hid (HT5.out.below hb7)
                    clear hb7
                    go_wp2_with fail
                    refine (HSI.out _).mono ?_; rintro e w8 ⟨rfl, hw8⟩; rw [hw8]; clear hw8
                    go_wp2_with fail
                    go_ret
                    exact ⟨ret_str HE.out.symm, HT7.out.old⟩
                · have hbe : b2 = !b1 := by cases b1 <;> cases b2 <;> first | rfl | cases hbb
                  have HFI := Lib.hid (HFY.out _ (HFG1b.out.trans (HFY3.out _ (by rw [HF4.out, if_pos hbb]))))
                  have HE : Hid ((fsO FA ll).getD ByteArray.empty = sgB (⟨#[61]⟩ ++ vk ++ vi) b1) := by show _ = _; rw [HFI.out]; rfl
                  have hz : ¬ 9223372036854775807 < (⟨#[61]⟩ : ByteArray).size + vk.size := by rw [HVS3.out]; decide
                  have hz2 : ¬ 9223372036854775807 < (⟨#[61]⟩ ++ vk : ByteArray).size + vi.size := by rw [ByteArray.size_append, HVS.out, HVS3.out]; decide
                  have HSI := Lib.hid (fun w => HSG.out (⟨#[61]⟩ ++ vk ++ vi) b1 w (by rw [ByteArray.size_append, ByteArray.size_append, HVS.out, HVS3.out]; decide))
                  clear hbb HF4
                  go_wp2_with fail
                  refine (HSI.out _).mono ?_; rintro e w5 ⟨rfl, hw5⟩; rw [hw5]; clear hw5
                  go_wp2_with fail
                  go_ret
                  exact ⟨ret_str HE.out.symm, HT4.out.old⟩
            · obtain rfl : k = i + 1 := by omega
              have HFI2 := Lib.hid (HFN.out (HFG1b.out.trans HN3.out))
              go_wp2_with fail
              go_roundw
              case rel => exact ⟨i + 1, by omega, by go_num, HFI2, HT⟩
              case measure => simp [intOf]; omega
        · have HFI := Lib.hid (HFY.out _ (HFS1.out hrr))
          have HE : Hid ((fsO FA ll).getD ByteArray.empty = sgB (⟨#[80]⟩ ++ vi) r1) := by show _ = _; rw [HFI.out]; rfl
          have hz : ¬ 9223372036854775807 < (⟨#[80]⟩ : ByteArray).size + vi.size := by rw [HVS.out]; decide
          have HSI := Lib.hid (fun w => HSG.out (⟨#[80]⟩ ++ vi) r1 w (by rw [ByteArray.size_append, HVS.out]; decide))
          clear hrr HFS1 HFG1
          go_wp2_with fail
          refine (J1.out _).mono ?_; rintro e w4 ⟨rfl, hb4⟩
          have HT4 := Lib.hid (HT3.out.below hb4)
          clear hb4
          go_wp2_with fail
          refine (HSI.out _).mono ?_; rintro e w5 ⟨rfl, hw5⟩; rw [hw5]; clear hw5
          go_wp2_with fail
          go_ret
          exact ⟨ret_str HE.out.symm, HT4.out.old⟩
    · obtain rfl : i = ll := by omega
      have HE : Hid ((fsO FA i).getD ByteArray.empty = ByteArray.empty) := by show _ = _; rw [HN.out]; rfl
      go_wp2_with fail
      go_ret
      exact ⟨ret_str HE.out.symm, HT.out.old⟩
end Go.Proofs.YtnhlhjehocngcaaGreatDoor

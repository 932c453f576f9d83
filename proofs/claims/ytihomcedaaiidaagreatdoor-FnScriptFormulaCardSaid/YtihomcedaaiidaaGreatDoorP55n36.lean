/- Contracts of the program's functions and what they compute: part 36. Conditions: those that each theorem states. -/
import Derived.Test.YtihomcedaaiidaaGreatDoorP55n34
namespace Go.Proofs.YtihomcedaaiidaaGreatDoor
open Go.RowKit
set_option linter.unusedVariables false
set_option maxRecDepth 100000
set_option maxHeartbeats 2000000 in
theorem push_116f {F : Nat → Prop} {w : World} {p : Nat} {vs : List (Fin 4)} {qs : List Nat} {fr al : Nat} {v u : Value} (nd : Nd F w p 116 vs qs fr al v u) (hv2 : vs.length ≤ 2) (ts : List (List UInt8)) (hl : ts.length = qs.length) (hq : qs.length ≤ 2) (hts : ∀ t ∈ ts, t.length ≤ 200000)
    (IH : ∀ j, j < qs.length → ∀ w', Below w.heap.size w w' → Calls Tryz.prog 29 #[ptrV (qs.getD j 0), .bool false] w' fun e w2 => e = .returned (.string (txtS (ts.getD j []))) ∧ Below w'.heap.size w' w2) :
    Calls Tryz.prog 29 #[ptrV p, .bool false] w fun e w' => e = .returned (.string (txtS (116 :: vs.map Fm.vb ++ ts.flatten))) ∧ Below w.heap.size w w' := by
  obtain ⟨nv, hnv⟩ : ∃ n, vs.length = n := ⟨_, rfl⟩
  obtain ⟨nq, hnq⟩ : ∃ n, qs.length = n := ⟨_, rfl⟩
  rw [hnq] at hq hl IH
  rw [hnv] at hv2
  obtain ⟨av, cv, ap, cp, rfl, rfl, hcp, c0, c1, c2, hpl, hcv, hpp⟩ := nd_facts nd nv nq hnv hnq
  replace c0 : w.cell? ⟨p, 0, none⟩ = some (.int .u8 116) := c0
  have HPP := Lib.hid hpp
  have HIH := Lib.hid IH
  have HTS := Lib.hid hts
  have HL := Lib.hid hl
  obtain ⟨LB, hLB⟩ : ∃ l, vs.map Fm.vb = l := ⟨_, rfl⟩
  have HLN : Hid (LB.length ≤ 2) := by show _ ≤ _; rw [← hLB, List.length_map, hnv]; exact hv2
  rw [hLB] at hcv ⊢
  have HB0 : Hid (Below w.heap.size w (w.alloc (.cells #[.int .u8 116] 5)).drew ∧ Below w.heap.size w w.drew) := ⟨((Below.refl _ _).alloc (Nat.le_refl _) _).drew, (Below.refl _ _).drew⟩
  have cA : (convert 22 9 (.slice (some ⟨w.heap.size, 0, none⟩) 1 1)).run Tryz.prog (w.alloc (.cells #[.int .u8 116] 5)).drew = .ok (.string (txtS [116])) (w.alloc (.cells #[.int .u8 116] 5)).drew := conv_bytes _ _ 1 [116] (fun j hj => by
    obtain rfl : j = 0 := by simpa using hj
    show (w.alloc (.cells #[.int .u8 116] 5)).cell? ⟨w.heap.size, 0, none⟩ = some (.int .u8 116)
    unfold World.cell?
    rw [heap_alloc_new]; rfl)
  have cB1 := hcv w.drew HB0.out.2
  have cB2 := hcv _ HB0.out.1
  have HOE : Hid (txtS [116] ++ txtS LB = txtS (116 :: LB)) := by
    show _ = _
    rw [txtS_app]; simp
  have HOS : Hid ((txtS [116] ++ txtS LB).size ≤ 10) := by
    show _ ≤ _
    rw [ByteArray.size_append, txtS_size, txtS_size]
    have := HLN.out
    have : [(116 : UInt8)].length = 1 := rfl
    omega
  have sA : (txtS [116]).size = 1 := rfl
  have sB : (txtS LB).size ≤ 2 := by rw [txtS_size]; exact HLN.out
  obtain ⟨HD, hHD⟩ : ∃ l, 116 :: LB = l := ⟨_, rfl⟩
  rw [hHD] at HOE
  clear nd hl hts IH hpp hLB hnv hnq HLN
  unfold ptrV
  clear hcv
  go_enter Tryz.func29, Tryz.ntmps29
  go_upto_region 22 with fail
  go_cut [9] (fun o' wx => ∃ out : ByteArray, o' = .string out ∧ out.size ≤ 10 ∧ Hid (out = txtS HD) ∧ Hid (Below w.heap.size w wx))
  case first =>
    go_region_with (fail)
    all_goals
      go_wp2_with fail
      go_meet
      first
      | exact ⟨_, rfl, HOS.out, HOE.out, HB0.out.1⟩
      | exact ⟨_, rfl, HOS.out, HOE.out, HB0.out.2⟩
  case rest =>
    obtain ⟨out0, rfl, hoz0, HO0, HBW⟩ := hcut
    have c2' := (HBW.out.cell (p := ⟨p, 2, none⟩) hpl).trans c2
    clear cA cB1 cB2 HOE HOS sA sB c0 c1 c2 HB0
    go_wp2_with fail
    go_loopw [85, 9] (fun iv o' wx => ∃ k : Nat, k ≤ nq ∧ iv = .int .i64 (k : Int) ∧ ∃ out : ByteArray, o' = .string out ∧ out.size ≤ 10 + 200000 * k ∧ Hid (out = txtS (HD ++ (ts.take k).flatten)) ∧ Hid (Below w.heap.size w wx)) (fun iv _ _ => nq - (intOf iv).toNat)
    case atStart => exact ⟨0, by omega, rfl, _, rfl, by omega, by show _ = _; rw [HO0.out]; simp, HBW.out⟩
    case round =>
      obtain ⟨k, hk, rfl, out, rfl, hoz, HO, HP⟩ := hrel
      by_cases hlt : k < nq
      · obtain ⟨g, rfl, hg, hgc⟩ := HPP.out (by omega)
        have dq := (HP.out.cell (p := ⟨g, k, none⟩) hg).trans (hgc k hlt)
        have HC := Lib.hid (HIH.out k hlt wr HP.out)
        have hkl : k < ts.length := by rw [HL.out]; exact hlt
        have hgd : ts[k] = ts.getD k [] := by simp [List.getD_eq_getElem?_getD, hkl]
        have hsz : (ts.getD k []).length ≤ 200000 := by rw [← hgd]; exact HTS.out ts[k] (List.getElem_mem hkl)
        have HNX : Hid (out ++ txtS (ts.getD k []) = txtS (HD ++ (ts.take (k + 1)).flatten)) := by
          show _ = _
          rw [HO.out, txtS_app, List.take_succ_eq_append_getElem hkl, List.flatten_append, hgd]
          simp
        have hkI : (k : Int) < (nq : Int) := by omega
        have hTz : (txtS (ts.getD k [])).size ≤ 200000 := by rw [txtS_size]; exact hsz
        unfold ptrV at HC dq
        clear hgc hsz hgd hkl
        generalize txtS (ts.getD k []) = T at *
        generalize qs.getD k 0 = q1 at *
        have hcat : ¬ 9223372036854775807 < out.size + T.size := by omega
        go_wp2_with fail
        refine HC.out.mono ?_; rintro e w3 ⟨rfl, hb3⟩
        have HP3 := Lib.hid (HP.out.trans (hb3.mono HP.out.size))
        clear hb3
        go_wp2_with fail
        go_roundw
        case rel => exact ⟨k + 1, by omega, by go_num, _, rfl, by rw [ByteArray.size_append]; omega, HNX.out, HP3.out⟩
        case measure => simp [intOf]; omega
      · have hkn : k = nq := by omega
        have HE : Hid (out = txtS (HD ++ ts.flatten)) := by
          show _ = _
          rw [HO.out, List.take_of_length_le (by have := HL.out; omega)]
        have hkI : ¬ (k : Int) < (nq : Int) := by omega
        have HPE := Lib.hid HP.out
        clear HO HP
        go_wp2_with fail
        go_ret
        exact ⟨by rw [HE.out, ← hHD]; rfl, HPE.out⟩
set_option maxHeartbeats 2000000 in
theorem push_116t {F : Nat → Prop} {w : World} {p : Nat} {vs : List (Fin 4)} {qs : List Nat} {fr al : Nat} {v u : Value} (nd : Nd F w p 116 vs qs fr al v u) (hv2 : vs.length ≤ 2) (ts : List (List UInt8)) (hl : ts.length = qs.length) (hq : qs.length ≤ 2) (hts : ∀ t ∈ ts, t.length ≤ 200000)
    (IH : ∀ j, j < qs.length → ∀ w', Below w.heap.size w w' → Calls Tryz.prog 29 #[ptrV (qs.getD j 0), .bool true] w' fun e w2 => e = .returned (.string (txtS (ts.getD j []))) ∧ Below w'.heap.size w' w2) :
    Calls Tryz.prog 29 #[ptrV p, .bool true] w fun e w' => e = .returned (.string (txtS (102 :: vs.map Fm.vb ++ ts.flatten))) ∧ Below w.heap.size w w' := by
  obtain ⟨nv, hnv⟩ : ∃ n, vs.length = n := ⟨_, rfl⟩
  obtain ⟨nq, hnq⟩ : ∃ n, qs.length = n := ⟨_, rfl⟩
  rw [hnq] at hq hl IH
  rw [hnv] at hv2
  obtain ⟨av, cv, ap, cp, rfl, rfl, hcp, c0, c1, c2, hpl, hcv, hpp⟩ := nd_facts nd nv nq hnv hnq
  replace c0 : w.cell? ⟨p, 0, none⟩ = some (.int .u8 116) := c0
  have HPP := Lib.hid hpp
  have HIH := Lib.hid IH
  have HTS := Lib.hid hts
  have HL := Lib.hid hl
  obtain ⟨LB, hLB⟩ : ∃ l, vs.map Fm.vb = l := ⟨_, rfl⟩
  have HLN : Hid (LB.length ≤ 2) := by show _ ≤ _; rw [← hLB, List.length_map, hnv]; exact hv2
  rw [hLB] at hcv ⊢
  have HB0 : Hid (Below w.heap.size w (w.alloc (.cells #[.int .u8 102] 5)).drew ∧ Below w.heap.size w w.drew) := ⟨((Below.refl _ _).alloc (Nat.le_refl _) _).drew, (Below.refl _ _).drew⟩
  have cA : (convert 22 9 (.slice (some ⟨w.heap.size, 0, none⟩) 1 1)).run Tryz.prog (w.alloc (.cells #[.int .u8 102] 5)).drew = .ok (.string (txtS [102])) (w.alloc (.cells #[.int .u8 102] 5)).drew := conv_bytes _ _ 1 [102] (fun j hj => by
    obtain rfl : j = 0 := by simpa using hj
    show (w.alloc (.cells #[.int .u8 102] 5)).cell? ⟨w.heap.size, 0, none⟩ = some (.int .u8 102)
    unfold World.cell?
    rw [heap_alloc_new]; rfl)
  have cB1 := hcv w.drew HB0.out.2
  have cB2 := hcv _ HB0.out.1
  have HOE : Hid (txtS [102] ++ txtS LB = txtS (102 :: LB)) := by
    show _ = _
    rw [txtS_app]; simp
  have HOS : Hid ((txtS [102] ++ txtS LB).size ≤ 10) := by
    show _ ≤ _
    rw [ByteArray.size_append, txtS_size, txtS_size]
    have := HLN.out
    have : [(102 : UInt8)].length = 1 := rfl
    omega
  have sA : (txtS [102]).size = 1 := rfl
  have sB : (txtS LB).size ≤ 2 := by rw [txtS_size]; exact HLN.out
  obtain ⟨HD, hHD⟩ : ∃ l, 102 :: LB = l := ⟨_, rfl⟩
  rw [hHD] at HOE
  have HTU := Lib.hid (fun w => turned_116 w)
  clear nd hl hts IH hpp hLB hnv hnq HLN
  unfold ptrV
  have HCVV := Lib.hid hcv
  clear hcv cA cB1 cB2 HB0
  go_enter Tryz.func29, Tryz.ntmps29
  go_wp2_with fail
  refine (HTU.out _).mono ?_; rintro e wt ⟨rfl, hbt⟩
  have HBT := Lib.hid hbt
  clear hbt
  have c0t := (HBT.out.cell (p := ⟨p, 0, none⟩) hpl).trans c0
  have c1t := (HBT.out.cell (p := ⟨p, 1, none⟩) hpl).trans c1
  have hplt : p < wt.heap.size := Nat.lt_of_lt_of_le hpl HBT.out.size
  have HB0 : Hid (Below w.heap.size w (wt.alloc (.cells #[.int .u8 102] 5)).drew ∧ Below w.heap.size w wt.drew) := ⟨(HBT.out.alloc HBT.out.size _).drew, HBT.out.drew⟩
  have cA : (convert 22 9 (.slice (some ⟨wt.heap.size, 0, none⟩) 1 1)).run Tryz.prog (wt.alloc (.cells #[.int .u8 102] 5)).drew = .ok (.string (txtS [102])) (wt.alloc (.cells #[.int .u8 102] 5)).drew := conv_bytes _ _ 1 [102] (fun j hj => by
    obtain rfl : j = 0 := by simpa using hj
    show (wt.alloc (.cells #[.int .u8 102] 5)).cell? ⟨wt.heap.size, 0, none⟩ = some (.int .u8 102)
    unfold World.cell?
    rw [heap_alloc_new]; rfl)
  have cB1 := HCVV.out wt.drew HB0.out.2
  have cB2 := HCVV.out _ HB0.out.1
  clear HCVV
  go_upto_region 22 with fail
  go_cut [9] (fun o' wx => ∃ out : ByteArray, o' = .string out ∧ out.size ≤ 10 ∧ Hid (out = txtS HD) ∧ Hid (Below w.heap.size w wx))
  case first =>
    go_region_with (fail)
    all_goals
      go_wp2_with fail
      go_meet
      first
      | exact ⟨_, rfl, HOS.out, HOE.out, HB0.out.1⟩
      | exact ⟨_, rfl, HOS.out, HOE.out, HB0.out.2⟩
  case rest =>
    obtain ⟨out0, rfl, hoz0, HO0, HBW⟩ := hcut
    have c2' := (HBW.out.cell (p := ⟨p, 2, none⟩) hpl).trans c2
    clear cA cB1 cB2 HOE HOS sA sB c0 c1 c2 HB0 c0t c1t HBT
    go_wp2_with fail
    go_loopw [85, 9] (fun iv o' wx => ∃ k : Nat, k ≤ nq ∧ iv = .int .i64 (k : Int) ∧ ∃ out : ByteArray, o' = .string out ∧ out.size ≤ 10 + 200000 * k ∧ Hid (out = txtS (HD ++ (ts.take k).flatten)) ∧ Hid (Below w.heap.size w wx)) (fun iv _ _ => nq - (intOf iv).toNat)
    case atStart => exact ⟨0, by omega, rfl, _, rfl, by omega, by show _ = _; rw [HO0.out]; simp, HBW.out⟩
    case round =>
      obtain ⟨k, hk, rfl, out, rfl, hoz, HO, HP⟩ := hrel
      by_cases hlt : k < nq
      · obtain ⟨g, rfl, hg, hgc⟩ := HPP.out (by omega)
        have dq := (HP.out.cell (p := ⟨g, k, none⟩) hg).trans (hgc k hlt)
        have HC := Lib.hid (HIH.out k hlt wr HP.out)
        have hkl : k < ts.length := by rw [HL.out]; exact hlt
        have hgd : ts[k] = ts.getD k [] := by simp [List.getD_eq_getElem?_getD, hkl]
        have hsz : (ts.getD k []).length ≤ 200000 := by rw [← hgd]; exact HTS.out ts[k] (List.getElem_mem hkl)
        have HNX : Hid (out ++ txtS (ts.getD k []) = txtS (HD ++ (ts.take (k + 1)).flatten)) := by
          show _ = _
          rw [HO.out, txtS_app, List.take_succ_eq_append_getElem hkl, List.flatten_append, hgd]
          simp
        have hkI : (k : Int) < (nq : Int) := by omega
        have hTz : (txtS (ts.getD k [])).size ≤ 200000 := by rw [txtS_size]; exact hsz
        unfold ptrV at HC dq
        clear hgc hsz hgd hkl
        generalize txtS (ts.getD k []) = T at *
        generalize qs.getD k 0 = q1 at *
        have hcat : ¬ 9223372036854775807 < out.size + T.size := by omega
        go_wp2_with fail
        refine HC.out.mono ?_; rintro e w3 ⟨rfl, hb3⟩
        have HP3 := Lib.hid (HP.out.trans (hb3.mono HP.out.size))
        clear hb3
        go_wp2_with fail
        go_roundw
        case rel => exact ⟨k + 1, by omega, by go_num, _, rfl, by rw [ByteArray.size_append]; omega, HNX.out, HP3.out⟩
        case measure => simp [intOf]; omega
      · have hkn : k = nq := by omega
        have HE : Hid (out = txtS (HD ++ ts.flatten)) := by
          show _ = _
          rw [HO.out, List.take_of_length_le (by have := HL.out; omega)]
        have hkI : ¬ (k : Int) < (nq : Int) := by omega
        have HPE := Lib.hid HP.out
        clear HO HP
        go_wp2_with fail
        go_ret
        exact ⟨by rw [HE.out, ← hHD]; rfl, HPE.out⟩
set_option maxHeartbeats 2000000 in
theorem push_102f {F : Nat → Prop} {w : World} {p : Nat} {vs : List (Fin 4)} {qs : List Nat} {fr al : Nat} {v u : Value} (nd : Nd F w p 102 vs qs fr al v u) (hv2 : vs.length ≤ 2) (ts : List (List UInt8)) (hl : ts.length = qs.length) (hq : qs.length ≤ 2) (hts : ∀ t ∈ ts, t.length ≤ 200000)
    (IH : ∀ j, j < qs.length → ∀ w', Below w.heap.size w w' → Calls Tryz.prog 29 #[ptrV (qs.getD j 0), .bool false] w' fun e w2 => e = .returned (.string (txtS (ts.getD j []))) ∧ Below w'.heap.size w' w2) :
    Calls Tryz.prog 29 #[ptrV p, .bool false] w fun e w' => e = .returned (.string (txtS (102 :: vs.map Fm.vb ++ ts.flatten))) ∧ Below w.heap.size w w' := by
  obtain ⟨nv, hnv⟩ : ∃ n, vs.length = n := ⟨_, rfl⟩
  obtain ⟨nq, hnq⟩ : ∃ n, qs.length = n := ⟨_, rfl⟩
  rw [hnq] at hq hl IH
  rw [hnv] at hv2
  obtain ⟨av, cv, ap, cp, rfl, rfl, hcp, c0, c1, c2, hpl, hcv, hpp⟩ := nd_facts nd nv nq hnv hnq
  replace c0 : w.cell? ⟨p, 0, none⟩ = some (.int .u8 102) := c0
  have HPP := Lib.hid hpp
  have HIH := Lib.hid IH
  have HTS := Lib.hid hts
  have HL := Lib.hid hl
  obtain ⟨LB, hLB⟩ : ∃ l, vs.map Fm.vb = l := ⟨_, rfl⟩
  have HLN : Hid (LB.length ≤ 2) := by show _ ≤ _; rw [← hLB, List.length_map, hnv]; exact hv2
  rw [hLB] at hcv ⊢
  have HB0 : Hid (Below w.heap.size w (w.alloc (.cells #[.int .u8 102] 5)).drew ∧ Below w.heap.size w w.drew) := ⟨((Below.refl _ _).alloc (Nat.le_refl _) _).drew, (Below.refl _ _).drew⟩
  have cA : (convert 22 9 (.slice (some ⟨w.heap.size, 0, none⟩) 1 1)).run Tryz.prog (w.alloc (.cells #[.int .u8 102] 5)).drew = .ok (.string (txtS [102])) (w.alloc (.cells #[.int .u8 102] 5)).drew := conv_bytes _ _ 1 [102] (fun j hj => by
    obtain rfl : j = 0 := by simpa using hj
    show (w.alloc (.cells #[.int .u8 102] 5)).cell? ⟨w.heap.size, 0, none⟩ = some (.int .u8 102)
    unfold World.cell?
    rw [heap_alloc_new]; rfl)
  have cB1 := hcv w.drew HB0.out.2
  have cB2 := hcv _ HB0.out.1
  have HOE : Hid (txtS [102] ++ txtS LB = txtS (102 :: LB)) := by
    show _ = _
    rw [txtS_app]; simp
  have HOS : Hid ((txtS [102] ++ txtS LB).size ≤ 10) := by
    show _ ≤ _
    rw [ByteArray.size_append, txtS_size, txtS_size]
    have := HLN.out
    have : [(102 : UInt8)].length = 1 := rfl
    omega
  have sA : (txtS [102]).size = 1 := rfl
  have sB : (txtS LB).size ≤ 2 := by rw [txtS_size]; exact HLN.out
  obtain ⟨HD, hHD⟩ : ∃ l, 102 :: LB = l := ⟨_, rfl⟩
  rw [hHD] at HOE
  clear nd hl hts IH hpp hLB hnv hnq HLN
  unfold ptrV
  clear hcv
  go_enter Tryz.func29, Tryz.ntmps29
  go_upto_region 22 with fail
  go_cut [9] (fun o' wx => ∃ out : ByteArray, o' = .string out ∧ out.size ≤ 10 ∧ Hid (out = txtS HD) ∧ Hid (Below w.heap.size w wx))
  case first =>
    go_region_with (fail)
    all_goals
      go_wp2_with fail
      go_meet
      first
      | exact ⟨_, rfl, HOS.out, HOE.out, HB0.out.1⟩
      | exact ⟨_, rfl, HOS.out, HOE.out, HB0.out.2⟩
  case rest =>
    obtain ⟨out0, rfl, hoz0, HO0, HBW⟩ := hcut
    have c2' := (HBW.out.cell (p := ⟨p, 2, none⟩) hpl).trans c2
    clear cA cB1 cB2 HOE HOS sA sB c0 c1 c2 HB0
    go_wp2_with fail
    go_loopw [85, 9] (fun iv o' wx => ∃ k : Nat, k ≤ nq ∧ iv = .int .i64 (k : Int) ∧ ∃ out : ByteArray, o' = .string out ∧ out.size ≤ 10 + 200000 * k ∧ Hid (out = txtS (HD ++ (ts.take k).flatten)) ∧ Hid (Below w.heap.size w wx)) (fun iv _ _ => nq - (intOf iv).toNat)
    case atStart => exact ⟨0, by omega, rfl, _, rfl, by omega, by show _ = _; rw [HO0.out]; simp, HBW.out⟩
    case round =>
      obtain ⟨k, hk, rfl, out, rfl, hoz, HO, HP⟩ := hrel
      by_cases hlt : k < nq
      · obtain ⟨g, rfl, hg, hgc⟩ := HPP.out (by omega)
        have dq := (HP.out.cell (p := ⟨g, k, none⟩) hg).trans (hgc k hlt)
        have HC := Lib.hid (HIH.out k hlt wr HP.out)
        have hkl : k < ts.length := by rw [HL.out]; exact hlt
        have hgd : ts[k] = ts.getD k [] := by simp [List.getD_eq_getElem?_getD, hkl]
        have hsz : (ts.getD k []).length ≤ 200000 := by rw [← hgd]; exact HTS.out ts[k] (List.getElem_mem hkl)
        have HNX : Hid (out ++ txtS (ts.getD k []) = txtS (HD ++ (ts.take (k + 1)).flatten)) := by
          show _ = _
          rw [HO.out, txtS_app, List.take_succ_eq_append_getElem hkl, List.flatten_append, hgd]
          simp
        have hkI : (k : Int) < (nq : Int) := by omega
        have hTz : (txtS (ts.getD k [])).size ≤ 200000 := by rw [txtS_size]; exact hsz
        unfold ptrV at HC dq
        clear hgc hsz hgd hkl
        generalize txtS (ts.getD k []) = T at *
        generalize qs.getD k 0 = q1 at *
        have hcat : ¬ 9223372036854775807 < out.size + T.size := by omega
        go_wp2_with fail
        refine HC.out.mono ?_; rintro e w3 ⟨rfl, hb3⟩
        have HP3 := Lib.hid (HP.out.trans (hb3.mono HP.out.size))
        clear hb3
        go_wp2_with fail
        go_roundw
        case rel => exact ⟨k + 1, by omega, by go_num, _, rfl, by rw [ByteArray.size_append]; omega, HNX.out, HP3.out⟩
        case measure => simp [intOf]; omega
      · have hkn : k = nq := by omega
        have HE : Hid (out = txtS (HD ++ ts.flatten)) := by
          show _ = _
          rw [HO.out, List.take_of_length_le (by have := HL.out; omega)]
        have hkI : ¬ (k : Int) < (nq : Int) := by omega
        have HPE := Lib.hid HP.out
        clear HO HP
        go_wp2_with fail
        go_ret
        exact ⟨by rw [HE.out, ← hHD]; rfl, HPE.out⟩
set_option maxHeartbeats 2000000 in
theorem push_102t {F : Nat → Prop} {w : World} {p : Nat} {vs : List (Fin 4)} {qs : List Nat} {fr al : Nat} {v u : Value} (nd : Nd F w p 102 vs qs fr al v u) (hv2 : vs.length ≤ 2) (ts : List (List UInt8)) (hl : ts.length = qs.length) (hq : qs.length ≤ 2) (hts : ∀ t ∈ ts, t.length ≤ 200000)
    (IH : ∀ j, j < qs.length → ∀ w', Below w.heap.size w w' → Calls Tryz.prog 29 #[ptrV (qs.getD j 0), .bool true] w' fun e w2 => e = .returned (.string (txtS (ts.getD j []))) ∧ Below w'.heap.size w' w2) :
    Calls Tryz.prog 29 #[ptrV p, .bool true] w fun e w' => e = .returned (.string (txtS (116 :: vs.map Fm.vb ++ ts.flatten))) ∧ Below w.heap.size w w' := by
  obtain ⟨nv, hnv⟩ : ∃ n, vs.length = n := ⟨_, rfl⟩
  obtain ⟨nq, hnq⟩ : ∃ n, qs.length = n := ⟨_, rfl⟩
  rw [hnq] at hq hl IH
  rw [hnv] at hv2
  obtain ⟨av, cv, ap, cp, rfl, rfl, hcp, c0, c1, c2, hpl, hcv, hpp⟩ := nd_facts nd nv nq hnv hnq
  replace c0 : w.cell? ⟨p, 0, none⟩ = some (.int .u8 102) := c0
  have HPP := Lib.hid hpp
  have HIH := Lib.hid IH
  have HTS := Lib.hid hts
  have HL := Lib.hid hl
  obtain ⟨LB, hLB⟩ : ∃ l, vs.map Fm.vb = l := ⟨_, rfl⟩
  have HLN : Hid (LB.length ≤ 2) := by show _ ≤ _; rw [← hLB, List.length_map, hnv]; exact hv2
  rw [hLB] at hcv ⊢
  have HB0 : Hid (Below w.heap.size w (w.alloc (.cells #[.int .u8 116] 5)).drew ∧ Below w.heap.size w w.drew) := ⟨((Below.refl _ _).alloc (Nat.le_refl _) _).drew, (Below.refl _ _).drew⟩
  have cA : (convert 22 9 (.slice (some ⟨w.heap.size, 0, none⟩) 1 1)).run Tryz.prog (w.alloc (.cells #[.int .u8 116] 5)).drew = .ok (.string (txtS [116])) (w.alloc (.cells #[.int .u8 116] 5)).drew := conv_bytes _ _ 1 [116] (fun j hj => by
    obtain rfl : j = 0 := by simpa using hj
    show (w.alloc (.cells #[.int .u8 116] 5)).cell? ⟨w.heap.size, 0, none⟩ = some (.int .u8 116)
    unfold World.cell?
    rw [heap_alloc_new]; rfl)
  have cB1 := hcv w.drew HB0.out.2
  have cB2 := hcv _ HB0.out.1
  have HOE : Hid (txtS [116] ++ txtS LB = txtS (116 :: LB)) := by
    show _ = _
    rw [txtS_app]; simp
  have HOS : Hid ((txtS [116] ++ txtS LB).size ≤ 10) := by
    show _ ≤ _
    rw [ByteArray.size_append, txtS_size, txtS_size]
    have := HLN.out
    have : [(116 : UInt8)].length = 1 := rfl
    omega
  have sA : (txtS [116]).size = 1 := rfl
  have sB : (txtS LB).size ≤ 2 := by rw [txtS_size]; exact HLN.out
  obtain ⟨HD, hHD⟩ : ∃ l, 116 :: LB = l := ⟨_, rfl⟩
  rw [hHD] at HOE
  have HTU := Lib.hid (fun w => turned_102 w)
  clear nd hl hts IH hpp hLB hnv hnq HLN
  unfold ptrV
  have HCVV := Lib.hid hcv
  clear hcv cA cB1 cB2 HB0
  go_enter Tryz.func29, Tryz.ntmps29
  go_wp2_with fail
  refine (HTU.out _).mono ?_; rintro e wt ⟨rfl, hbt⟩
  have HBT := Lib.hid hbt
  clear hbt
  have c0t := (HBT.out.cell (p := ⟨p, 0, none⟩) hpl).trans c0
  have c1t := (HBT.out.cell (p := ⟨p, 1, none⟩) hpl).trans c1
  have hplt : p < wt.heap.size := Nat.lt_of_lt_of_le hpl HBT.out.size
  have HB0 : Hid (Below w.heap.size w (wt.alloc (.cells #[.int .u8 116] 5)).drew ∧ Below w.heap.size w wt.drew) := ⟨(HBT.out.alloc HBT.out.size _).drew, HBT.out.drew⟩
  have cA : (convert 22 9 (.slice (some ⟨wt.heap.size, 0, none⟩) 1 1)).run Tryz.prog (wt.alloc (.cells #[.int .u8 116] 5)).drew = .ok (.string (txtS [116])) (wt.alloc (.cells #[.int .u8 116] 5)).drew := conv_bytes _ _ 1 [116] (fun j hj => by
    obtain rfl : j = 0 := by simpa using hj
    show (wt.alloc (.cells #[.int .u8 116] 5)).cell? ⟨wt.heap.size, 0, none⟩ = some (.int .u8 116)
    unfold World.cell?
    rw [heap_alloc_new]; rfl)
  have cB1 := HCVV.out wt.drew HB0.out.2
  have cB2 := HCVV.out _ HB0.out.1
  clear HCVV
  go_upto_region 22 with fail
  go_cut [9] (fun o' wx => ∃ out : ByteArray, o' = .string out ∧ out.size ≤ 10 ∧ Hid (out = txtS HD) ∧ Hid (Below w.heap.size w wx))
  case first =>
    go_region_with (fail)
    all_goals
      go_wp2_with fail
      go_meet
      first
      | exact ⟨_, rfl, HOS.out, HOE.out, HB0.out.1⟩
      | exact ⟨_, rfl, HOS.out, HOE.out, HB0.out.2⟩
  case rest =>
    obtain ⟨out0, rfl, hoz0, HO0, HBW⟩ := hcut
    have c2' := (HBW.out.cell (p := ⟨p, 2, none⟩) hpl).trans c2
    clear cA cB1 cB2 HOE HOS sA sB c0 c1 c2 HB0 c0t c1t HBT
    go_wp2_with fail
    go_loopw [85, 9] (fun iv o' wx => ∃ k : Nat, k ≤ nq ∧ iv = .int .i64 (k : Int) ∧ ∃ out : ByteArray, o' = .string out ∧ out.size ≤ 10 + 200000 * k ∧ Hid (out = txtS (HD ++ (ts.take k).flatten)) ∧ Hid (Below w.heap.size w wx)) (fun iv _ _ => nq - (intOf iv).toNat)
    case atStart => exact ⟨0, by omega, rfl, _, rfl, by omega, by show _ = _; rw [HO0.out]; simp, HBW.out⟩
    case round =>
      obtain ⟨k, hk, rfl, out, rfl, hoz, HO, HP⟩ := hrel
      by_cases hlt : k < nq
      · obtain ⟨g, rfl, hg, hgc⟩ := HPP.out (by omega)
        have dq := (HP.out.cell (p := ⟨g, k, none⟩) hg).trans (hgc k hlt)
        have HC := Lib.hid (HIH.out k hlt wr HP.out)
        have hkl : k < ts.length := by rw [HL.out]; exact hlt
        have hgd : ts[k] = ts.getD k [] := by simp [List.getD_eq_getElem?_getD, hkl]
        have hsz : (ts.getD k []).length ≤ 200000 := by rw [← hgd]; exact HTS.out ts[k] (List.getElem_mem hkl)
        have HNX : Hid (out ++ txtS (ts.getD k []) = txtS (HD ++ (ts.take (k + 1)).flatten)) := by
          show _ = _
          rw [HO.out, txtS_app, List.take_succ_eq_append_getElem hkl, List.flatten_append, hgd]
          simp
        have hkI : (k : Int) < (nq : Int) := by omega
        have hTz : (txtS (ts.getD k [])).size ≤ 200000 := by rw [txtS_size]; exact hsz
        unfold ptrV at HC dq
        clear hgc hsz hgd hkl
        generalize txtS (ts.getD k []) = T at *
        generalize qs.getD k 0 = q1 at *
        have hcat : ¬ 9223372036854775807 < out.size + T.size := by omega
        go_wp2_with fail
        refine HC.out.mono ?_; rintro e w3 ⟨rfl, hb3⟩
        have HP3 := Lib.hid (HP.out.trans (hb3.mono HP.out.size))
        clear hb3
        go_wp2_with fail
        go_roundw
        case rel => exact ⟨k + 1, by omega, by go_num, _, rfl, by rw [ByteArray.size_append]; omega, HNX.out, HP3.out⟩
        case measure => simp [intOf]; omega
      · have hkn : k = nq := by omega
        have HE : Hid (out = txtS (HD ++ ts.flatten)) := by
          show _ = _
          rw [HO.out, List.take_of_length_le (by have := HL.out; omega)]
        have hkI : ¬ (k : Int) < (nq : Int) := by omega
        have HPE := Lib.hid HP.out
        clear HO HP
        go_wp2_with fail
        go_ret
        exact ⟨by rw [HE.out, ← hHD]; rfl, HPE.out⟩
set_option maxHeartbeats 2000000 in
theorem push_38f {F : Nat → Prop} {w : World} {p : Nat} {vs : List (Fin 4)} {qs : List Nat} {fr al : Nat} {v u : Value} (nd : Nd F w p 38 vs qs fr al v u) (hv2 : vs.length ≤ 2) (ts : List (List UInt8)) (hl : ts.length = qs.length) (hq : qs.length ≤ 2) (hts : ∀ t ∈ ts, t.length ≤ 200000)
    (IH : ∀ j, j < qs.length → ∀ w', Below w.heap.size w w' → Calls Tryz.prog 29 #[ptrV (qs.getD j 0), .bool false] w' fun e w2 => e = .returned (.string (txtS (ts.getD j []))) ∧ Below w'.heap.size w' w2) :
    Calls Tryz.prog 29 #[ptrV p, .bool false] w fun e w' => e = .returned (.string (txtS (38 :: vs.map Fm.vb ++ ts.flatten))) ∧ Below w.heap.size w w' := by
  obtain ⟨nv, hnv⟩ : ∃ n, vs.length = n := ⟨_, rfl⟩
  obtain ⟨nq, hnq⟩ : ∃ n, qs.length = n := ⟨_, rfl⟩
  rw [hnq] at hq hl IH
  rw [hnv] at hv2
  obtain ⟨av, cv, ap, cp, rfl, rfl, hcp, c0, c1, c2, hpl, hcv, hpp⟩ := nd_facts nd nv nq hnv hnq
  replace c0 : w.cell? ⟨p, 0, none⟩ = some (.int .u8 38) := c0
  have HPP := Lib.hid hpp
  have HIH := Lib.hid IH
  have HTS := Lib.hid hts
  have HL := Lib.hid hl
  obtain ⟨LB, hLB⟩ : ∃ l, vs.map Fm.vb = l := ⟨_, rfl⟩
  have HLN : Hid (LB.length ≤ 2) := by show _ ≤ _; rw [← hLB, List.length_map, hnv]; exact hv2
  rw [hLB] at hcv ⊢
  have HB0 : Hid (Below w.heap.size w (w.alloc (.cells #[.int .u8 38] 5)).drew ∧ Below w.heap.size w w.drew) := ⟨((Below.refl _ _).alloc (Nat.le_refl _) _).drew, (Below.refl _ _).drew⟩
  have cA : (convert 22 9 (.slice (some ⟨w.heap.size, 0, none⟩) 1 1)).run Tryz.prog (w.alloc (.cells #[.int .u8 38] 5)).drew = .ok (.string (txtS [38])) (w.alloc (.cells #[.int .u8 38] 5)).drew := conv_bytes _ _ 1 [38] (fun j hj => by
    obtain rfl : j = 0 := by simpa using hj
    show (w.alloc (.cells #[.int .u8 38] 5)).cell? ⟨w.heap.size, 0, none⟩ = some (.int .u8 38)
    unfold World.cell?
    rw [heap_alloc_new]; rfl)
  have cB1 := hcv w.drew HB0.out.2
  have cB2 := hcv _ HB0.out.1
  have HOE : Hid (txtS [38] ++ txtS LB = txtS (38 :: LB)) := by
    show _ = _
    rw [txtS_app]; simp
  have HOS : Hid ((txtS [38] ++ txtS LB).size ≤ 10) := by
    show _ ≤ _
    rw [ByteArray.size_append, txtS_size, txtS_size]
    have := HLN.out
    have : [(38 : UInt8)].length = 1 := rfl
    omega
  have sA : (txtS [38]).size = 1 := rfl
  have sB : (txtS LB).size ≤ 2 := by rw [txtS_size]; exact HLN.out
  obtain ⟨HD, hHD⟩ : ∃ l, 38 :: LB = l := ⟨_, rfl⟩
  rw [hHD] at HOE
  clear nd hl hts IH hpp hLB hnv hnq HLN
  unfold ptrV
  clear hcv
  go_enter Tryz.func29, Tryz.ntmps29
  go_upto_region 22 with fail
  go_cut [9] (fun o' wx => ∃ out : ByteArray, o' = .string out ∧ out.size ≤ 10 ∧ Hid (out = txtS HD) ∧ Hid (Below w.heap.size w wx))
  case first =>
    go_region_with (fail)
    all_goals
      go_wp2_with fail
      go_meet
      first
      | exact ⟨_, rfl, HOS.out, HOE.out, HB0.out.1⟩
      | exact ⟨_, rfl, HOS.out, HOE.out, HB0.out.2⟩
  case rest =>
    obtain ⟨out0, rfl, hoz0, HO0, HBW⟩ := hcut
    have c2' := (HBW.out.cell (p := ⟨p, 2, none⟩) hpl).trans c2
    clear cA cB1 cB2 HOE HOS sA sB c0 c1 c2 HB0
    go_wp2_with fail
    go_loopw [85, 9] (fun iv o' wx => ∃ k : Nat, k ≤ nq ∧ iv = .int .i64 (k : Int) ∧ ∃ out : ByteArray, o' = .string out ∧ out.size ≤ 10 + 200000 * k ∧ Hid (out = txtS (HD ++ (ts.take k).flatten)) ∧ Hid (Below w.heap.size w wx)) (fun iv _ _ => nq - (intOf iv).toNat)
    case atStart => exact ⟨0, by omega, rfl, _, rfl, by omega, by show _ = _; rw [HO0.out]; simp, HBW.out⟩
    case round =>
      obtain ⟨k, hk, rfl, out, rfl, hoz, HO, HP⟩ := hrel
      by_cases hlt : k < nq
      · obtain ⟨g, rfl, hg, hgc⟩ := HPP.out (by omega)
        have dq := (HP.out.cell (p := ⟨g, k, none⟩) hg).trans (hgc k hlt)
        have HC := Lib.hid (HIH.out k hlt wr HP.out)
        have hkl : k < ts.length := by rw [HL.out]; exact hlt
        have hgd : ts[k] = ts.getD k [] := by simp [List.getD_eq_getElem?_getD, hkl]
        have hsz : (ts.getD k []).length ≤ 200000 := by rw [← hgd]; exact HTS.out ts[k] (List.getElem_mem hkl)
        have HNX : Hid (out ++ txtS (ts.getD k []) = txtS (HD ++ (ts.take (k + 1)).flatten)) := by
          show _ = _
          rw [HO.out, txtS_app, List.take_succ_eq_append_getElem hkl, List.flatten_append, hgd]
          simp
        have hkI : (k : Int) < (nq : Int) := by omega
        have hTz : (txtS (ts.getD k [])).size ≤ 200000 := by rw [txtS_size]; exact hsz
        unfold ptrV at HC dq
        clear hgc hsz hgd hkl
        generalize txtS (ts.getD k []) = T at *
        generalize qs.getD k 0 = q1 at *
        have hcat : ¬ 9223372036854775807 < out.size + T.size := by omega
        go_wp2_with fail
        refine HC.out.mono ?_; rintro e w3 ⟨rfl, hb3⟩
        have HP3 := Lib.hid (HP.out.trans (hb3.mono HP.out.size))
        clear hb3
        go_wp2_with fail
        go_roundw
        case rel => exact ⟨k + 1, by omega, by go_num, _, rfl, by rw [ByteArray.size_append]; omega, HNX.out, HP3.out⟩
        case measure => simp [intOf]; omega
      · have hkn : k = nq := by omega
        have HE : Hid (out = txtS (HD ++ ts.flatten)) := by
          show _ = _
          rw [HO.out, List.take_of_length_le (by have := HL.out; omega)]
        have hkI : ¬ (k : Int) < (nq : Int) := by omega
        have HPE := Lib.hid HP.out
        clear HO HP
        go_wp2_with fail
        go_ret
        exact ⟨by rw [HE.out, ← hHD]; rfl, HPE.out⟩
set_option maxHeartbeats 2000000 in
theorem push_38t {F : Nat → Prop} {w : World} {p : Nat} {vs : List (Fin 4)} {qs : List Nat} {fr al : Nat} {v u : Value} (nd : Nd F w p 38 vs qs fr al v u) (hv2 : vs.length ≤ 2) (ts : List (List UInt8)) (hl : ts.length = qs.length) (hq : qs.length ≤ 2) (hts : ∀ t ∈ ts, t.length ≤ 200000)
    (IH : ∀ j, j < qs.length → ∀ w', Below w.heap.size w w' → Calls Tryz.prog 29 #[ptrV (qs.getD j 0), .bool true] w' fun e w2 => e = .returned (.string (txtS (ts.getD j []))) ∧ Below w'.heap.size w' w2) :
    Calls Tryz.prog 29 #[ptrV p, .bool true] w fun e w' => e = .returned (.string (txtS (124 :: vs.map Fm.vb ++ ts.flatten))) ∧ Below w.heap.size w w' := by
  obtain ⟨nv, hnv⟩ : ∃ n, vs.length = n := ⟨_, rfl⟩
  obtain ⟨nq, hnq⟩ : ∃ n, qs.length = n := ⟨_, rfl⟩
  rw [hnq] at hq hl IH
  rw [hnv] at hv2
  obtain ⟨av, cv, ap, cp, rfl, rfl, hcp, c0, c1, c2, hpl, hcv, hpp⟩ := nd_facts nd nv nq hnv hnq
  replace c0 : w.cell? ⟨p, 0, none⟩ = some (.int .u8 38) := c0
  have HPP := Lib.hid hpp
  have HIH := Lib.hid IH
  have HTS := Lib.hid hts
  have HL := Lib.hid hl
  obtain ⟨LB, hLB⟩ : ∃ l, vs.map Fm.vb = l := ⟨_, rfl⟩
  have HLN : Hid (LB.length ≤ 2) := by show _ ≤ _; rw [← hLB, List.length_map, hnv]; exact hv2
  rw [hLB] at hcv ⊢
  have HB0 : Hid (Below w.heap.size w (w.alloc (.cells #[.int .u8 124] 5)).drew ∧ Below w.heap.size w w.drew) := ⟨((Below.refl _ _).alloc (Nat.le_refl _) _).drew, (Below.refl _ _).drew⟩
  have cA : (convert 22 9 (.slice (some ⟨w.heap.size, 0, none⟩) 1 1)).run Tryz.prog (w.alloc (.cells #[.int .u8 124] 5)).drew = .ok (.string (txtS [124])) (w.alloc (.cells #[.int .u8 124] 5)).drew := conv_bytes _ _ 1 [124] (fun j hj => by
    obtain rfl : j = 0 := by simpa using hj
    show (w.alloc (.cells #[.int .u8 124] 5)).cell? ⟨w.heap.size, 0, none⟩ = some (.int .u8 124)
    unfold World.cell?
    rw [heap_alloc_new]; rfl)
  have cB1 := hcv w.drew HB0.out.2
  have cB2 := hcv _ HB0.out.1
  have HOE : Hid (txtS [124] ++ txtS LB = txtS (124 :: LB)) := by
    show _ = _
    rw [txtS_app]; simp
  have HOS : Hid ((txtS [124] ++ txtS LB).size ≤ 10) := by
    show _ ≤ _
    rw [ByteArray.size_append, txtS_size, txtS_size]
    have := HLN.out
    have : [(124 : UInt8)].length = 1 := rfl
    omega
  have sA : (txtS [124]).size = 1 := rfl
  have sB : (txtS LB).size ≤ 2 := by rw [txtS_size]; exact HLN.out
  obtain ⟨HD, hHD⟩ : ∃ l, 124 :: LB = l := ⟨_, rfl⟩
  rw [hHD] at HOE
  have HTU := Lib.hid (fun w => turned_38 w)
  clear nd hl hts IH hpp hLB hnv hnq HLN
  unfold ptrV
  have HCVV := Lib.hid hcv
  clear hcv cA cB1 cB2 HB0
  go_enter Tryz.func29, Tryz.ntmps29
  go_wp2_with fail
  refine (HTU.out _).mono ?_; rintro e wt ⟨rfl, hbt⟩
  have HBT := Lib.hid hbt
  clear hbt
  have c0t := (HBT.out.cell (p := ⟨p, 0, none⟩) hpl).trans c0
  have c1t := (HBT.out.cell (p := ⟨p, 1, none⟩) hpl).trans c1
  have hplt : p < wt.heap.size := Nat.lt_of_lt_of_le hpl HBT.out.size
  have HB0 : Hid (Below w.heap.size w (wt.alloc (.cells #[.int .u8 124] 5)).drew ∧ Below w.heap.size w wt.drew) := ⟨(HBT.out.alloc HBT.out.size _).drew, HBT.out.drew⟩
  have cA : (convert 22 9 (.slice (some ⟨wt.heap.size, 0, none⟩) 1 1)).run Tryz.prog (wt.alloc (.cells #[.int .u8 124] 5)).drew = .ok (.string (txtS [124])) (wt.alloc (.cells #[.int .u8 124] 5)).drew := conv_bytes _ _ 1 [124] (fun j hj => by
    obtain rfl : j = 0 := by simpa using hj
    show (wt.alloc (.cells #[.int .u8 124] 5)).cell? ⟨wt.heap.size, 0, none⟩ = some (.int .u8 124)
    unfold World.cell?
    rw [heap_alloc_new]; rfl)
  have cB1 := HCVV.out wt.drew HB0.out.2
  have cB2 := HCVV.out _ HB0.out.1
  clear HCVV
  go_upto_region 22 with fail
  go_cut [9] (fun o' wx => ∃ out : ByteArray, o' = .string out ∧ out.size ≤ 10 ∧ Hid (out = txtS HD) ∧ Hid (Below w.heap.size w wx))
  case first =>
    go_region_with (fail)
    all_goals
      go_wp2_with fail
      go_meet
      first
      | exact ⟨_, rfl, HOS.out, HOE.out, HB0.out.1⟩
      | exact ⟨_, rfl, HOS.out, HOE.out, HB0.out.2⟩
  case rest =>
    obtain ⟨out0, rfl, hoz0, HO0, HBW⟩ := hcut
    have c2' := (HBW.out.cell (p := ⟨p, 2, none⟩) hpl).trans c2
    clear cA cB1 cB2 HOE HOS sA sB c0 c1 c2 HB0 c0t c1t HBT
    go_wp2_with fail
    go_loopw [85, 9] (fun iv o' wx => ∃ k : Nat, k ≤ nq ∧ iv = .int .i64 (k : Int) ∧ ∃ out : ByteArray, o' = .string out ∧ out.size ≤ 10 + 200000 * k ∧ Hid (out = txtS (HD ++ (ts.take k).flatten)) ∧ Hid (Below w.heap.size w wx)) (fun iv _ _ => nq - (intOf iv).toNat)
    case atStart => exact ⟨0, by omega, rfl, _, rfl, by omega, by show _ = _; rw [HO0.out]; simp, HBW.out⟩
    case round =>
      obtain ⟨k, hk, rfl, out, rfl, hoz, HO, HP⟩ := hrel
      by_cases hlt : k < nq
      · obtain ⟨g, rfl, hg, hgc⟩ := HPP.out (by omega)
        have dq := (HP.out.cell (p := ⟨g, k, none⟩) hg).trans (hgc k hlt)
        have HC := Lib.hid (HIH.out k hlt wr HP.out)
        have hkl : k < ts.length := by rw [HL.out]; exact hlt
        have hgd : ts[k] = ts.getD k [] := by simp [List.getD_eq_getElem?_getD, hkl]
        have hsz : (ts.getD k []).length ≤ 200000 := by rw [← hgd]; exact HTS.out ts[k] (List.getElem_mem hkl)
        have HNX : Hid (out ++ txtS (ts.getD k []) = txtS (HD ++ (ts.take (k + 1)).flatten)) := by
          show _ = _
          rw [HO.out, txtS_app, List.take_succ_eq_append_getElem hkl, List.flatten_append, hgd]
          simp
        have hkI : (k : Int) < (nq : Int) := by omega
        have hTz : (txtS (ts.getD k [])).size ≤ 200000 := by rw [txtS_size]; exact hsz
        unfold ptrV at HC dq
        clear hgc hsz hgd hkl
        generalize txtS (ts.getD k []) = T at *
        generalize qs.getD k 0 = q1 at *
        have hcat : ¬ 9223372036854775807 < out.size + T.size := by omega
        go_wp2_with fail
        refine HC.out.mono ?_; rintro e w3 ⟨rfl, hb3⟩
        have HP3 := Lib.hid (HP.out.trans (hb3.mono HP.out.size))
        clear hb3
        go_wp2_with fail
        go_roundw
        case rel => exact ⟨k + 1, by omega, by go_num, _, rfl, by rw [ByteArray.size_append]; omega, HNX.out, HP3.out⟩
        case measure => simp [intOf]; omega
      · have hkn : k = nq := by omega
        have HE : Hid (out = txtS (HD ++ ts.flatten)) := by
          show _ = _
          rw [HO.out, List.take_of_length_le (by have := HL.out; omega)]
        have hkI : ¬ (k : Int) < (nq : Int) := by omega
        have HPE := Lib.hid HP.out
        clear HO HP
        go_wp2_with fail
        go_ret
        exact ⟨by rw [HE.out, ← hHD]; rfl, HPE.out⟩
end Go.Proofs.YtihomcedaaiidaaGreatDoor

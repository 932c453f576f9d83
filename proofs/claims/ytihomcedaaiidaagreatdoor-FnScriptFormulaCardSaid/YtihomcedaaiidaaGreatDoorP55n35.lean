/- Contracts of the program's functions and what they compute: part 35. Conditions: those that each theorem states. -/
import Derived.Test.YtihomcedaaiidaaGreatDoorP55n34
namespace Go.Proofs.YtihomcedaaiidaaGreatDoor
open Go.RowKit
set_option linter.unusedVariables false
set_option maxRecDepth 100000
set_option maxHeartbeats 2000000 in
theorem push_80 {F : Nat → Prop} {w : World} {p : Nat} {vs : List (Fin 4)} {qs : List Nat} {fr al : Nat} {v u : Value} (nd : Nd F w p 80 vs qs fr al v u) (hv2 : vs.length ≤ 2) (ts : List (List UInt8)) (hl : ts.length = qs.length) (hq : qs.length ≤ 2) (hts : ∀ t ∈ ts, t.length ≤ 200000)
    (IH : ∀ j, j < qs.length → ∀ w', Below w.heap.size w w' → Calls Tryz.prog 29 #[ptrV (qs.getD j 0), .bool false] w' fun e w2 => e = .returned (.string (txtS (ts.getD j []))) ∧ Below w'.heap.size w' w2) (o : Bool) :
    Calls Tryz.prog 29 #[ptrV p, .bool o] w fun e w' => e = .returned (.string (txtS ((if o then [33] else []) ++ (80 :: vs.map Fm.vb ++ ts.flatten)))) ∧ Below w.heap.size w w' := by
  obtain ⟨nv, hnv⟩ : ∃ n, vs.length = n := ⟨_, rfl⟩
  obtain ⟨nq, hnq⟩ : ∃ n, qs.length = n := ⟨_, rfl⟩
  rw [hnq] at hq hl IH
  rw [hnv] at hv2
  obtain ⟨av, cv, ap, cp, rfl, rfl, hcp, c0, c1, c2, hpl, hcv, hpp⟩ := nd_facts nd nv nq hnv hnq
  replace c0 : w.cell? ⟨p, 0, none⟩ = some (.int .u8 80) := c0
  have HPP := Lib.hid hpp
  have HIH := Lib.hid IH
  have HTS := Lib.hid hts
  have HL := Lib.hid hl
  obtain ⟨LB, hLB⟩ : ∃ l, vs.map Fm.vb = l := ⟨_, rfl⟩
  have HLN : Hid (LB.length ≤ 2) := by show _ ≤ _; rw [← hLB, List.length_map, hnv]; exact hv2
  rw [hLB] at hcv ⊢
  have HB0 : Hid (Below w.heap.size w (w.alloc (.cells #[.int .u8 80] 5)).drew ∧ Below w.heap.size w w.drew) := ⟨((Below.refl _ _).alloc (Nat.le_refl _) _).drew, (Below.refl _ _).drew⟩
  have cA : (convert 22 9 (.slice (some ⟨w.heap.size, 0, none⟩) 1 1)).run Tryz.prog (w.alloc (.cells #[.int .u8 80] 5)).drew = .ok (.string (txtS [80])) (w.alloc (.cells #[.int .u8 80] 5)).drew := conv_bytes _ _ 1 [80] (fun j hj => by
    obtain rfl : j = 0 := by simpa using hj
    show (w.alloc (.cells #[.int .u8 80] 5)).cell? ⟨w.heap.size, 0, none⟩ = some (.int .u8 80)
    unfold World.cell?
    rw [heap_alloc_new]; rfl)
  have cB1 := hcv w.drew HB0.out.2
  have cB2 := hcv _ HB0.out.1
  have HOE : Hid (txtS [80] ++ txtS LB = txtS (80 :: LB)) := by
    show _ = _
    rw [txtS_app]; simp
  have HOS : Hid ((txtS [80] ++ txtS LB).size ≤ 10) := by
    show _ ≤ _
    rw [ByteArray.size_append, txtS_size, txtS_size]
    have := HLN.out
    have : [(80 : UInt8)].length = 1 := rfl
    omega
  have sA : (txtS [80]).size = 1 := rfl
  have sB : (txtS LB).size ≤ 2 := by rw [txtS_size]; exact HLN.out
  obtain ⟨HD, hHD⟩ : ∃ l, 80 :: LB = l := ⟨_, rfl⟩
  rw [hHD] at HOE
  clear nd hl hts IH hpp hcv hLB hnv hnq HLN
  unfold ptrV
  go_enter Tryz.func29, Tryz.ntmps29
  go_upto_region 10 with fail
  go_cut [5] (fun o' wx => ∃ out : ByteArray, o' = .string out ∧ out.size ≤ 10 ∧ Hid (out = txtS HD) ∧ Hid (Below w.heap.size w wx))
  case first =>
    go_region_with (fail)
    all_goals
      go_wp2_with fail
      go_meet
      first
      | exact ⟨_, rfl, HOS.out, HOE.out, HB0.out.1⟩
      | exact ⟨_, rfl, HOS.out, HOE.out, HB0.out.2⟩
  case rest =>
    obtain ⟨out0, rfl, hoz0, HO0, HBW⟩ := hcut
    have c2' := (HBW.out.cell (p := ⟨p, 2, none⟩) hpl).trans c2
    clear cA cB1 cB2 HOE HOS sA sB c0 c1 c2 HB0
    go_wp2_with fail
    go_loopw [51, 5] (fun iv o' wx => ∃ k : Nat, k ≤ nq ∧ iv = .int .i64 (k : Int) ∧ ∃ out : ByteArray, o' = .string out ∧ out.size ≤ 10 + 200000 * k ∧ Hid (out = txtS (HD ++ (ts.take k).flatten)) ∧ Hid (Below w.heap.size w wx)) (fun iv _ _ => nq - (intOf iv).toNat)
    case atStart => exact ⟨0, by omega, rfl, _, rfl, by omega, by show _ = _; rw [HO0.out]; simp, HBW.out⟩
    case round =>
      obtain ⟨k, hk, rfl, out, rfl, hoz, HO, HP⟩ := hrel
      by_cases hlt : k < nq
      · obtain ⟨g, rfl, hg, hgc⟩ := HPP.out (by omega)
        have dq := (HP.out.cell (p := ⟨g, k, none⟩) hg).trans (hgc k hlt)
        have HC := Lib.hid (HIH.out k hlt wr HP.out)
        have hkl : k < ts.length := by rw [HL.out]; exact hlt
        have hgd : ts[k] = ts.getD k [] := by simp [List.getD_eq_getElem?_getD, hkl]
        have hsz : (ts.getD k []).length ≤ 200000 := by rw [← hgd]; exact HTS.out ts[k] (List.getElem_mem hkl)
        have HNX : Hid (out ++ txtS (ts.getD k []) = txtS (HD ++ (ts.take (k + 1)).flatten)) := by
          show _ = _
          rw [HO.out, txtS_app, List.take_succ_eq_append_getElem hkl, List.flatten_append, hgd]
          simp
        have hkI : (k : Int) < (nq : Int) := by omega
        have hTz : (txtS (ts.getD k [])).size ≤ 200000 := by rw [txtS_size]; exact hsz
        unfold ptrV at HC dq
        clear hgc hsz hgd hkl
        generalize txtS (ts.getD k []) = T at *
        generalize qs.getD k 0 = q1 at *
        have hcat : ¬ 9223372036854775807 < out.size + T.size := by omega
        go_wp2_with fail
        refine HC.out.mono ?_; rintro e w3 ⟨rfl, hb3⟩
        have HP3 := Lib.hid (HP.out.trans (hb3.mono HP.out.size))
        clear hb3
        go_wp2_with fail
        go_roundw
        case rel => exact ⟨k + 1, by omega, by go_num, _, rfl, by rw [ByteArray.size_append]; omega, HNX.out, HP3.out⟩
        case measure => simp [intOf]; omega
      · have hkn : k = nq := by omega
        have HE : Hid (out = txtS (HD ++ ts.flatten)) := by
          show _ = _
          rw [HO.out, List.take_of_length_le (by have := HL.out; omega)]
        have hkI : ¬ (k : Int) < (nq : Int) := by omega
        have HPE := Lib.hid HP.out
        clear HO HP
        have hcat : ¬ 9223372036854775807 < (⟨#[33]⟩ : ByteArray).size + out.size := by have : (⟨#[33]⟩ : ByteArray).size = 1 := rfl; omega
        cases o
        · go_wp2_with fail
          go_ret
          exact ⟨by rw [HE.out, ← hHD]; rfl, HPE.out⟩
        · go_wp2_with fail
          go_ret
          refine ⟨?_, HPE.out⟩
          rw [HE.out, ← hHD, show (⟨#[33]⟩ : ByteArray) = txtS [33] from rfl, txtS_app]
          rfl
set_option maxHeartbeats 2000000 in
theorem push_61 {F : Nat → Prop} {w : World} {p : Nat} {vs : List (Fin 4)} {qs : List Nat} {fr al : Nat} {v u : Value} (nd : Nd F w p 61 vs qs fr al v u) (hv2 : vs.length ≤ 2) (ts : List (List UInt8)) (hl : ts.length = qs.length) (hq : qs.length ≤ 2) (hts : ∀ t ∈ ts, t.length ≤ 200000)
    (IH : ∀ j, j < qs.length → ∀ w', Below w.heap.size w w' → Calls Tryz.prog 29 #[ptrV (qs.getD j 0), .bool false] w' fun e w2 => e = .returned (.string (txtS (ts.getD j []))) ∧ Below w'.heap.size w' w2) (o : Bool) :
    Calls Tryz.prog 29 #[ptrV p, .bool o] w fun e w' => e = .returned (.string (txtS ((if o then [33] else []) ++ (61 :: vs.map Fm.vb ++ ts.flatten)))) ∧ Below w.heap.size w w' := by
  obtain ⟨nv, hnv⟩ : ∃ n, vs.length = n := ⟨_, rfl⟩
  obtain ⟨nq, hnq⟩ : ∃ n, qs.length = n := ⟨_, rfl⟩
  rw [hnq] at hq hl IH
  rw [hnv] at hv2
  obtain ⟨av, cv, ap, cp, rfl, rfl, hcp, c0, c1, c2, hpl, hcv, hpp⟩ := nd_facts nd nv nq hnv hnq
  replace c0 : w.cell? ⟨p, 0, none⟩ = some (.int .u8 61) := c0
  have HPP := Lib.hid hpp
  have HIH := Lib.hid IH
  have HTS := Lib.hid hts
  have HL := Lib.hid hl
  obtain ⟨LB, hLB⟩ : ∃ l, vs.map Fm.vb = l := ⟨_, rfl⟩
  have HLN : Hid (LB.length ≤ 2) := by show _ ≤ _; rw [← hLB, List.length_map, hnv]; exact hv2
  rw [hLB] at hcv ⊢
  have HB0 : Hid (Below w.heap.size w (w.alloc (.cells #[.int .u8 61] 5)).drew ∧ Below w.heap.size w w.drew) := ⟨((Below.refl _ _).alloc (Nat.le_refl _) _).drew, (Below.refl _ _).drew⟩
  have cA : (convert 22 9 (.slice (some ⟨w.heap.size, 0, none⟩) 1 1)).run Tryz.prog (w.alloc (.cells #[.int .u8 61] 5)).drew = .ok (.string (txtS [61])) (w.alloc (.cells #[.int .u8 61] 5)).drew := conv_bytes _ _ 1 [61] (fun j hj => by
    obtain rfl : j = 0 := by simpa using hj
    show (w.alloc (.cells #[.int .u8 61] 5)).cell? ⟨w.heap.size, 0, none⟩ = some (.int .u8 61)
    unfold World.cell?
    rw [heap_alloc_new]; rfl)
  have cB1 := hcv w.drew HB0.out.2
  have cB2 := hcv _ HB0.out.1
  have HOE : Hid (txtS [61] ++ txtS LB = txtS (61 :: LB)) := by
    show _ = _
    rw [txtS_app]; simp
  have HOS : Hid ((txtS [61] ++ txtS LB).size ≤ 10) := by
    show _ ≤ _
    rw [ByteArray.size_append, txtS_size, txtS_size]
    have := HLN.out
    have : [(61 : UInt8)].length = 1 := rfl
    omega
  have sA : (txtS [61]).size = 1 := rfl
  have sB : (txtS LB).size ≤ 2 := by rw [txtS_size]; exact HLN.out
  obtain ⟨HD, hHD⟩ : ∃ l, 61 :: LB = l := ⟨_, rfl⟩
  rw [hHD] at HOE
  clear nd hl hts IH hpp hcv hLB hnv hnq HLN
  unfold ptrV
  go_enter Tryz.func29, Tryz.ntmps29
  go_upto_region 10 with fail
  go_cut [5] (fun o' wx => ∃ out : ByteArray, o' = .string out ∧ out.size ≤ 10 ∧ Hid (out = txtS HD) ∧ Hid (Below w.heap.size w wx))
  case first =>
    go_region_with (fail)
    all_goals
      go_wp2_with fail
      go_meet
      first
      | exact ⟨_, rfl, HOS.out, HOE.out, HB0.out.1⟩
      | exact ⟨_, rfl, HOS.out, HOE.out, HB0.out.2⟩
  case rest =>
    obtain ⟨out0, rfl, hoz0, HO0, HBW⟩ := hcut
    have c2' := (HBW.out.cell (p := ⟨p, 2, none⟩) hpl).trans c2
    clear cA cB1 cB2 HOE HOS sA sB c0 c1 c2 HB0
    go_wp2_with fail
    go_loopw [51, 5] (fun iv o' wx => ∃ k : Nat, k ≤ nq ∧ iv = .int .i64 (k : Int) ∧ ∃ out : ByteArray, o' = .string out ∧ out.size ≤ 10 + 200000 * k ∧ Hid (out = txtS (HD ++ (ts.take k).flatten)) ∧ Hid (Below w.heap.size w wx)) (fun iv _ _ => nq - (intOf iv).toNat)
    case atStart => exact ⟨0, by omega, rfl, _, rfl, by omega, by show _ = _; rw [HO0.out]; simp, HBW.out⟩
    case round =>
      obtain ⟨k, hk, rfl, out, rfl, hoz, HO, HP⟩ := hrel
      by_cases hlt : k < nq
      · obtain ⟨g, rfl, hg, hgc⟩ := HPP.out (by omega)
        have dq := (HP.out.cell (p := ⟨g, k, none⟩) hg).trans (hgc k hlt)
        have HC := Lib.hid (HIH.out k hlt wr HP.out)
        have hkl : k < ts.length := by rw [HL.out]; exact hlt
        have hgd : ts[k] = ts.getD k [] := by simp [List.getD_eq_getElem?_getD, hkl]
        have hsz : (ts.getD k []).length ≤ 200000 := by rw [← hgd]; exact HTS.out ts[k] (List.getElem_mem hkl)
        have HNX : Hid (out ++ txtS (ts.getD k []) = txtS (HD ++ (ts.take (k + 1)).flatten)) := by
          show _ = _
          rw [HO.out, txtS_app, List.take_succ_eq_append_getElem hkl, List.flatten_append, hgd]
          simp
        have hkI : (k : Int) < (nq : Int) := by omega
        have hTz : (txtS (ts.getD k [])).size ≤ 200000 := by rw [txtS_size]; exact hsz
        unfold ptrV at HC dq
        clear hgc hsz hgd hkl
        generalize txtS (ts.getD k []) = T at *
        generalize qs.getD k 0 = q1 at *
        have hcat : ¬ 9223372036854775807 < out.size + T.size := by omega
        go_wp2_with fail
        refine HC.out.mono ?_; rintro e w3 ⟨rfl, hb3⟩
        have HP3 := Lib.hid (HP.out.trans (hb3.mono HP.out.size))
        clear hb3
        go_wp2_with fail
        go_roundw
        case rel => exact ⟨k + 1, by omega, by go_num, _, rfl, by rw [ByteArray.size_append]; omega, HNX.out, HP3.out⟩
        case measure => simp [intOf]; omega
      · have hkn : k = nq := by omega
        have HE : Hid (out = txtS (HD ++ ts.flatten)) := by
          show _ = _
          rw [HO.out, List.take_of_length_le (by have := HL.out; omega)]
        have hkI : ¬ (k : Int) < (nq : Int) := by omega
        have HPE := Lib.hid HP.out
        clear HO HP
        have hcat : ¬ 9223372036854775807 < (⟨#[33]⟩ : ByteArray).size + out.size := by have : (⟨#[33]⟩ : ByteArray).size = 1 := rfl; omega
        cases o
        · go_wp2_with fail
          go_ret
          exact ⟨by rw [HE.out, ← hHD]; rfl, HPE.out⟩
        · go_wp2_with fail
          go_ret
          refine ⟨?_, HPE.out⟩
          rw [HE.out, ← hHD, show (⟨#[33]⟩ : ByteArray) = txtS [33] from rfl, txtS_app]
          rfl
set_option maxHeartbeats 2000000 in
theorem push_69 {F : Nat → Prop} {w : World} {p : Nat} {vs : List (Fin 4)} {qs : List Nat} {fr al : Nat} {v u : Value} (nd : Nd F w p 69 vs qs fr al v u) (hv2 : vs.length ≤ 2) (ts : List (List UInt8)) (hl : ts.length = qs.length) (hq : qs.length ≤ 2) (hts : ∀ t ∈ ts, t.length ≤ 200000)
    (IH : ∀ j, j < qs.length → ∀ w', Below w.heap.size w w' → Calls Tryz.prog 29 #[ptrV (qs.getD j 0), .bool false] w' fun e w2 => e = .returned (.string (txtS (ts.getD j []))) ∧ Below w'.heap.size w' w2) (o : Bool) :
    Calls Tryz.prog 29 #[ptrV p, .bool o] w fun e w' => e = .returned (.string (txtS ((if o then [33] else []) ++ (69 :: vs.map Fm.vb ++ ts.flatten)))) ∧ Below w.heap.size w w' := by
  obtain ⟨nv, hnv⟩ : ∃ n, vs.length = n := ⟨_, rfl⟩
  obtain ⟨nq, hnq⟩ : ∃ n, qs.length = n := ⟨_, rfl⟩
  rw [hnq] at hq hl IH
  rw [hnv] at hv2
  obtain ⟨av, cv, ap, cp, rfl, rfl, hcp, c0, c1, c2, hpl, hcv, hpp⟩ := nd_facts nd nv nq hnv hnq
  replace c0 : w.cell? ⟨p, 0, none⟩ = some (.int .u8 69) := c0
  have HPP := Lib.hid hpp
  have HIH := Lib.hid IH
  have HTS := Lib.hid hts
  have HL := Lib.hid hl
  obtain ⟨LB, hLB⟩ : ∃ l, vs.map Fm.vb = l := ⟨_, rfl⟩
  have HLN : Hid (LB.length ≤ 2) := by show _ ≤ _; rw [← hLB, List.length_map, hnv]; exact hv2
  rw [hLB] at hcv ⊢
  have HB0 : Hid (Below w.heap.size w (w.alloc (.cells #[.int .u8 69] 5)).drew ∧ Below w.heap.size w w.drew) := ⟨((Below.refl _ _).alloc (Nat.le_refl _) _).drew, (Below.refl _ _).drew⟩
  have cA : (convert 22 9 (.slice (some ⟨w.heap.size, 0, none⟩) 1 1)).run Tryz.prog (w.alloc (.cells #[.int .u8 69] 5)).drew = .ok (.string (txtS [69])) (w.alloc (.cells #[.int .u8 69] 5)).drew := conv_bytes _ _ 1 [69] (fun j hj => by
    obtain rfl : j = 0 := by simpa using hj
    show (w.alloc (.cells #[.int .u8 69] 5)).cell? ⟨w.heap.size, 0, none⟩ = some (.int .u8 69)
    unfold World.cell?
    rw [heap_alloc_new]; rfl)
  have cB1 := hcv w.drew HB0.out.2
  have cB2 := hcv _ HB0.out.1
  have HOE : Hid (txtS [69] ++ txtS LB = txtS (69 :: LB)) := by
    show _ = _
    rw [txtS_app]; simp
  have HOS : Hid ((txtS [69] ++ txtS LB).size ≤ 10) := by
    show _ ≤ _
    rw [ByteArray.size_append, txtS_size, txtS_size]
    have := HLN.out
    have : [(69 : UInt8)].length = 1 := rfl
    omega
  have sA : (txtS [69]).size = 1 := rfl
  have sB : (txtS LB).size ≤ 2 := by rw [txtS_size]; exact HLN.out
  obtain ⟨HD, hHD⟩ : ∃ l, 69 :: LB = l := ⟨_, rfl⟩
  rw [hHD] at HOE
  clear nd hl hts IH hpp hcv hLB hnv hnq HLN
  unfold ptrV
  go_enter Tryz.func29, Tryz.ntmps29
  go_upto_region 10 with fail
  go_cut [5] (fun o' wx => ∃ out : ByteArray, o' = .string out ∧ out.size ≤ 10 ∧ Hid (out = txtS HD) ∧ Hid (Below w.heap.size w wx))
  case first =>
    go_region_with (fail)
    all_goals
      go_wp2_with fail
      go_meet
      first
      | exact ⟨_, rfl, HOS.out, HOE.out, HB0.out.1⟩
      | exact ⟨_, rfl, HOS.out, HOE.out, HB0.out.2⟩
  case rest =>
    obtain ⟨out0, rfl, hoz0, HO0, HBW⟩ := hcut
    have c2' := (HBW.out.cell (p := ⟨p, 2, none⟩) hpl).trans c2
    clear cA cB1 cB2 HOE HOS sA sB c0 c1 c2 HB0
    go_wp2_with fail
    go_loopw [51, 5] (fun iv o' wx => ∃ k : Nat, k ≤ nq ∧ iv = .int .i64 (k : Int) ∧ ∃ out : ByteArray, o' = .string out ∧ out.size ≤ 10 + 200000 * k ∧ Hid (out = txtS (HD ++ (ts.take k).flatten)) ∧ Hid (Below w.heap.size w wx)) (fun iv _ _ => nq - (intOf iv).toNat)
    case atStart => exact ⟨0, by omega, rfl, _, rfl, by omega, by show _ = _; rw [HO0.out]; simp, HBW.out⟩
    case round =>
      obtain ⟨k, hk, rfl, out, rfl, hoz, HO, HP⟩ := hrel
      by_cases hlt : k < nq
      · obtain ⟨g, rfl, hg, hgc⟩ := HPP.out (by omega)
        have dq := (HP.out.cell (p := ⟨g, k, none⟩) hg).trans (hgc k hlt)
        have HC := Lib.hid (HIH.out k hlt wr HP.out)
        have hkl : k < ts.length := by rw [HL.out]; exact hlt
        have hgd : ts[k] = ts.getD k [] := by simp [List.getD_eq_getElem?_getD, hkl]
        have hsz : (ts.getD k []).length ≤ 200000 := by rw [← hgd]; exact HTS.out ts[k] (List.getElem_mem hkl)
        have HNX : Hid (out ++ txtS (ts.getD k []) = txtS (HD ++ (ts.take (k + 1)).flatten)) := by
          show _ = _
          rw [HO.out, txtS_app, List.take_succ_eq_append_getElem hkl, List.flatten_append, hgd]
          simp
        have hkI : (k : Int) < (nq : Int) := by omega
        have hTz : (txtS (ts.getD k [])).size ≤ 200000 := by rw [txtS_size]; exact hsz
        unfold ptrV at HC dq
        clear hgc hsz hgd hkl
        generalize txtS (ts.getD k []) = T at *
        generalize qs.getD k 0 = q1 at *
        have hcat : ¬ 9223372036854775807 < out.size + T.size := by omega
        go_wp2_with fail
        refine HC.out.mono ?_; rintro e w3 ⟨rfl, hb3⟩
        have HP3 := Lib.hid (HP.out.trans (hb3.mono HP.out.size))
        clear hb3
        go_wp2_with fail
        go_roundw
        case rel => exact ⟨k + 1, by omega, by go_num, _, rfl, by rw [ByteArray.size_append]; omega, HNX.out, HP3.out⟩
        case measure => simp [intOf]; omega
      · have hkn : k = nq := by omega
        have HE : Hid (out = txtS (HD ++ ts.flatten)) := by
          show _ = _
          rw [HO.out, List.take_of_length_le (by have := HL.out; omega)]
        have hkI : ¬ (k : Int) < (nq : Int) := by omega
        have HPE := Lib.hid HP.out
        clear HO HP
        have hcat : ¬ 9223372036854775807 < (⟨#[33]⟩ : ByteArray).size + out.size := by have : (⟨#[33]⟩ : ByteArray).size = 1 := rfl; omega
        cases o
        · go_wp2_with fail
          go_ret
          exact ⟨by rw [HE.out, ← hHD]; rfl, HPE.out⟩
        · go_wp2_with fail
          go_ret
          refine ⟨?_, HPE.out⟩
          rw [HE.out, ← hHD, show (⟨#[33]⟩ : ByteArray) = txtS [33] from rfl, txtS_app]
          rfl
set_option maxHeartbeats 2000000 in
theorem push_50 {F : Nat → Prop} {w : World} {p : Nat} {vs : List (Fin 4)} {qs : List Nat} {fr al : Nat} {v u : Value} (nd : Nd F w p 50 vs qs fr al v u) (hv2 : vs.length ≤ 2) (ts : List (List UInt8)) (hl : ts.length = qs.length) (hq : qs.length ≤ 2) (hts : ∀ t ∈ ts, t.length ≤ 200000)
    (IH : ∀ j, j < qs.length → ∀ w', Below w.heap.size w w' → Calls Tryz.prog 29 #[ptrV (qs.getD j 0), .bool false] w' fun e w2 => e = .returned (.string (txtS (ts.getD j []))) ∧ Below w'.heap.size w' w2) (o : Bool) :
    Calls Tryz.prog 29 #[ptrV p, .bool o] w fun e w' => e = .returned (.string (txtS ((if o then [33] else []) ++ (50 :: vs.map Fm.vb ++ ts.flatten)))) ∧ Below w.heap.size w w' := by
  obtain ⟨nv, hnv⟩ : ∃ n, vs.length = n := ⟨_, rfl⟩
  obtain ⟨nq, hnq⟩ : ∃ n, qs.length = n := ⟨_, rfl⟩
  rw [hnq] at hq hl IH
  rw [hnv] at hv2
  obtain ⟨av, cv, ap, cp, rfl, rfl, hcp, c0, c1, c2, hpl, hcv, hpp⟩ := nd_facts nd nv nq hnv hnq
  replace c0 : w.cell? ⟨p, 0, none⟩ = some (.int .u8 50) := c0
  have HPP := Lib.hid hpp
  have HIH := Lib.hid IH
  have HTS := Lib.hid hts
  have HL := Lib.hid hl
  obtain ⟨LB, hLB⟩ : ∃ l, vs.map Fm.vb = l := ⟨_, rfl⟩
  have HLN : Hid (LB.length ≤ 2) := by show _ ≤ _; rw [← hLB, List.length_map, hnv]; exact hv2
  rw [hLB] at hcv ⊢
  have HB0 : Hid (Below w.heap.size w (w.alloc (.cells #[.int .u8 50] 5)).drew ∧ Below w.heap.size w w.drew) := ⟨((Below.refl _ _).alloc (Nat.le_refl _) _).drew, (Below.refl _ _).drew⟩
  have cA : (convert 22 9 (.slice (some ⟨w.heap.size, 0, none⟩) 1 1)).run Tryz.prog (w.alloc (.cells #[.int .u8 50] 5)).drew = .ok (.string (txtS [50])) (w.alloc (.cells #[.int .u8 50] 5)).drew := conv_bytes _ _ 1 [50] (fun j hj => by
    obtain rfl : j = 0 := by simpa using hj
    show (w.alloc (.cells #[.int .u8 50] 5)).cell? ⟨w.heap.size, 0, none⟩ = some (.int .u8 50)
    unfold World.cell?
    rw [heap_alloc_new]; rfl)
  have cB1 := hcv w.drew HB0.out.2
  have cB2 := hcv _ HB0.out.1
  have HOE : Hid (txtS [50] ++ txtS LB = txtS (50 :: LB)) := by
    show _ = _
    rw [txtS_app]; simp
  have HOS : Hid ((txtS [50] ++ txtS LB).size ≤ 10) := by
    show _ ≤ _
    rw [ByteArray.size_append, txtS_size, txtS_size]
    have := HLN.out
    have : [(50 : UInt8)].length = 1 := rfl
    omega
  have sA : (txtS [50]).size = 1 := rfl
  have sB : (txtS LB).size ≤ 2 := by rw [txtS_size]; exact HLN.out
  obtain ⟨HD, hHD⟩ : ∃ l, 50 :: LB = l := ⟨_, rfl⟩
  rw [hHD] at HOE
  clear nd hl hts IH hpp hcv hLB hnv hnq HLN
  unfold ptrV
  go_enter Tryz.func29, Tryz.ntmps29
  go_upto_region 10 with fail
  go_cut [5] (fun o' wx => ∃ out : ByteArray, o' = .string out ∧ out.size ≤ 10 ∧ Hid (out = txtS HD) ∧ Hid (Below w.heap.size w wx))
  case first =>
    go_region_with (fail)
    all_goals
      go_wp2_with fail
      go_meet
      first
      | exact ⟨_, rfl, HOS.out, HOE.out, HB0.out.1⟩
      | exact ⟨_, rfl, HOS.out, HOE.out, HB0.out.2⟩
  case rest =>
    obtain ⟨out0, rfl, hoz0, HO0, HBW⟩ := hcut
    have c2' := (HBW.out.cell (p := ⟨p, 2, none⟩) hpl).trans c2
    clear cA cB1 cB2 HOE HOS sA sB c0 c1 c2 HB0
    go_wp2_with fail
    go_loopw [51, 5] (fun iv o' wx => ∃ k : Nat, k ≤ nq ∧ iv = .int .i64 (k : Int) ∧ ∃ out : ByteArray, o' = .string out ∧ out.size ≤ 10 + 200000 * k ∧ Hid (out = txtS (HD ++ (ts.take k).flatten)) ∧ Hid (Below w.heap.size w wx)) (fun iv _ _ => nq - (intOf iv).toNat)
    case atStart => exact ⟨0, by omega, rfl, _, rfl, by omega, by show _ = _; rw [HO0.out]; simp, HBW.out⟩
    case round =>
      obtain ⟨k, hk, rfl, out, rfl, hoz, HO, HP⟩ := hrel
      by_cases hlt : k < nq
      · obtain ⟨g, rfl, hg, hgc⟩ := HPP.out (by omega)
        have dq := (HP.out.cell (p := ⟨g, k, none⟩) hg).trans (hgc k hlt)
        have HC := Lib.hid (HIH.out k hlt wr HP.out)
        have hkl : k < ts.length := by rw [HL.out]; exact hlt
        have hgd : ts[k] = ts.getD k [] := by simp [List.getD_eq_getElem?_getD, hkl]
        have hsz : (ts.getD k []).length ≤ 200000 := by rw [← hgd]; exact HTS.out ts[k] (List.getElem_mem hkl)
        have HNX : Hid (out ++ txtS (ts.getD k []) = txtS (HD ++ (ts.take (k + 1)).flatten)) := by
          show _ = _
          rw [HO.out, txtS_app, List.take_succ_eq_append_getElem hkl, List.flatten_append, hgd]
          simp
        have hkI : (k : Int) < (nq : Int) := by omega
        have hTz : (txtS (ts.getD k [])).size ≤ 200000 := by rw [txtS_size]; exact hsz
        unfold ptrV at HC dq
        clear hgc hsz hgd hkl
        generalize txtS (ts.getD k []) = T at *
        generalize qs.getD k 0 = q1 at *
        have hcat : ¬ 9223372036854775807 < out.size + T.size := by omega
        go_wp2_with fail
        refine HC.out.mono ?_; rintro e w3 ⟨rfl, hb3⟩
        have HP3 := Lib.hid (HP.out.trans (hb3.mono HP.out.size))
        clear hb3
        go_wp2_with fail
        go_roundw
        case rel => exact ⟨k + 1, by omega, by go_num, _, rfl, by rw [ByteArray.size_append]; omega, HNX.out, HP3.out⟩
        case measure => simp [intOf]; omega
      · have hkn : k = nq := by omega
        have HE : Hid (out = txtS (HD ++ ts.flatten)) := by
          show _ = _
          rw [HO.out, List.take_of_length_le (by have := HL.out; omega)]
        have hkI : ¬ (k : Int) < (nq : Int) := by omega
        have HPE := Lib.hid HP.out
        clear HO HP
        have hcat : ¬ 9223372036854775807 < (⟨#[33]⟩ : ByteArray).size + out.size := by have : (⟨#[33]⟩ : ByteArray).size = 1 := rfl; omega
        cases o
        · go_wp2_with fail
          go_ret
          exact ⟨by rw [HE.out, ← hHD]; rfl, HPE.out⟩
        · go_wp2_with fail
          go_ret
          refine ⟨?_, HPE.out⟩
          rw [HE.out, ← hHD, show (⟨#[33]⟩ : ByteArray) = txtS [33] from rfl, txtS_app]
          rfl
set_option maxHeartbeats 2000000 in
theorem push_51 {F : Nat → Prop} {w : World} {p : Nat} {vs : List (Fin 4)} {qs : List Nat} {fr al : Nat} {v u : Value} (nd : Nd F w p 51 vs qs fr al v u) (hv2 : vs.length ≤ 2) (ts : List (List UInt8)) (hl : ts.length = qs.length) (hq : qs.length ≤ 2) (hts : ∀ t ∈ ts, t.length ≤ 200000)
    (IH : ∀ j, j < qs.length → ∀ w', Below w.heap.size w w' → Calls Tryz.prog 29 #[ptrV (qs.getD j 0), .bool false] w' fun e w2 => e = .returned (.string (txtS (ts.getD j []))) ∧ Below w'.heap.size w' w2) (o : Bool) :
    Calls Tryz.prog 29 #[ptrV p, .bool o] w fun e w' => e = .returned (.string (txtS ((if o then [33] else []) ++ (51 :: vs.map Fm.vb ++ ts.flatten)))) ∧ Below w.heap.size w w' := by
  obtain ⟨nv, hnv⟩ : ∃ n, vs.length = n := ⟨_, rfl⟩
  obtain ⟨nq, hnq⟩ : ∃ n, qs.length = n := ⟨_, rfl⟩
  rw [hnq] at hq hl IH
  rw [hnv] at hv2
  obtain ⟨av, cv, ap, cp, rfl, rfl, hcp, c0, c1, c2, hpl, hcv, hpp⟩ := nd_facts nd nv nq hnv hnq
  replace c0 : w.cell? ⟨p, 0, none⟩ = some (.int .u8 51) := c0
  have HPP := Lib.hid hpp
  have HIH := Lib.hid IH
  have HTS := Lib.hid hts
  have HL := Lib.hid hl
  obtain ⟨LB, hLB⟩ : ∃ l, vs.map Fm.vb = l := ⟨_, rfl⟩
  have HLN : Hid (LB.length ≤ 2) := by show _ ≤ _; rw [← hLB, List.length_map, hnv]; exact hv2
  rw [hLB] at hcv ⊢
  have HB0 : Hid (Below w.heap.size w (w.alloc (.cells #[.int .u8 51] 5)).drew ∧ Below w.heap.size w w.drew) := ⟨((Below.refl _ _).alloc (Nat.le_refl _) _).drew, (Below.refl _ _).drew⟩
  have cA : (convert 22 9 (.slice (some ⟨w.heap.size, 0, none⟩) 1 1)).run Tryz.prog (w.alloc (.cells #[.int .u8 51] 5)).drew = .ok (.string (txtS [51])) (w.alloc (.cells #[.int .u8 51] 5)).drew := conv_bytes _ _ 1 [51] (fun j hj => by
    obtain rfl : j = 0 := by simpa using hj
    show (w.alloc (.cells #[.int .u8 51] 5)).cell? ⟨w.heap.size, 0, none⟩ = some (.int .u8 51)
    unfold World.cell?
    rw [heap_alloc_new]; rfl)
  have cB1 := hcv w.drew HB0.out.2
  have cB2 := hcv _ HB0.out.1
  have HOE : Hid (txtS [51] ++ txtS LB = txtS (51 :: LB)) := by
    show _ = _
    rw [txtS_app]; simp
  have HOS : Hid ((txtS [51] ++ txtS LB).size ≤ 10) := by
    show _ ≤ _
    rw [ByteArray.size_append, txtS_size, txtS_size]
    have := HLN.out
    have : [(51 : UInt8)].length = 1 := rfl
    omega
  have sA : (txtS [51]).size = 1 := rfl
  have sB : (txtS LB).size ≤ 2 := by rw [txtS_size]; exact HLN.out
  obtain ⟨HD, hHD⟩ : ∃ l, 51 :: LB = l := ⟨_, rfl⟩
  rw [hHD] at HOE
  clear nd hl hts IH hpp hcv hLB hnv hnq HLN
  unfold ptrV
  go_enter Tryz.func29, Tryz.ntmps29
  go_upto_region 10 with fail
  go_cut [5] (fun o' wx => ∃ out : ByteArray, o' = .string out ∧ out.size ≤ 10 ∧ Hid (out = txtS HD) ∧ Hid (Below w.heap.size w wx))
  case first =>
    go_region_with (fail)
    all_goals
      go_wp2_with fail
      go_meet
      first
      | exact ⟨_, rfl, HOS.out, HOE.out, HB0.out.1⟩
      | exact ⟨_, rfl, HOS.out, HOE.out, HB0.out.2⟩
  case rest =>
    obtain ⟨out0, rfl, hoz0, HO0, HBW⟩ := hcut
    have c2' := (HBW.out.cell (p := ⟨p, 2, none⟩) hpl).trans c2
    clear cA cB1 cB2 HOE HOS sA sB c0 c1 c2 HB0
    go_wp2_with fail
    go_loopw [51, 5] (fun iv o' wx => ∃ k : Nat, k ≤ nq ∧ iv = .int .i64 (k : Int) ∧ ∃ out : ByteArray, o' = .string out ∧ out.size ≤ 10 + 200000 * k ∧ Hid (out = txtS (HD ++ (ts.take k).flatten)) ∧ Hid (Below w.heap.size w wx)) (fun iv _ _ => nq - (intOf iv).toNat)
    case atStart => exact ⟨0, by omega, rfl, _, rfl, by omega, by show _ = _; rw [HO0.out]; simp, HBW.out⟩
    case round =>
      obtain ⟨k, hk, rfl, out, rfl, hoz, HO, HP⟩ := hrel
      by_cases hlt : k < nq
      · obtain ⟨g, rfl, hg, hgc⟩ := HPP.out (by omega)
        have dq := (HP.out.cell (p := ⟨g, k, none⟩) hg).trans (hgc k hlt)
        have HC := Lib.hid (HIH.out k hlt wr HP.out)
        have hkl : k < ts.length := by rw [HL.out]; exact hlt
        have hgd : ts[k] = ts.getD k [] := by simp [List.getD_eq_getElem?_getD, hkl]
        have hsz : (ts.getD k []).length ≤ 200000 := by rw [← hgd]; exact HTS.out ts[k] (List.getElem_mem hkl)
        have HNX : Hid (out ++ txtS (ts.getD k []) = txtS (HD ++ (ts.take (k + 1)).flatten)) := by
          show _ = _
          rw [HO.out, txtS_app, List.take_succ_eq_append_getElem hkl, List.flatten_append, hgd]
          simp
        have hkI : (k : Int) < (nq : Int) := by omega
        have hTz : (txtS (ts.getD k [])).size ≤ 200000 := by rw [txtS_size]; exact hsz
        unfold ptrV at HC dq
        clear hgc hsz hgd hkl
        generalize txtS (ts.getD k []) = T at *
        generalize qs.getD k 0 = q1 at *
        have hcat : ¬ 9223372036854775807 < out.size + T.size := by omega
        go_wp2_with fail
        refine HC.out.mono ?_; rintro e w3 ⟨rfl, hb3⟩
        have HP3 := Lib.hid (HP.out.trans (hb3.mono HP.out.size))
        clear hb3
        go_wp2_with fail
        go_roundw
        case rel => exact ⟨k + 1, by omega, by go_num, _, rfl, by rw [ByteArray.size_append]; omega, HNX.out, HP3.out⟩
        case measure => simp [intOf]; omega
      · have hkn : k = nq := by omega
        have HE : Hid (out = txtS (HD ++ ts.flatten)) := by
          show _ = _
          rw [HO.out, List.take_of_length_le (by have := HL.out; omega)]
        have hkI : ¬ (k : Int) < (nq : Int) := by omega
        have HPE := Lib.hid HP.out
        clear HO HP
        have hcat : ¬ 9223372036854775807 < (⟨#[33]⟩ : ByteArray).size + out.size := by have : (⟨#[33]⟩ : ByteArray).size = 1 := rfl; omega
        cases o
        · go_wp2_with fail
          go_ret
          exact ⟨by rw [HE.out, ← hHD]; rfl, HPE.out⟩
        · go_wp2_with fail
          go_ret
          refine ⟨?_, HPE.out⟩
          rw [HE.out, ← hHD, show (⟨#[33]⟩ : ByteArray) = txtS [33] from rfl, txtS_app]
          rfl
set_option maxHeartbeats 2000000 in
theorem push_52 {F : Nat → Prop} {w : World} {p : Nat} {vs : List (Fin 4)} {qs : List Nat} {fr al : Nat} {v u : Value} (nd : Nd F w p 52 vs qs fr al v u) (hv2 : vs.length ≤ 2) (ts : List (List UInt8)) (hl : ts.length = qs.length) (hq : qs.length ≤ 2) (hts : ∀ t ∈ ts, t.length ≤ 200000)
    (IH : ∀ j, j < qs.length → ∀ w', Below w.heap.size w w' → Calls Tryz.prog 29 #[ptrV (qs.getD j 0), .bool false] w' fun e w2 => e = .returned (.string (txtS (ts.getD j []))) ∧ Below w'.heap.size w' w2) (o : Bool) :
    Calls Tryz.prog 29 #[ptrV p, .bool o] w fun e w' => e = .returned (.string (txtS ((if o then [33] else []) ++ (52 :: vs.map Fm.vb ++ ts.flatten)))) ∧ Below w.heap.size w w' := by
  obtain ⟨nv, hnv⟩ : ∃ n, vs.length = n := ⟨_, rfl⟩
  obtain ⟨nq, hnq⟩ : ∃ n, qs.length = n := ⟨_, rfl⟩
  rw [hnq] at hq hl IH
  rw [hnv] at hv2
  obtain ⟨av, cv, ap, cp, rfl, rfl, hcp, c0, c1, c2, hpl, hcv, hpp⟩ := nd_facts nd nv nq hnv hnq
  replace c0 : w.cell? ⟨p, 0, none⟩ = some (.int .u8 52) := c0
  have HPP := Lib.hid hpp
  have HIH := Lib.hid IH
  have HTS := Lib.hid hts
  have HL := Lib.hid hl
  obtain ⟨LB, hLB⟩ : ∃ l, vs.map Fm.vb = l := ⟨_, rfl⟩
  have HLN : Hid (LB.length ≤ 2) := by show _ ≤ _; rw [← hLB, List.length_map, hnv]; exact hv2
  rw [hLB] at hcv ⊢
  have HB0 : Hid (Below w.heap.size w (w.alloc (.cells #[.int .u8 52] 5)).drew ∧ Below w.heap.size w w.drew) := ⟨((Below.refl _ _).alloc (Nat.le_refl _) _).drew, (Below.refl _ _).drew⟩
  have cA : (convert 22 9 (.slice (some ⟨w.heap.size, 0, none⟩) 1 1)).run Tryz.prog (w.alloc (.cells #[.int .u8 52] 5)).drew = .ok (.string (txtS [52])) (w.alloc (.cells #[.int .u8 52] 5)).drew := conv_bytes _ _ 1 [52] (fun j hj => by
    obtain rfl : j = 0 := by simpa using hj
    show (w.alloc (.cells #[.int .u8 52] 5)).cell? ⟨w.heap.size, 0, none⟩ = some (.int .u8 52)
    unfold World.cell?
    rw [heap_alloc_new]; rfl)
  have cB1 := hcv w.drew HB0.out.2
  have cB2 := hcv _ HB0.out.1
  have HOE : Hid (txtS [52] ++ txtS LB = txtS (52 :: LB)) := by
    show _ = _
    rw [txtS_app]; simp
  have HOS : Hid ((txtS [52] ++ txtS LB).size ≤ 10) := by
    show _ ≤ _
    rw [ByteArray.size_append, txtS_size, txtS_size]
    have := HLN.out
    have : [(52 : UInt8)].length = 1 := rfl
    omega
  have sA : (txtS [52]).size = 1 := rfl
  have sB : (txtS LB).size ≤ 2 := by rw [txtS_size]; exact HLN.out
  obtain ⟨HD, hHD⟩ : ∃ l, 52 :: LB = l := ⟨_, rfl⟩
  rw [hHD] at HOE
  clear nd hl hts IH hpp hcv hLB hnv hnq HLN
  unfold ptrV
  go_enter Tryz.func29, Tryz.ntmps29
  go_upto_region 10 with fail
  go_cut [5] (fun o' wx => ∃ out : ByteArray, o' = .string out ∧ out.size ≤ 10 ∧ Hid (out = txtS HD) ∧ Hid (Below w.heap.size w wx))
  case first =>
    go_region_with (fail)
    all_goals
      go_wp2_with fail
      go_meet
      first
      | exact ⟨_, rfl, HOS.out, HOE.out, HB0.out.1⟩
      | exact ⟨_, rfl, HOS.out, HOE.out, HB0.out.2⟩
  case rest =>
    obtain ⟨out0, rfl, hoz0, HO0, HBW⟩ := hcut
    have c2' := (HBW.out.cell (p := ⟨p, 2, none⟩) hpl).trans c2
    clear cA cB1 cB2 HOE HOS sA sB c0 c1 c2 HB0
    go_wp2_with fail
    go_loopw [51, 5] (fun iv o' wx => ∃ k : Nat, k ≤ nq ∧ iv = .int .i64 (k : Int) ∧ ∃ out : ByteArray, o' = .string out ∧ out.size ≤ 10 + 200000 * k ∧ Hid (out = txtS (HD ++ (ts.take k).flatten)) ∧ Hid (Below w.heap.size w wx)) (fun iv _ _ => nq - (intOf iv).toNat)
    case atStart => exact ⟨0, by omega, rfl, _, rfl, by omega, by show _ = _; rw [HO0.out]; simp, HBW.out⟩
    case round =>
      obtain ⟨k, hk, rfl, out, rfl, hoz, HO, HP⟩ := hrel
      by_cases hlt : k < nq
      · obtain ⟨g, rfl, hg, hgc⟩ := HPP.out (by omega)
        have dq := (HP.out.cell (p := ⟨g, k, none⟩) hg).trans (hgc k hlt)
        have HC := Lib.hid (HIH.out k hlt wr HP.out)
        have hkl : k < ts.length := by rw [HL.out]; exact hlt
        have hgd : ts[k] = ts.getD k [] := by simp [List.getD_eq_getElem?_getD, hkl]
        have hsz : (ts.getD k []).length ≤ 200000 := by rw [← hgd]; exact HTS.out ts[k] (List.getElem_mem hkl)
        have HNX : Hid (out ++ txtS (ts.getD k []) = txtS (HD ++ (ts.take (k + 1)).flatten)) := by
          show _ = _
          rw [HO.out, txtS_app, List.take_succ_eq_append_getElem hkl, List.flatten_append, hgd]
          simp
        have hkI : (k : Int) < (nq : Int) := by omega
        have hTz : (txtS (ts.getD k [])).size ≤ 200000 := by rw [txtS_size]; exact hsz
        unfold ptrV at HC dq
        clear hgc hsz hgd hkl
        generalize txtS (ts.getD k []) = T at *
        generalize qs.getD k 0 = q1 at *
        have hcat : ¬ 9223372036854775807 < out.size + T.size := by omega
        go_wp2_with fail
        refine HC.out.mono ?_; rintro e w3 ⟨rfl, hb3⟩
        have HP3 := Lib.hid (HP.out.trans (hb3.mono HP.out.size))
        clear hb3
        go_wp2_with fail
        go_roundw
        case rel => exact ⟨k + 1, by omega, by go_num, _, rfl, by rw [ByteArray.size_append]; omega, HNX.out, HP3.out⟩
        case measure => simp [intOf]; omega
      · have hkn : k = nq := by omega
        have HE : Hid (out = txtS (HD ++ ts.flatten)) := by
          show _ = _
          rw [HO.out, List.take_of_length_le (by have := HL.out; omega)]
        have hkI : ¬ (k : Int) < (nq : Int) := by omega
        have HPE := Lib.hid HP.out
        clear HO HP
        have hcat : ¬ 9223372036854775807 < (⟨#[33]⟩ : ByteArray).size + out.size := by have : (⟨#[33]⟩ : ByteArray).size = 1 := rfl; omega
        cases o
        · go_wp2_with fail
          go_ret
          exact ⟨by rw [HE.out, ← hHD]; rfl, HPE.out⟩
        · go_wp2_with fail
          go_ret
          refine ⟨?_, HPE.out⟩
          rw [HE.out, ← hHD, show (⟨#[33]⟩ : ByteArray) = txtS [33] from rfl, txtS_app]
          rfl
end Go.Proofs.YtihomcedaaiidaaGreatDoor

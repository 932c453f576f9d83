/- The program's stateOf: the number of a way in which pebbles lie. Conditions: the pebbles are ready. -/
import Derived.Test.YtnhlhjehocngcaaDoorPeb0
namespace Go.Proofs.YtnhlhjehocngcaaDoor
open Go.RowKit
set_option linter.unusedVariables false
set_option maxRecDepth 100000

theorem pairs_le {n m : Nat} (hn : n ≤ 8) (hm : m ≤ 8) : n * m + 1 ≤ 65 := by
  have := Nat.mul_le_mul hn hm
  omega
theorem pow_le {P k : Nat} (hP : P ≤ 65) (hk : k ≤ 3) : P ^ k ≤ 274625 := by
  have h1 := Nat.pow_le_pow_left hP k
  have h2 : 65 ^ k ≤ 65 ^ 3 := Nat.pow_le_pow_right (by decide) hk
  have h3 : 65 ^ 3 = 274625 := by decide
  omega
theorem Rdy.drop {n m : Nat} {L M : List Int} (h : Rdy n m L M) (j : Nat) : Rdy n m (L.drop j) (M.drop j) :=
  ⟨by rw [List.length_drop, List.length_drop, h.len], fun x hx => h.la x (List.mem_of_mem_drop hx), fun x hx => h.lb x (List.mem_of_mem_drop hx), fun i => by
    have := h.sg (j + i)
    simpa [List.getD_eq_getElem?_getD] using this⟩
theorem stP_drop {P m : Nat} {L M : List Int} {j : Nat} (h1 : j < L.length) (h2 : j < M.length) : stP P m (L.drop j) (M.drop j) = stP P m (L.drop (j + 1)) (M.drop (j + 1)) * P + dig m (L.getD j 0) (M.getD j 0) := by
  rw [List.drop_eq_getElem_cons h1, List.drop_eq_getElem_cons h2, show ∀ (x y : Int) (L M : List Int), stP P m (x :: L) (y :: M) = stP P m L M * P + dig m x y from fun _ _ _ _ => rfl]
  rw [List.getD_eq_getElem?_getD, List.getElem?_eq_getElem h1, List.getD_eq_getElem?_getD, List.getElem?_eq_getElem h2]
  rfl
set_option maxHeartbeats 1000000 in
theorem stateOf_any (p n m k : Nat) (S R S2 R2 : ByteArray) (fv wv v u : Value) (L M : List Int) (w : World) (hG : PebG w p n S R m S2 R2 k fv wv) (hv : IntsAt w v L) (hu : IntsAt w u M) (hr : Rdy n m L M) (hk : L.length = k) (hk3 : k ≤ 3) (hn : n ≤ 8) (hm : m ≤ 8) :
    Calls Tryd.prog 41 #[.pointer (some ⟨p, 0, none⟩), v, u] w fun e w' => e = .returned (.int .i64 ((stP (n * m + 1) m L M : Nat) : Int)) ∧ Below w.heap.size w w' := by
  have HR := Lib.hid hr
  have HLM := Lib.hid hr.len
  obtain ⟨a, ca, rfl, la1, la2, hva⟩ := hv.view
  obtain ⟨b, cb, rfl, lb1, lb2, hvb⟩ := hu.view
  unfold maxLen at la2 lb2
  have HA := Lib.hid hva
  have HB := Lib.hid hvb
  rw [← hr.len] at lb1 ⊢
  have hplt := hG.lt
  obtain ⟨c0, c3, c6, c7, c8, c9, c10, c11, c12⟩ := hG.cells
  have hP65 := pairs_le hn hm
  obtain ⟨P, hP⟩ : ∃ P, n * m + 1 = P := ⟨_, rfl⟩
  have HPE := Lib.hid hP
  rw [hP] at c7 hP65 ⊢
  have HPOW := Lib.hid (fun j (hj : j ≤ 3) => pow_le hP65 hj)
  have HK := Lib.hid hk
  obtain ⟨RES, hres⟩ : ∃ r, stP P m L M = r := ⟨_, rfl⟩
  have HRES := Lib.hid hres
  rw [hres]
  obtain ⟨ll, hll⟩ : ∃ ll, L.length = ll := ⟨_, rfl⟩
  have HLL := Lib.hid hll
  rw [hll] at hk la1 lb1 HA HLM ⊢
  subst hk
  rw [← HLM.out] at HB
  clear hll hres hP hva hvb hv hu hr hG c8 c9 c10 c11 c12 c0
  go_enter Tryd.func41, Tryd.ntmps41
  go_wp2_with fail
  go_loopw [8, 7] (fun i s wr => ∃ (j sv : Nat), j ≤ ll ∧ i = .int .i64 ((j : Int) - 1) ∧ s = .int .i64 (sv : Int) ∧ Hid (sv = stP P m (L.drop j) (M.drop j)) ∧ Hid (Below w.heap.size w wr)) (fun i _ _ => (intOf i + 1).toNat)
  case atStart => exact ⟨ll, 0, by omega, rfl, rfl, by rw [← HLL.out, List.drop_length]; rfl, Below.refl _ _⟩
  case round =>
    obtain ⟨j, sv, hj, rfl, rfl, HS, HW⟩ := hrel
    have hc7 := (HW.out.cell (p := ⟨p, 7, none⟩) hplt).trans c7
    have hc3 := (HW.out.cell (p := ⟨p, 3, none⟩) hplt).trans c3
    match j, hj, HS with
    | 0, hj, HS =>
      have HE : Hid ((sv : Int) = (RES : Int)) := by
        have := HS.out
        rw [List.drop_zero, List.drop_zero, HRES.out] at this
        show _ = _
        rw [this]
      go_wp2_with fail
      go_ret
      exact ⟨ret_int HE.out, HW.out⟩
    | j + 1, hj, HS =>
      have HD : Hid (stP P m (L.drop j) (M.drop j) = sv * P + dig m (L.getD j 0) (M.getD j 0)) := by
        show _ = _
        rw [HS.out, stP_drop (by have := HLL.out; omega) (by have := HLL.out; have := HLM.out; omega)]
      have hb1 : sv * P + dig m (L.getD j 0) (M.getD j 0) ≤ 274625 := by
        have h1 := stP_lt (HR.out.drop j)
        rw [HPE.out] at h1
        have h2 := HPOW.out (L.drop j).length (by rw [List.length_drop, HLL.out]; omega)
        rw [← HD.out]
        omega
      have hxr := HR.out.la (L.getD j 0) (by rw [List.getD_eq_getElem?_getD, List.getElem?_eq_getElem (by have := HLL.out; omega)]; exact List.getElem_mem _)
      have hyr := HR.out.lb (M.getD j 0) (by rw [List.getD_eq_getElem?_getD, List.getElem?_eq_getElem (by have := HLL.out; have := HLM.out; omega)]; exact List.getElem_mem _)
      have hsg := HR.out.sg j
      obtain ⟨ga, oa, rfl, hga, hca⟩ := HA.out (by omega)
      obtain ⟨gb, ob, rfl, hgb, hcb⟩ := HB.out (by omega)
      have d1 := (HW.out.cell (p := ⟨ga, oa + j, none⟩) hga).trans (hca j (by omega))
      have d2 := (HW.out.cell (p := ⟨gb, ob + j, none⟩) hgb).trans (hcb j (by omega))
      obtain ⟨x, hx⟩ : ∃ x, L.getD j 0 = x := ⟨_, rfl⟩
      obtain ⟨y, hy⟩ : ∃ x, M.getD j 0 = x := ⟨_, rfl⟩
      rw [hx] at d1 hxr HD hb1
      rw [hy] at d2 hyr HD hb1
      rw [hx, hy] at hsg
      clear hx hy hca hcb
      have hji : ((j + 1 : Nat) : Int) - 1 = (j : Int) := by omega
      have hsp : (sv : Int) * (P : Int) = ((sv * P : Nat) : Int) := by rw [Int.natCast_mul]
      obtain ⟨sp, hspe⟩ : ∃ sp, sv * P = sp := ⟨_, rfl⟩
      rw [hspe] at hsp hb1 HD
      rw [hji]
      by_cases h0 : 0 ≤ x
      · obtain ⟨xn, rfl⟩ := Int.eq_ofNat_of_zero_le h0
        obtain ⟨yn, rfl⟩ := Int.eq_ofNat_of_zero_le (show 0 ≤ y by omega)
        have hdg : dig m (xn : Int) (yn : Int) = 1 + xn * m + yn := by
          unfold dig
          rw [if_pos h0]
          simp
        rw [hdg] at hb1 HD
        have hxm : (xn : Int) * (m : Int) = ((xn * m : Nat) : Int) := by rw [Int.natCast_mul]
        obtain ⟨xm, hxme⟩ : ∃ sp, xn * m = sp := ⟨_, rfl⟩
        rw [hxme] at hxm hb1 HD
        clear hdg hxme hspe hji
        have HS2 : Hid (sp + (1 + xm + yn) = stP P m (L.drop j) (M.drop j)) := HD.out.symm
        clear HD HS
        go_wp2_with fail
        go_quiet (fail)
        go_wp2_with fail
        go_roundw
        case rel => exact ⟨j, sp + (1 + xm + yn), by omega, rfl, by go_num, HS2.out, below_drewQ HW.out _⟩
        case measure => simp [intOf]
      · have hdg : dig m x y = 0 := by
          unfold dig
          rw [if_neg h0]
        rw [hdg] at hb1 HD
        clear hdg hspe hji
        have HS2 : Hid (sp = stP P m (L.drop j) (M.drop j)) := by have := HD.out; show _ = _; omega
        clear HD HS
        go_wp2_with fail
        go_roundw
        case rel => exact ⟨j, sp, by omega, rfl, rfl, HS2.out, HW.out⟩
        case measure => simp [intOf]
end Go.Proofs.YtnhlhjehocngcaaDoor

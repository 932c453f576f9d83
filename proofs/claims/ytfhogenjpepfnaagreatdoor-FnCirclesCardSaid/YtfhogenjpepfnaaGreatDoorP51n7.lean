/- Contracts of the program's functions and what they compute: part 7. Conditions: those that each theorem states. -/
import Derived.Test.YtfhogenjpepfnaaGreatDoorP51n2
import Derived.Test.YtfhogenjpepfnaaGreatDoorP51n6
namespace Go.Proofs.YtfhogenjpepfnaaGreatDoor
open Go.RowKit
set_option linter.unusedVariables false
set_option maxRecDepth 100000
def cmpI (x y : Int) : Int := if x < y then -1 else if y < x then 1 else 0
theorem isNaN_no (x : Int) (w : World) : Calls Tryz.prog 109 #[.int .i64 x] w fun e w' => e = .returned (.bool false) ∧ w' = w := by
  go_enter Tryz.func109, Tryz.ntmps109
  go_wp2_with fail
  go_ret
  exact ⟨ret_bool (by simp), rfl⟩
theorem Compare_int (x y : Int) (w : World) : Calls Tryz.prog 103 #[.int .i64 x, .int .i64 y] w fun e w' => e = .returned (.int .i64 (cmpI x y)) ∧ w' = w := by
  have h1 := isNaN_no x w
  have h2 := isNaN_no y w
  have H1 := Lib.hid h1; have H2 := Lib.hid h2
  clear h1 h2
  rcases Int.lt_trichotomy x y with h | h | h
  · have e : cmpI x y = -1 := by unfold cmpI; rw [if_pos h]
    rw [e]
    clear e
    go_enter Tryz.func103, Tryz.ntmps103
    go_wp2_with fail
    refine H1.out.mono ?_; rintro e w1 ⟨rfl, hw⟩; rw [hw]; clear hw w1
    go_wp2_with fail
    refine H2.out.mono ?_; rintro e w1 ⟨rfl, hw⟩; rw [hw]; clear hw w1
    go_wp2_with fail
    go_ret
    exact ⟨rfl, rfl⟩
  · have e : cmpI x y = 0 := by unfold cmpI; rw [if_neg (by omega), if_neg (by omega)]
    rw [e]
    have h3 : ¬ x < y := by omega
    have h4 : ¬ y < x := by omega
    clear e h
    go_enter Tryz.func103, Tryz.ntmps103
    go_wp2_with fail
    refine H1.out.mono ?_; rintro e w1 ⟨rfl, hw⟩; rw [hw]; clear hw w1
    go_wp2_with fail
    refine H2.out.mono ?_; rintro e w1 ⟨rfl, hw⟩; rw [hw]; clear hw w1
    go_wp2_with fail
    go_ret
    exact ⟨rfl, rfl⟩
  · have e : cmpI x y = 1 := by unfold cmpI; rw [if_neg (by omega), if_pos h]
    rw [e]
    have h3 : ¬ x < y := by omega
    clear e
    go_enter Tryz.func103, Tryz.ntmps103
    go_wp2_with fail
    refine H1.out.mono ?_; rintro e w1 ⟨rfl, hw⟩; rw [hw]; clear hw w1
    go_wp2_with fail
    refine H2.out.mono ?_; rintro e w1 ⟨rfl, hw⟩; rw [hw]; clear hw w1
    go_wp2_with fail
    go_ret
    exact ⟨rfl, rfl⟩
theorem cmp_at {L M : List Nat} {k : Nat} (h1 : k < L.length) (h2 : k < M.length) : Col.cmp (L.drop k) (M.drop k) = if cmpI (L.getD k 0 : Nat) (M.getD k 0 : Nat) = 0 then Col.cmp (L.drop (k + 1)) (M.drop (k + 1)) else cmpI (L.getD k 0 : Nat) (M.getD k 0 : Nat) := by
  rw [List.drop_eq_getElem_cons h1, List.drop_eq_getElem_cons h2, Col.cmp]
  have e1 : L.getD k 0 = L[k] := by simp [h1]
  have e2 : M.getD k 0 = M[k] := by simp [h2]
  rw [e1, e2]
  unfold cmpI
  by_cases a : L[k] < M[k]
  · have a' : (L[k] : Int) < (M[k] : Int) := by omega
    simp [a, a']
  · have a' : ¬ (L[k] : Int) < (M[k] : Int) := by omega
    by_cases b : M[k] < L[k]
    · have b' : (M[k] : Int) < (L[k] : Int) := by omega
      simp [a, a', b, b']
    · have b' : ¬ (M[k] : Int) < (L[k] : Int) := by omega
      simp [a, a', b, b']
theorem cmp_end1 {L M : List Nat} {k : Nat} (h1 : k < L.length) (h2 : M.length ≤ k) : Col.cmp (L.drop k) (M.drop k) = 1 := by
  rw [List.drop_eq_getElem_cons h1, List.drop_eq_nil_of_le h2]; rfl
theorem cmp_end2 {L M : List Nat} {k : Nat} (h1 : L.length ≤ k) (h2 : k < M.length) : Col.cmp (L.drop k) (M.drop k) = -1 := by
  rw [List.drop_eq_getElem_cons h2, List.drop_eq_nil_of_le h1]; rfl
theorem cmp_end3 {L M : List Nat} {k : Nat} (h1 : L.length ≤ k) (h2 : M.length ≤ k) : Col.cmp (L.drop k) (M.drop k) = 0 := by
  rw [List.drop_eq_nil_of_le h1, List.drop_eq_nil_of_le h2]; rfl
set_option maxHeartbeats 1000000 in
theorem sCompare_any (v u : Value) (L M : List Nat) (w : World) (hv : NumsAt w v L) (hu : NumsAt w u M) :
    Calls Tryz.prog 81 #[v, u] w fun e w' => e = .returned (.int .i64 (Col.cmp L M)) ∧ w' = w := by
  obtain ⟨a, ca, rfl, c1, c2, hca⟩ := hv.view
  obtain ⟨b, cb, rfl, d1, d2, hcb⟩ := hu.view
  unfold maxLen at c2 d2
  have HCA := Lib.hid hca; have HCB := Lib.hid hcb
  clear hca hcb hv hu
  obtain ⟨RES, hR⟩ : ∃ r, Col.cmp L M = r := ⟨_, rfl⟩
  have HR := Lib.hid hR
  rw [hR]
  clear hR
  go_enter Tryz.func81, Tryz.ntmps81
  go_wp2_with fail
  go_loop [11] (fun i => ∃ k : Nat, k ≤ L.length ∧ k ≤ M.length ∧ i = .int .i64 (k : Int) ∧ Hid (Col.cmp (L.drop k) (M.drop k) = RES)) (fun i => L.length - (intOf i).toNat)
  case atStart => exact ⟨0, by omega, by omega, rfl, HR.out⟩
  case round =>
    obtain ⟨k, hk, hkm, rfl, HK⟩ := hrel
    by_cases hlt : k < L.length
    · have hltI : (k : Int) < (L.length : Int) := by omega
      obtain ⟨ga, oa, rfl, hga, hcka⟩ := HCA.out (by omega)
      have e1 := hcka k hlt
      by_cases hl2 : k < M.length
      · have hl2I : ¬ (M.length : Int) ≤ (k : Int) := by omega
        have hl2J : (k : Int) < (M.length : Int) := by omega
        obtain ⟨gb, ob, rfl, hgb, hckb⟩ := HCB.out (by omega)
        have e2 := hckb k hl2
        have HAT := Lib.hid (HK.out.symm.trans (cmp_at hlt hl2))
        obtain ⟨x, hx⟩ : ∃ x, L.getD k 0 = x := ⟨_, rfl⟩
        obtain ⟨y, hy⟩ : ∃ x, M.getD k 0 = x := ⟨_, rfl⟩
        rw [hx] at e1 HAT
        rw [hy] at e2 HAT
        have HC := Lib.hid (Compare_int (x : Int) (y : Int) w)
        obtain ⟨c, hc⟩ : ∃ c, cmpI (x : Int) (y : Int) = c := ⟨_, rfl⟩
        rw [hc] at HC HAT
        clear hcka hckb hx hy hc HK HR
        by_cases h0 : c = 0
        · subst h0
          have HN : Hid (Col.cmp (L.drop (k + 1)) (M.drop (k + 1)) = RES) := HAT.out.symm
          clear HAT
          go_wp2_with fail
          refine HC.out.mono ?_; rintro e w1 ⟨rfl, hw⟩; rw [hw]; clear hw w1
          go_wp2_with fail
          go_round
          case rel => exact ⟨k + 1, by omega, by omega, by go_num, HN⟩
          case measure => simp [intOf]; omega
        · have HN : Hid (RES = c) := by have h := HAT.out; rw [if_neg h0] at h; exact h
          clear HAT
          go_wp2_with fail
          refine HC.out.mono ?_; rintro e w1 ⟨rfl, hw⟩; rw [hw]; clear hw w1
          go_wp2_with fail
          go_ret
          exact ⟨ret_int HN.out.symm, rfl⟩
      · have hl2I : (M.length : Int) ≤ (k : Int) := by omega
        have HN : Hid (RES = 1) := HK.out.symm.trans (cmp_end1 hlt (by omega))
        clear hcka HK HR
        go_wp2_with fail
        go_ret
        exact ⟨ret_int HN.out.symm, rfl⟩
    · have hltI : ¬ (k : Int) < (L.length : Int) := by omega
      by_cases hl2 : L.length < M.length
      · have hl2I : (L.length : Int) < (M.length : Int) := by omega
        have HN : Hid (RES = -1) := HK.out.symm.trans (cmp_end2 (by omega) (by omega))
        clear HK HR
        go_wp2_with fail
        go_ret
        exact ⟨ret_int HN.out.symm, rfl⟩
      · have hl2I : ¬ (L.length : Int) < (M.length : Int) := by omega
        have HN : Hid (RES = 0) := HK.out.symm.trans (cmp_end3 (by omega) (by omega))
        clear HK HR
        go_wp2_with fail
        go_ret
        exact ⟨ret_int HN.out.symm, rfl⟩
theorem list_ne_at {L M : List Nat} {k : Nat} (h1 : k < L.length) (h2 : k < M.length) (h : L.getD k 0 ≠ M.getD k 0) : decide (L = M) = false := by
  rw [decide_eq_false_iff_not]
  rintro rfl
  exact h rfl
theorem list_eq_of {L M : List Nat} (hl : L.length = M.length) (h : ∀ j, j < L.length → L.getD j 0 = M.getD j 0) : L = M := by
  apply List.ext_getElem hl
  intro i h1 h2
  have := h i h1
  simpa [h1, h2] using this
set_option maxHeartbeats 1000000 in
theorem sEqual_any (v u : Value) (L M : List Nat) (w : World) (hv : NumsAt w v L) (hu : NumsAt w u M) :
    Calls Tryz.prog 47 #[v, u] w fun e w' => e = .returned (.bool (decide (L = M))) ∧ ∃ q, w' = w.drewN q := by
  obtain ⟨a, ca, rfl, c1, c2, hca⟩ := hv.view
  obtain ⟨b, cb, rfl, d1, d2, hcb⟩ := hu.view
  unfold maxLen at c2 d2
  have HCA := Lib.hid hca; have HCB := Lib.hid hcb
  clear hca hcb hv hu
  obtain ⟨RES, hR⟩ : ∃ r, decide (L = M) = r := ⟨_, rfl⟩
  have HR := Lib.hid hR
  rw [hR]
  clear hR
  by_cases hlm : L.length = M.length
  · have hlmI : (L.length : Int) = (M.length : Int) := by omega
    have HLM := Lib.hid hlm
    rw [← hlm] at d1 HCB ⊢
    clear hlm hlmI
    go_enter Tryz.func47, Tryz.ntmps47
    go_wp2_with fail
    go_loopw [13] (fun i wr => ∃ (k q : Nat), k ≤ L.length ∧ i = .int .i64 (k : Int) ∧ wr = w.drewN q ∧ Hid (∀ j, j < k → L.getD j 0 = M.getD j 0)) (fun i _ => L.length - (intOf i).toNat)
    case atStart => exact ⟨0, 0, by omega, rfl, rfl, fun j hj => absurd hj (Nat.not_lt_zero j)⟩
    case round =>
      obtain ⟨k, q, hk, rfl, rfl, HK⟩ := hrel
      by_cases hlt : k < L.length
      · have hltI : (k : Int) < (L.length : Int) := by omega
        obtain ⟨ga, oa, rfl, hga, hcka⟩ := HCA.out (by omega)
        obtain ⟨gb, ob, rfl, hgb, hckb⟩ := HCB.out (by omega)
        have e1 := hcka k hlt
        have e2 := hckb k hlt
        have hkM : k < M.length := by rw [← HLM.out]; exact hlt
        obtain ⟨x, hx⟩ : ∃ x, L.getD k 0 = x := ⟨_, rfl⟩
        obtain ⟨y, hy⟩ : ∃ x, M.getD k 0 = x := ⟨_, rfl⟩
        have HXY : Hid (L.getD k 0 = x ∧ M.getD k 0 = y) := ⟨hx, hy⟩
        rw [hx] at e1
        rw [hy] at e2
        clear hcka hckb hx hy
        by_cases hxy : x = y
        · subst hxy
          go_upto_region 6 with fail
          go_region
          all_goals
            go_wp2_with fail
            go_roundw
            case rel =>
              refine ⟨k + 1, q + 1, by omega, by go_num, rfl, fun j hj => ?_⟩
              by_cases hjk : j = k
              · rw [hjk, HXY.out.1, HXY.out.2]
              · exact HK.out j (by omega)
            case measure => simp [intOf]; omega
        · have HN : Hid (RES = false) := HR.out.symm.trans (list_ne_at hlt hkM (by rw [HXY.out.1, HXY.out.2]; exact hxy))
          have hxyI : ¬ (x : Int) = (y : Int) := by omega
          have hxyB : ((x : Int) == (y : Int)) = false := by rw [beq_eq_false_iff_ne]; exact hxyI
          go_upto_region 6 with fail
          go_region
          all_goals
            go_wp2_with fail
            go_ret
            exact ⟨ret_bool HN.out.symm, q + 1, rfl⟩
      · have hltI : ¬ (k : Int) < (L.length : Int) := by omega
        have HN : Hid (RES = true) := HR.out.symm.trans (by
          rw [decide_eq_true_eq]
          exact list_eq_of HLM.out (fun j hj => HK.out j (by omega)))
        go_wp2_with fail
        go_ret
        exact ⟨ret_bool HN.out.symm, q, rfl⟩
  · have hlmI : ¬ (L.length : Int) = (M.length : Int) := by omega
    have HN : Hid (RES = false) := HR.out.symm.trans (by rw [decide_eq_false_iff_not]; rintro rfl; exact hlm rfl)
    go_enter Tryz.func47, Tryz.ntmps47
    go_wp2_with fail
    go_ret
    exact ⟨ret_bool HN.out.symm, 0, rfl⟩
end Go.Proofs.YtfhogenjpepfnaaGreatDoor

/- Sentences of lengths: lengthBetween of the program. Conditions: small numbers, names of at most one byte. -/
import Derived.Test.YtenjojakjdaamaaDoorLong
namespace Go.Proofs.YtenjojakjdaamaaDoor
open Go.RowKit
set_option linter.unusedVariables false

theorem nameOf_nm (i : Nat) (w : World) (h : i < 4) : Calls Tryd.prog 172 #[.int .i64 (i : Int)] w fun e w' => e = .returned (.string (nm i)) ∧ w = w' := nameOf_any i w h

theorem vA_next {f g s : ByteArray} {k : Nat} (h : s = vA f g k) : (s.toList = [] → ¬ (nm k).toList = f.toList → ¬ (nm k).toList = g.toList → nm k = vA f g (k + 1)) ∧
    (¬ s.toList = [] → s = vA f g (k + 1)) ∧ ((nm k).toList = f.toList → s = vA f g (k + 1)) ∧ ((nm k).toList = g.toList → s = vA f g (k + 1)) := by
  subst h
  rw [vA]
  refine ⟨fun a b c => by rw [if_pos ⟨a, b, c⟩], fun a => by rw [if_neg (fun h => a h.1)], fun a => by rw [if_neg (fun h => h.2.1 a)], fun a => by rw [if_neg (fun h => h.2.2 a)]⟩

set_option maxRecDepth 100000 in
set_option maxHeartbeats 2000000 in
theorem lenB_any : ∀ (n : Nat) (f g : ByteArray) (w : World), n ≤ 100 → f.size ≤ 1 → g.size ≤ 1 →
    Calls Tryd.prog 115 #[.int .i64 (n : Int), .string f, .string g] w fun e w' => e = .returned (.string (longP n f g)) ∧ Below w.heap.size w w' := by
  intro n
  induction n using Nat.strongRecOn with
  | _ n ih =>
  intro f g w hn hf hg
  by_cases h0 : n = 0
  · subst h0
    have HR : Hid (longP 0 f g = ⟨#[116]⟩) := by show _ = _; rw [longP, dif_pos rfl]
    rw [HR.out]
    clear ih
    go_enter Tryd.func115, Tryd.ntmps115
    go_wp2_with fail
    go_ret
    exact ⟨rfl, Below.refl _ _⟩
  · have e1 : ((n : Int) == 0) = false := by simp; omega
    have HI := Lib.hid ih; clear ih
    go_enter Tryd.func115, Tryd.ntmps115
    go_wp2_with fail
    go_loop [7, 8, 9, 14] (fun v _ _ i => ∃ k : Nat, k ≤ 4 ∧ i = .int .i64 k ∧ ∃ s : ByteArray, v = .string s ∧ Hid (s = vA f g k)) (fun _ _ _ i => 4 - (intOf i).toNat)
    case atStart => exact ⟨0, by omega, rfl, _, rfl, rfl⟩
    case round =>
      obtain ⟨k, hk, rfl, s, rfl, HV⟩ := hrel
      by_cases hlt : k < 4
      · have HN := Lib.hid (vA_next HV.out)
        by_cases hs : s.toList = []
        · by_cases h1 : (nm k).toList = f.toList
          · have HE : Hid (s = vA f g (k + 1)) := HN.out.2.2.1 h1
            have b1 : ((nm k).toList == f.toList) = true := by rw [beq_iff_eq]; exact h1
            clear HN
            go_wp2_with fail
            refine (nameOf_nm k _ hlt).mono ?_; rintro e w' ⟨rfl, rfl⟩
            go_wp2_with fail
            go_round
            case rel => exact ⟨k + 1, by omega, by go_num, _, rfl, HE.out⟩
            case measure => simp [intOf]; omega
          · have b1 : ((nm k).toList == f.toList) = false := by rw [← Bool.not_eq_true, beq_iff_eq]; exact h1
            by_cases h2 : (nm k).toList = g.toList
            · have HE : Hid (s = vA f g (k + 1)) := HN.out.2.2.2 h2
              have hgf : ¬ g.toList = f.toList := fun e => h1 (h2.trans e)
              have bgf : (g.toList == f.toList) = false := by rw [← Bool.not_eq_true, beq_iff_eq]; exact hgf
              have b2 : ((nm k).toList == g.toList) = true := by rw [beq_iff_eq]; exact h2
              clear HN
              go_wp2_with fail
              refine (nameOf_nm k _ hlt).mono ?_; rintro e w' ⟨rfl, rfl⟩
              go_wp2_with fail
              go_round
              case rel => exact ⟨k + 1, by omega, by go_num, _, rfl, HE.out⟩
              case measure => simp [intOf]; omega
            · have HE : Hid (nm k = vA f g (k + 1)) := HN.out.1 hs h1 h2
              have b2 : ((nm k).toList == g.toList) = false := by rw [← Bool.not_eq_true, beq_iff_eq]; exact h2
              clear HN
              go_wp2_with fail
              refine (nameOf_nm k _ hlt).mono ?_; rintro e w' ⟨rfl, rfl⟩
              go_wp2_with fail
              go_round
              case rel => exact ⟨k + 1, by omega, by go_num, _, rfl, HE.out⟩
              case measure => simp [intOf]; omega
        · have HE : Hid (s = vA f g (k + 1)) := HN.out.2.1 hs
          clear HN
          go_wp2_with fail
          refine (nameOf_nm k _ hlt).mono ?_; rintro e w' ⟨rfl, rfl⟩
          go_wp2_with fail
          go_round
          case rel => exact ⟨k + 1, by omega, by go_num, _, rfl, HE.out⟩
          case measure => simp [intOf]; omega
      · have hk4 : k = 4 := by omega
        subst hk4
        have hz : s.size ≤ 1 := by rw [HV.out]; exact vA_size f g 4
        have HV' : Hid (s = vOf f g) := HV.out
        clear HV hlt
        obtain ⟨m1, hm1⟩ : ∃ m1, (n - 1) / 2 = m1 := ⟨_, rfl⟩
        have hk1 : ((n : Int) - 1) / 2 = (m1 : Int) := by omega
        obtain ⟨m2, hm2⟩ : ∃ m2, n - 1 - m1 = m2 := ⟨_, rfl⟩
        have hk2 : (n : Int) - 1 - (m1 : Int) = (m2 : Int) := by omega
        have HM : Hid (longP n f g = ⟨#[83]⟩ ++ s ++ joinP ⟨#[38]⟩ (textL (!f.toList.isEmpty) (⟨#[69]⟩ ++ f ++ s) ++ textL (!g.toList.isEmpty) (⟨#[69]⟩ ++ s ++ g) ++ (if m1 = 0 then [] else [longP m1 f s]) ++ (if m2 = 0 then [] else [longP m2 s g]))) := by
          show _ = _
          rw [longP, dif_neg h0, ← HV'.out, hm1, hm2]
        have HB : Hid (m1 < n ∧ m2 < n) := by show _ ∧ _; omega
        clear hm1 hm2
        go_upto_if 38 with fail
        have HS0 := Lib.hid (Strs.lit0 w)
        go_cut [10, 11, 14] (fun k v i wx => k = .int .i64 m1 ∧ i = .int .i64 4 ∧ Strs w wx v (textL (!f.toList.isEmpty) (⟨#[69]⟩ ++ f ++ s)))
        case first =>
          generalize hE : f.toList.isEmpty = bE at *
          cases bE
          · go_wp2_with (first | (at_builtin; refine wpList_app1 HS0.out (by decide) rfl (.tmp 39) (.tmp 44) rfl _ _ (by simp) rfl rfl ?_; intro v' w' hs'; have HS' := Lib.hid hs'; clear hs') | fail)
            go_meet
            exact ⟨rfl, rfl, HS'.out⟩
          · go_wp2_with fail
            go_meet
            exact ⟨rfl, rfl, HS0.out⟩
        case rest =>
          obtain ⟨rfl, rfl, hcut⟩ := hcut
          have HS1 := Lib.hid hcut; clear hcut
          have l1 := textL_length (!f.toList.isEmpty) (⟨#[69]⟩ ++ f ++ s)
          generalize textL (!f.toList.isEmpty) (⟨#[69]⟩ ++ f ++ s) = L1 at *
          go_upto_if 47 with fail
          go_cut [11] (fun v wx => Strs w wx v (L1 ++ textL (!g.toList.isEmpty) (⟨#[69]⟩ ++ s ++ g)))
          case first =>
            generalize hE : g.toList.isEmpty = bE at *
            cases bE
            · go_wp2_with (first | (at_builtin; refine wpList_app1 HS1.out (by omega) rfl (.tmp 48) (.tmp 53) rfl _ _ (by simp) rfl rfl ?_; intro v' w' hs'; have HS' := Lib.hid hs'; clear hs') | fail)
              go_meet
              exact HS'.out
            · go_wp2_with fail
              go_meet
              have h := HS1.out
              simp only [textL, Bool.not_true, Bool.false_eq_true, ↓reduceIte, List.append_nil]
              exact h
          case rest =>
            have HS2 := Lib.hid hcut; clear hcut HS1
            have l2 : (L1 ++ textL (!g.toList.isEmpty) (⟨#[69]⟩ ++ s ++ g)).length ≤ 2 := by
              have := textL_length (!g.toList.isEmpty) (⟨#[69]⟩ ++ s ++ g)
              rw [List.length_append]; omega
            generalize L1 ++ textL (!g.toList.isEmpty) (⟨#[69]⟩ ++ s ++ g) = L2 at *
            clear l1
            go_upto_if 56 with fail
            go_cut [11] (fun v wx => Strs w wx v (L2 ++ if m1 = 0 then [] else [longP m1 f s]))
            case first =>
              by_cases hm : m1 = 0
              · have em : ((m1 : Int) == 0) = true := by simp [hm]
                have hq := Lib.hid hm; clear hm
                go_wp2_with fail
                go_meet
                have h := HS2.out
                rw [if_pos hq.out, List.append_nil]
                exact h
              · have em : ((m1 : Int) == 0) = false := by simp; omega
                go_wp2_with fail
                refine (HI.out m1 HB.out.1 f s _ (by have := HB.out.1; omega) hf hz).mono ?_; rintro e w1 ⟨rfl, hb⟩
                have HS3 := Lib.hid (HS2.out.kept hb); clear hb
                go_wp2_with (first | (at_builtin; refine wpList_app1 HS3.out (by omega) rfl (.tmp 57) (.tmp 62) rfl _ _ (by simp) rfl rfl ?_; intro v' w' hs'; have HS' := Lib.hid hs'; clear hs') | fail)
                go_meet
                rw [if_neg hm]
                exact HS'.out
            case rest =>
              have HS3 := Lib.hid hcut; clear hcut HS2
              have l3 : (L2 ++ if m1 = 0 then [] else [longP m1 f s]).length ≤ 3 := by
                rw [List.length_append]
                by_cases hm : m1 = 0
                · rw [if_pos hm]; simp; omega
                · rw [if_neg hm]; simp; omega
              generalize (L2 ++ if m1 = 0 then [] else [longP m1 f s]) = L3 at *
              clear l2
              go_upto_if 68 with fail
              go_cut [11] (fun v wx => Strs w wx v (L3 ++ if m2 = 0 then [] else [longP m2 s g]))
              case first =>
                by_cases hm : m2 = 0
                · have em : ((m2 : Int) == 0) = true := by simp [hm]
                  have hq := Lib.hid hm; clear hm
                  go_wp2_with fail
                  go_meet
                  have h := HS3.out
                  rw [if_pos hq.out, List.append_nil]
                  exact h
                · have em : ((m2 : Int) == 0) = false := by simp; omega
                  go_wp2_with fail
                  refine (HI.out m2 HB.out.2 s g _ (by have := HB.out.2; omega) hz hg).mono ?_; rintro e w1 ⟨rfl, hb⟩
                  have HS4 := Lib.hid (HS3.out.kept hb); clear hb
                  go_wp2_with (first | (at_builtin; refine wpList_app1 HS4.out (by omega) rfl (.tmp 69) (.tmp 77) rfl _ _ (by simp) rfl rfl ?_; intro v' w' hs'; have HS' := Lib.hid hs'; clear hs') | fail)
                  go_meet
                  rw [if_neg hm]
                  exact HS'.out
              case rest =>
                have HS4 := Lib.hid hcut; clear hcut HS3
                have l4 : (L3 ++ if m2 = 0 then [] else [longP m2 s g]).length ≤ 4 := by
                  rw [List.length_append]
                  by_cases hm : m2 = 0
                  · rw [if_pos hm]; simp; omega
                  · rw [if_neg hm]; simp; omega
                generalize (L3 ++ if m2 = 0 then [] else [longP m2 s g]) = L4 at *
                clear l3
                have hjz : (joinP ⟨#[38]⟩ L4).size ≤ 2000 := by
                  have h1 := (longP_size n f g hf hg).1
                  rw [HM.out, ByteArray.size_append] at h1
                  omega
                have hsz : sumL L4 ≤ 1000000 := by
                  by_cases h : 0 < L4.length
                  · have := joinP_size ⟨#[38]⟩ L4 rfl h
                    omega
                  · have : L4 = [] := List.eq_nil_of_length_eq_zero (by omega)
                    rw [this]; exact Nat.zero_le _
                obtain ⟨gg, cap, rfl, hg1, hg2, hlc, hcm, hcc⟩ := HS4.out.cells
                have HC := Lib.hid hcc; clear hcc
                go_wp2_with fail
                refine (joined_any ⟨#[38]⟩ L4 gg cap _ (by decide) (by omega) hsz hlc hcm HC.out).mono ?_; rintro e w2 ⟨rfl, rfl⟩
                generalize joinP ⟨#[38]⟩ L4 = J at *
                go_wp2_with fail
                go_ret
                exact ⟨congrArg (fun s => Ending.returned (.string s)) HM.out.symm, HS4.out.old⟩
end Go.Proofs.YtenjojakjdaamaaDoor

/- Sentences of lengths: l13Longer of the reference; LengthSentence; the law FnExactLengthSentence: it returns true. No condition but that the integers fit their kind. -/
import Derived.Test.YtenjojakjdaamaaDoorLong2
namespace Go.Proofs.YtenjojakjdaamaaDoor
open Go.RowKit
set_option linter.unusedVariables false

theorem vA_done {f g : ByteArray} {k : Nat} (hk : k < 4) (h : vA f g k = ByteArray.empty) (h1 : ¬ (nm k).toList = f.toList) (h2 : ¬ (nm k).toList = g.toList) : nm k = vOf f g := by
  have e : vA f g (k + 1) = nm k := by rw [vA, if_pos ⟨by rw [h, ByteArray.toList_eq]; rfl, h1, h2⟩]
  have hs := vA_stay f g (k + 1) (3 - k) (by rw [e, nm_toList]; simp)
  rw [show k + 1 + (3 - k) = 4 by omega, e] at hs
  exact hs.symm
theorem vA_skip {f g : ByteArray} {k : Nat} (h : vA f g k = ByteArray.empty) (h1 : (nm k).toList = f.toList ∨ (nm k).toList = g.toList) : vA f g (k + 1) = ByteArray.empty := by
  rw [vA, if_neg (fun h' => h1.elim h'.2.1 h'.2.2)]
  exact h

set_option maxRecDepth 100000 in
set_option maxHeartbeats 2000000 in
theorem longer_any : ∀ (n : Nat) (f g : ByteArray) (w : World), n ≤ 100 → f.size ≤ 1 → g.size ≤ 1 →
    Calls Tryd.prog 116 #[.int .i64 (n : Int), .string f, .string g] w fun e w' => e = .returned (.string (longP n f g)) ∧ Below w.heap.size w w' := by
  intro n
  induction n using Nat.strongRecOn with
  | _ n ih =>
  intro f g w hn hf hg
  by_cases h0 : n = 0
  · subst h0
    have HR : Hid (longP 0 f g = ⟨#[116]⟩) := by show _ = _; rw [longP, dif_pos rfl]
    rw [HR.out]
    clear ih
    go_enter Tryd.func116, Tryd.ntmps116
    go_wp2_with fail
    go_ret
    exact ⟨rfl, Below.refl _ _⟩
  · have e1 : ((n : Int) == 0) = false := by simp; omega
    have HI := Lib.hid ih; clear ih
    go_enter Tryd.func116, Tryd.ntmps116
    go_wp2_with fail
    go_loopw [7, 8, 9] (fun v i _ wr => wr = w ∧ v = .string ⟨#[97]⟩ ∧ ∃ k : Nat, k ≤ 4 ∧ i = .int .i64 k ∧ Hid (vA f g k = ByteArray.empty)) (fun _ i _ _ => 4 - (intOf i).toNat)
    case atStart => exact ⟨rfl, rfl, 0, by omega, rfl, rfl⟩
    case round =>
      obtain ⟨rfl, rfl, k, hk, rfl, HV⟩ := hrel
      by_cases hlt : k < 4
      · go_upto_region 7 with fail
        go_cut [9] from 14 to 30 (fun v wx => v = .string (nm k) ∧ wr = wx)
        case first =>
          rcases (show k = 0 ∨ k = 1 ∨ k = 2 ∨ k = 3 by omega) with rfl | rfl | rfl | rfl
          all_goals
            go_wp2_with fail
            go_meet
            exact ⟨rfl, rfl⟩
        case rest =>
          obtain ⟨rfl, rfl⟩ := hcut
          by_cases h1 : (nm k).toList = f.toList
          · have b1 : ((nm k).toList == f.toList) = true := by rw [beq_iff_eq]; exact h1
            have HE : Hid (vA f g (k + 1) = ByteArray.empty) := vA_skip HV.out (.inl h1)
            go_wp2_with fail
            go_roundw
            case rel => exact ⟨by trivial, by trivial, k + 1, by omega, by go_num, HE.out⟩
            case measure => simp [intOf]; omega
          · have b1 : ((nm k).toList == f.toList) = false := by rw [← Bool.not_eq_true, beq_iff_eq]; exact h1
            by_cases h2 : (nm k).toList = g.toList
            · have b2 : ((nm k).toList == g.toList) = true := by rw [beq_iff_eq]; exact h2
              have HE : Hid (vA f g (k + 1) = ByteArray.empty) := vA_skip HV.out (.inr h2)
              have hgf : ¬ g.toList = f.toList := fun e => h1 (h2.trans e)
              have bgf : (g.toList == f.toList) = false := by rw [← Bool.not_eq_true, beq_iff_eq]; exact hgf
              go_wp2_with fail
              go_roundw
              case rel => exact ⟨by trivial, by trivial, k + 1, by omega, by go_num, HE.out⟩
              case measure => simp [intOf]; omega
            · have b2 : ((nm k).toList == g.toList) = false := by rw [← Bool.not_eq_true, beq_iff_eq]; exact h2
              have HE : Hid (nm k = vOf f g) := vA_done hlt HV.out h1 h2
              have hz : (nm k).size ≤ 1 := Nat.le_refl _
              generalize nm k = s at *
              have HV' := HE
              clear HE
              obtain ⟨m1, hm1⟩ : ∃ m1, (n - 1) / 2 = m1 := ⟨_, rfl⟩
              have hk1 : ((n : Int) - 1) / 2 = (m1 : Int) := by omega
              obtain ⟨m2, hm2⟩ : ∃ m2, n - 1 - m1 = m2 := ⟨_, rfl⟩
              have hk2 : (n : Int) - 1 - (m1 : Int) = (m2 : Int) := by omega
              have HM : Hid (longP n f g = ⟨#[83]⟩ ++ s ++ joinP ⟨#[38]⟩ (textL (!f.toList.isEmpty) (⟨#[69]⟩ ++ f ++ s) ++ textL (!g.toList.isEmpty) (⟨#[69]⟩ ++ s ++ g) ++ (if m1 = 0 then [] else [longP m1 f s]) ++ (if m2 = 0 then [] else [longP m2 s g]))) := by
                show _ = _
                rw [longP, dif_neg h0, ← HV'.out, hm1, hm2]
              have HB : Hid (m1 < n ∧ m2 < n) := by show _ ∧ _; omega
              clear hm1 hm2
              go_upto_if 33 with fail
              have HS0 := Lib.hid (Strs.lit0 wr)
              go_cut [10] (fun v wx => Strs wr wx v (textL (!f.toList.isEmpty) (⟨#[69]⟩ ++ f ++ s)))
              case first =>
                generalize hE : f.toList.isEmpty = bE at *
                cases bE
                · go_wp2_with (first | (at_builtin; refine wpList_app1 HS0.out (by decide) rfl (.tmp 34) (.tmp 39) rfl _ _ (by simp) rfl rfl ?_; intro v' w' hs'; have HS' := Lib.hid hs'; clear hs') | fail)
                  go_meet
                  exact HS'.out
                · go_wp2_with fail
                  go_meet
                  exact HS0.out
              case rest =>
                have HS1 := Lib.hid hcut; clear hcut
                have l1 := textL_length (!f.toList.isEmpty) (⟨#[69]⟩ ++ f ++ s)
                generalize textL (!f.toList.isEmpty) (⟨#[69]⟩ ++ f ++ s) = L1 at *
                go_upto_if 42 with fail
                go_cut [10] (fun v wx => Strs wr wx v (L1 ++ textL (!g.toList.isEmpty) (⟨#[69]⟩ ++ s ++ g)))
                case first =>
                  generalize hE : g.toList.isEmpty = bE at *
                  cases bE
                  · go_wp2_with (first | (at_builtin; refine wpList_app1 HS1.out (by omega) rfl (.tmp 43) (.tmp 48) rfl _ _ (by simp) rfl rfl ?_; intro v' w' hs'; have HS' := Lib.hid hs'; clear hs') | fail)
                    go_meet
                    exact HS'.out
                  · go_wp2_with fail
                    go_meet
                    have h := HS1.out
                    simp only [textL, Bool.not_true, Bool.false_eq_true, ↓reduceIte, List.append_nil]
                    exact h
                case rest =>
                  have HS2 := Lib.hid hcut; clear hcut HS1
                  have l2 : (L1 ++ textL (!g.toList.isEmpty) (⟨#[69]⟩ ++ s ++ g)).length ≤ 2 := by
                    have := textL_length (!g.toList.isEmpty) (⟨#[69]⟩ ++ s ++ g)
                    rw [List.length_append]; omega
                  generalize L1 ++ textL (!g.toList.isEmpty) (⟨#[69]⟩ ++ s ++ g) = L2 at *
                  clear l1
                  go_upto_if 54 with fail
                  go_cut [10, 11] (fun v k wx => k = .int .i64 m1 ∧ Strs wr wx v (L2 ++ if m1 = 0 then [] else [longP m1 f s]))
                  case first =>
                    by_cases hm : m1 = 0
                    · have em : ¬ (0 : Int) < (m1 : Int) := by omega
                      have hq := Lib.hid hm; clear hm
                      go_wp2_with fail
                      go_meet
                      have h := HS2.out
                      rw [if_pos hq.out, List.append_nil]
                      exact ⟨rfl, h⟩
                    · have em : (0 : Int) < (m1 : Int) := by omega
                      go_wp2_with fail
                      refine (HI.out m1 HB.out.1 f s _ (by have := HB.out.1; omega) hf hz).mono ?_; rintro e w1 ⟨rfl, hb⟩
                      have HS3 := Lib.hid (HS2.out.kept hb); clear hb
                      go_wp2_with (first | (at_builtin; refine wpList_app1 HS3.out (by omega) rfl (.tmp 55) (.tmp 60) rfl _ _ (by simp) rfl rfl ?_; intro v' w' hs'; have HS' := Lib.hid hs'; clear hs') | fail)
                      go_meet
                      rw [if_neg hm]
                      exact ⟨rfl, HS'.out⟩
                  case rest =>
                    obtain ⟨rfl, hcut⟩ := hcut
                    have HS3 := Lib.hid hcut; clear hcut HS2
                    have l3 : (L2 ++ if m1 = 0 then [] else [longP m1 f s]).length ≤ 3 := by
                      rw [List.length_append]
                      by_cases hm : m1 = 0
                      · rw [if_pos hm]; simp; omega
                      · rw [if_neg hm]; simp; omega
                    generalize (L2 ++ if m1 = 0 then [] else [longP m1 f s]) = L3 at *
                    clear l2
                    go_upto_if 66 with fail
                    go_cut [10] (fun v wx => Strs wr wx v (L3 ++ if m2 = 0 then [] else [longP m2 s g]))
                    case first =>
                      by_cases hm : m2 = 0
                      · have em : ¬ (0 : Int) < (m2 : Int) := by omega
                        have hq := Lib.hid hm; clear hm
                        go_wp2_with fail
                        go_meet
                        have h := HS3.out
                        rw [if_pos hq.out, List.append_nil]
                        exact h
                      · have em : (0 : Int) < (m2 : Int) := by omega
                        go_wp2_with fail
                        refine (HI.out m2 HB.out.2 s g _ (by have := HB.out.2; omega) hz hg).mono ?_; rintro e w1 ⟨rfl, hb⟩
                        have HS4 := Lib.hid (HS3.out.kept hb); clear hb
                        go_wp2_with (first | (at_builtin; refine wpList_app1 HS4.out (by omega) rfl (.tmp 67) (.tmp 75) rfl _ _ (by simp) rfl rfl ?_; intro v' w' hs'; have HS' := Lib.hid hs'; clear hs') | fail)
                        go_meet
                        rw [if_neg hm]
                        exact HS'.out
                    case rest =>
                      have HS4 := Lib.hid hcut; clear hcut HS3
                      have l4 : (L3 ++ if m2 = 0 then [] else [longP m2 s g]).length ≤ 4 := by
                        rw [List.length_append]
                        by_cases hm : m2 = 0
                        · rw [if_pos hm]; simp; omega
                        · rw [if_neg hm]; simp; omega
                      generalize (L3 ++ if m2 = 0 then [] else [longP m2 s g]) = L4 at *
                      clear l3
                      have hjz : (joinP ⟨#[38]⟩ L4).size ≤ 2000 := by
                        have h1 := (longP_size n f g hf hg).1
                        rw [HM.out, ByteArray.size_append] at h1
                        omega
                      have hsz : sumL L4 ≤ 1000000 := by
                        by_cases h : 0 < L4.length
                        · have := joinP_size ⟨#[38]⟩ L4 rfl h
                          omega
                        · have : L4 = [] := List.eq_nil_of_length_eq_zero (by omega)
                          rw [this]; exact Nat.zero_le _
                      obtain ⟨gg, cap, rfl, hg1, hg2, hlc, hcm, hcc⟩ := HS4.out.cells
                      have HC := Lib.hid hcc; clear hcc
                      go_wp2_with fail
                      refine (l2Join_any ⟨#[38]⟩ L4 gg cap _ rfl (.inl rfl) (by omega) hsz hlc hcm HC.out).mono ?_; rintro e w2 ⟨rfl, hb⟩
                      have HB2 := Lib.hid (HS4.out.old.trans (hb.mono HS4.out.old.size)); clear hb
                      generalize joinP ⟨#[38]⟩ L4 = J at *
                      go_wp2_with fail
                      go_ret
                      exact ⟨congrArg (fun s => Ending.returned (.string s)) HM.out.symm, HB2.out⟩
      · exfalso
        have hk4 : k = 4 := by omega
        subst hk4
        exact vOf_some f g HV.out
end Go.Proofs.YtenjojakjdaamaaDoor

/- The walk of the law FnPowers: it returns true. Condition: the bytes are readable. -/
import Derived.Test.YtagnikcnakdehaaDoorPowP
import Derived.Test.YtagnikcnakdehaaDoorPower
import Derived.Test.YtagnikcnakdehaaDoorDrawW
import Derived.Test.YtagnikcnakdehaaDoorWLaw1
namespace Go.Proofs.YtagnikcnakdehaaDoor
open Go.RowKit
set_option linter.unusedVariables false

theorem rep_xy {s : ByteArray} (h : s.data.toList.all isXY = true) : ∀ n, (rep s n).data.toList.all isXY = true
  | 0 => rfl
  | n + 1 => by
    show (s ++ rep s n).data.toList.all isXY = true
    simp only [ByteArray.data_append, Array.toList_append, List.all_append, h, rep_xy h n]; rfl
theorem wordB_rep {s : ByteArray} {j : Nat} (h : wordB s = true) (hj : 1 ≤ j) (hm : j * s.size ≤ 8) : wordB (rep s j) = true := by
  have hs := wordB_size' h
  have h1 : 1 * 1 ≤ j * s.size := Nat.mul_le_mul hj (by omega)
  simp only [wordB, Bool.and_eq_true, inB_iff] at h ⊢
  rw [rep_size]
  generalize j * s.size = z at *
  exact ⟨by omega, rep_xy h.2 j⟩
/-- What the law asks of the number P of a word's powers. -/
structure PowFacts (s : ByteArray) (k m : Nat) (P : Int) : Prop where
  m1 : 1 ≤ m
  m8 : m ≤ 8
  word : ∀ j, j < m → wordB (rep s (j + 1)) = true
  kind : (P = -1 ∧ m < max (2 ^ k) 2 ∧ (m < 2 ∨ likeW k (rep s m) (rep s (m - 1)) = false)) ∨
    ∃ n : Nat, P = n ∧ 1 ≤ n ∧ n < m ∧ n ≤ max (2 ^ k - 1) 1 ∧ (∀ j, n ≤ j → j < m → likeW k (rep s j) (rep s (j + 1)) = true) ∧ (n = 1 ∨ likeW k (rep s (n - 1)) (rep s n) = false)
theorem powFacts {s : ByteArray} {k : Nat} (h : wordB s = true) (hk : k ≤ 2) : PowFacts s k (8 / s.size) (powRes s k) := by
  have hs := wordB_size' h
  have m1 : 1 ≤ 8 / s.size := (Nat.le_div_iff_mul_le (by omega)).2 (by omega)
  have m8 : 8 / s.size ≤ 8 := Nat.div_le_self _ _
  have mm : 8 / s.size * s.size ≤ 8 := Nat.div_mul_le_self _ _
  have hp : powRes s k = (if 8 / s.size - 1 - stopN (adjB s k) (8 / s.size - 1) < 1 then -1 else (stopN (adjB s k) (8 / s.size - 1) : Int) + 1) := by
    unfold powRes
    rw [h, inB_true (by omega) (by omega), Int.toNat_natCast]; rfl
  rw [hp]
  generalize 8 / s.size = m at *
  have hN : 1 ≤ 2 ^ k := Nat.one_le_two_pow
  have hle := stopN_le (adjB s k) (m - 1)
  have hb := stopN_bound (f := adjB s k) (c := 2 ^ k - 2) (n := m - 1) (fun j h1 _ => adjB_up s k j (by omega))
  have hup : ∀ j, stopN (adjB s k) (m - 1) ≤ j → j < m - 1 → adjB s k j = true := fun j h1 h2 => stopN_up h1 h2
  have hdn : 0 < stopN (adjB s k) (m - 1) → adjB s k (stopN (adjB s k) (m - 1) - 1) = false := fun h => stopN_down h
  generalize stopN (adjB s k) (m - 1) = st at *
  refine ⟨m1, m8, fun j hj => wordB_rep h (by omega) (Nat.le_trans (Nat.mul_le_mul_right _ (show j + 1 ≤ m by omega)) mm), ?_⟩
  by_cases hc : m - 1 - st < 1
  · rw [if_pos hc]
    refine .inl ⟨rfl, by omega, ?_⟩
    by_cases h2 : m < 2
    · exact .inl h2
    · right
      have hst : st = m - 1 := by omega
      have h3 := hdn (by omega)
      obtain ⟨l, rfl⟩ : ∃ l, m = l + 2 := ⟨m - 2, by omega⟩
      have e : st - 1 = l := by omega
      rw [e] at h3
      rw [like_comm]
      exact h3
  · rw [if_neg hc]
    refine .inr ⟨st + 1, by omega, by omega, by omega, by omega, fun j h1 h2 => ?_, ?_⟩
    · obtain ⟨l, rfl⟩ : ∃ l, j = l + 1 := ⟨j - 1, by omega⟩
      exact hup l (by omega) (by omega)
    · by_cases h0 : st = 0
      · left; omega
      · right
        have h3 := hdn (by omega)
        obtain ⟨l, rfl⟩ : ∃ l, st = l + 1 := ⟨st - 1, by omega⟩
        exact h3

set_option maxRecDepth 100000 in
set_option maxHeartbeats 1000000 in
theorem fnPowers_walk (a0 : Option Addr) (len0 cap0 : Nat) (z0 : List Int) (w : World) (w0 : IsRow .u8 w a0 len0 cap0 z0) :
    Calls Tryd.prog 4 #[.slice a0 len0 cap0] w fun e w' => e = .returned (.bool true) ∧ Below w.heap.size w w' := by
  have m0 := w0.len_le
  unfold maxLen at m0
  have W0 := Lib.hid w0; clear w0
  by_cases l0 : (len0 : Int) ≤ 1048576
  · go_enter Tryd.func4, Tryd.ntmps4
    go_wp2_with fail
    refine (DrawPowerStops_any _ _ _ _ _ W0.out).mono ?_; rintro e w1 ⟨t, n, ht, rfl, hb⟩
    have HB1 := Lib.hid hb; clear hb
    have hT : t.size ≤ 9223372036854775807 := by omega
    have HI := Lib.hid (fun w => implPower_any t n w hT)
    have HS := Lib.hid (fun w => specPower_any t n w hT)
    by_cases hok : wordB t = true ∧ inB n 0 2 = true
    · obtain ⟨hw, hn⟩ := hok
      have hn2 := inB_iff.1 hn
      obtain ⟨k, rfl⟩ := Int.eq_ofNat_of_zero_le hn2.1
      have hk : k ≤ 2 := by omega
      have HPF := Lib.hid (powFacts hw hk)
      have ht1 := wordB_size' hw
      obtain ⟨P, hP⟩ : ∃ P, powRes t (k : Int) = P := ⟨_, rfl⟩
      rw [hP] at HI HS HPF
      have hp2 : (P == -2) = false := by
        rcases HPF.out.kind with ⟨h, _⟩ | ⟨p, h, _⟩ <;> (rw [h]; simp <;> omega)
      have HD := Lib.hid (fun i (h1 : i * t.size ≤ 8) (h2 : 8 < (i + 1) * t.size) => div_is (n := t.size) (m := i) (by omega) h1 h2)
      clear hw hn hn2 hP
      go_wp2_with fail
      refine (HI.out _).mono ?_; rintro e w2 ⟨rfl, hb⟩
      have HB2 := Lib.hid (HB1.out.trans (hb.mono HB1.out.size)); clear hb
      go_wp2_with fail
      refine (HS.out _).mono ?_; rintro e w3 ⟨rfl, hb⟩
      have HB3 := Lib.hid (HB2.out.trans (hb.mono HB2.out.size)); clear hb
      go_wp2_with fail
      have HS0 := Lib.hid (Strs.lit0 w3)
      go_loopw [6, 7] (fun v p wr => ∃ (i : Nat) (P : ByteArray), p = .string P ∧ P.size ≤ 24 ∧ Hid (P = rep t (i + 1)) ∧ Hid (i * t.size ≤ 8) ∧ Hid (Strs w3 wr v (pows t i))) (fun _ p _ => 100 - txtLen p)
      case atStart =>
        refine ⟨0, t, rfl, by omega, ?_, ?_, HS0.out⟩
        · show t = t ++ ByteArray.empty
          rw [ba_nil]
        · show 0 * t.size ≤ 8
          omega
      case round =>
        obtain ⟨i, Q, rfl, hQ, HQ, HI8, HST⟩ := hrel
        by_cases hlt : (Q.size : Int) ≤ 8
        · have HL : Hid ((pows t i).length ≤ 2000000) := by
            show _ ≤ _
            rw [pows_length]
            have h1 := HI8.out
            have h2 : i * 1 ≤ i * t.size := Nat.mul_le_mul_left _ ht1.1
            omega
          have HN : Hid (Q ++ t = rep t (i + 1 + 1)) := by show _ = _; rw [HQ.out, rep_snoc]
          have HI9 : Hid ((i + 1) * t.size ≤ 8) := by
            show _ ≤ _
            have h1 := congrArg ByteArray.size HQ.out
            rw [rep_size] at h1
            omega
          go_wp2_with (first | (at_builtin; refine wpList_app1 HST.out HL.out rfl (.tmp 43) (.tmp 45) rfl _ _ rfl rfl rfl ?_; intro v' w' hs'; have HS' := Lib.hid hs'; clear hs') | fail)
          go_roundw
          case rel =>
            refine ⟨i + 1, Q ++ t, rfl, ?_, HN.out, HI9.out, ?_⟩
            · rw [ByteArray.size_append]; omega
            · have h := HS'.out
              rw [HQ.out] at h
              show Strs w3 w' v' (pows t (i + 1))
              rw [pows_succ]; exact h
          case measure => simp [txtLen]; omega
        · have hM : 8 / t.size = i := HD.out i HI8.out (by
            have h1 := congrArg ByteArray.size HQ.out
            rw [rep_size] at h1
            omega)
          rw [hM] at HPF
          have hi1 := HPF.out.m1
          have hi8 := HPF.out.m8
          obtain ⟨g, cap, rfl, hg1, hg2, hc1, hc2, hcell⟩ := HST.out.cells
          have HCL : Hid (∀ j, j < i → wr.cell? ⟨g, j, none⟩ = some (.string (rep t (j + 1)))) := fun j hj => by
            have h1 : j < (pows t i).length := by rw [pows_length]; omega
            rw [hcell j h1, pows_at]
          have HOW : Hid (Below w.heap.size w wr) := HB3.out.trans (HST.out.old.mono HB3.out.size)
          have HZ : Hid (∀ j, j < i → (rep t (j + 1)).size ≤ 9223372036854775807) := fun j hj => by have := wordB_size' (HPF.out.word j hj); omega
          have HSW : Hid (∀ j l, j < i → l < i → ∀ w, Calls Tryd.prog 20 #[.string (rep t (j + 1)), .string (rep t (l + 1)), .int .i64 (k : Int)] w fun e w' => e = .returned (.bool (likeW k (rep t (j + 1)) (rep t (l + 1)))) ∧ Below w.heap.size w w') := fun j l hj hl w => by
            have h := implSameWords_any (rep t (j + 1)) (rep t (l + 1)) (k : Int) w (HZ.out j hj) (HZ.out l hl)
            rw [sameB_yes (HPF.out.word j hj) (HPF.out.word l hl) (by omega)] at h
            exact h
          unfold maxLen at hc2
          rw [pows_length] at hc1 ⊢
          obtain ⟨wo, rfl⟩ : ∃ wo : World, wo = wr := ⟨_, rfl⟩
          obtain ⟨N, hN⟩ : ∃ N, 2 ^ k = N := ⟨_, rfl⟩
          have hN1 : 1 ≤ N := by rw [← hN]; exact Nat.one_le_two_pow
          have hN2 : N ≤ 4 := by rw [← hN]; exact Nat.pow_le_pow_right (show 0 < 2 by decide) hk
          have hsh : IntKind.i64.wrap (2 ^ k) = (N : Int) := by
            rw [show (2 : Int) ^ k = ((2 ^ k : Nat) : Int) by simp, hN]
            exact IntWalk.i64_in _ (by omega)
          have hk2 : (k : Int) ≤ 2 := by omega
          have hk0 : (0 : Int) ≤ (k : Int) := by omega
          have hcv : IntKind.u64.wrap (k : Int) = k := IntWalk.u64_in _ (by omega)
          have htn : (k : Int).toNat = k := by omega
          have hNm : IntKind.i64.wrap ((N : Int) - 1) = (N : Int) - 1 := IntWalk.i64_in _ (by omega)
          have HK := Lib.hid HPF.out.kind
          have hk3 := HPF.out.kind
          rw [hN] at hk3
          clear hcell HST HQ hM HPF HS0 HZ hN HK
          have hiI : (1 : Int) ≤ (i : Int) := by omega
          rcases hk3 with ⟨rfl, hm, hl⟩ | ⟨p, rfl, hp1, hpm, hpN, hup, hdn⟩
          · have hge : ¬ (max (N : Int) 2 ≤ (i : Int)) := by omega
            clear hm
            by_cases hi2 : i < 2
            · have hi2I : (i : Int) < 2 := by omega
              go_wp2_with fail
              refine wp_region_since (by kernel_rfl) (by kernel_rfl) ?_
              repeat (go_big_quiet_step (fail))
              refine wpQuiet_nil ?_
              intro w5 hb2
              have HB5 := Lib.hid (HOW.out.trans (hb2.mono HOW.out.size))
              clear hb2
              go_wp2_with fail
              go_ret
              exact ⟨rfl, HB5.out⟩
            · obtain ⟨l, rfl⟩ : ∃ l, i = l + 2 := ⟨i - 2, by omega⟩
              have hlk : likeW k (rep t (l + 1 + 1)) (rep t (l + 1)) = false := by
                rcases hl with h | h
                · exact absurd h hi2
                · exact h
              have d1 := HCL.out (l + 1) (by omega)
              have d2 := HCL.out l (by omega)
              have HC := Lib.hid (HSW.out (l + 1) l (by omega) (by omega))
              rw [hlk] at HC
              generalize rep t (l + 1 + 1) = x1 at *
              generalize rep t (l + 1) = x2 at *
              have hw1 : IntKind.i64.wrap ((l : Int) + 2 - 1) = (l : Int) + 1 := by
                rw [show (l : Int) + 2 - 1 = (l : Int) + 1 by omega]; exact IntWalk.i64_in _ (by omega)
              have hw2 : IntKind.i64.wrap ((l : Int) + 2 - 2) = (l : Int) := by
                rw [show (l : Int) + 2 - 2 = (l : Int) by omega]; exact IntWalk.i64_in _ (by omega)
              have hw3 : IntKind.i64.wrap (l : Int) = (l : Int) := IntWalk.i64_in _ (by omega)
              have hl2 : decide ((l : Int) + 2 < 2) = false := decide_eq_false (by omega)
              have hl0 : (0 : Int) ≤ (l : Int) := by omega
              clear hl hlk HCL HSW
              go_wp2_with fail
              have f1 := fun s => Since.cell d1 s
              have f2 := fun s => Since.cell d2 s
              refine wp_region_since (by kernel_rfl) (by kernel_rfl) ?_
              repeat (go_big_quiet_step ((with_reducible exact Since.call (HC.out _))))
              refine wpQuiet_nil ?_
              intro w5 hb2
              have HB5 := Lib.hid (HOW.out.trans (hb2.mono HOW.out.size))
              clear hb2 f1 f2
              go_wp2_with fail
              go_ret
              exact ⟨rfl, HB5.out⟩
          · have hp1I : ¬ ((p : Int) < 1) := by omega
            have hpNI : ¬ (max ((N : Int) - 1) 1 < (p : Int)) := by omega
            have hpe : ((p : Int) == -1) = false := by simp <;> omega
            have hpi : (p : Int) < (i : Int) := by omega
            have HDN := Lib.hid hdn
            have HUP := Lib.hid hup
            clear hdn hup hpN
            by_cases hge : max (N : Int) 2 ≤ (i : Int)
            · go_wp2_with fail
              go_loopw [9] (fun q wr => ∃ j : Nat, p ≤ j ∧ j ≤ i ∧ q = .int .i64 j ∧ Hid (Below wo.heap.size wo wr)) (fun q _ => i - (intOf q).toNat)
              case atStart => exact ⟨p, Nat.le_refl _, by omega, rfl, Below.refl _ _⟩
              case round =>
                obtain ⟨j, hpj, hj, rfl, HBW⟩ := hrel
                by_cases hji : j < i
                · obtain ⟨l, rfl⟩ : ∃ l, j = l + 1 := ⟨j - 1, by omega⟩
                  have d1 := (HBW.out.cell (p := ⟨g, l, none⟩) hg2).trans (HCL.out l (by omega))
                  have d2 := (HBW.out.cell (p := ⟨g, l + 1, none⟩) hg2).trans (HCL.out (l + 1) hji)
                  have HC := Lib.hid (HSW.out l (l + 1) (by omega) hji)
                  rw [HUP.out (l + 1) hpj hji] at HC
                  generalize rep t (l + 1 + 1) = x1 at *
                  generalize rep t (l + 1) = x2 at *
                  have hw1 : IntKind.i64.wrap ((l : Int) + 1 - 1) = (l : Int) := by
                    rw [show (l : Int) + 1 - 1 = (l : Int) by omega]; exact IntWalk.i64_in _ (by omega)
                  have hw3 : IntKind.i64.wrap (l : Int) = (l : Int) := IntWalk.i64_in _ (by omega)
                  have hl0 : (0 : Int) ≤ (l : Int) := by omega
                  have hli : (l : Int) + 1 < (i : Int) := by omega
                  go_wp2_with fail
                  have f1 := fun s => Since.cell d1 s
                  have f2 := fun s => Since.cell d2 s
                  refine wp_region_since (by kernel_rfl) (by kernel_rfl) ?_
                  repeat (go_big_quiet_step ((with_reducible exact Since.call (HC.out _))))
                  refine wpQuiet_nil ?_
                  intro w5 hb2
                  have HB5 := Lib.hid (HBW.out.trans (hb2.mono HBW.out.size))
                  clear hb2 f1 f2
                  go_wp2_with fail
                  go_roundw
                  case rel => exact ⟨l + 1 + 1, by omega, by omega, by go_num, HB5.out⟩
                  case measure => simp [intOf]; omega
                · have hjI : ¬ (j : Int) < (i : Int) := by omega
                  clear HUP
                  by_cases hp2 : p = 1
                  · subst hp2
                    have h1i : (1 : Int) < (i : Int) := by omega
                    have h1d : decide ((1 : Int) < (i : Int)) = true := decide_eq_true h1i
                    go_wp2_with fail
                    refine wp_region_since (by kernel_rfl) (by kernel_rfl) ?_
                    repeat (go_big_quiet_step (fail))
                    refine wpQuiet_nil ?_
                    intro w5 hb2
                    have HB5 := Lib.hid (HOW.out.trans ((HBW.out.trans (hb2.mono HBW.out.size)).mono HOW.out.size))
                    clear hb2
                    go_wp2_with fail
                    go_ret
                    exact ⟨rfl, HB5.out⟩
                  · obtain ⟨l, rfl⟩ : ∃ l, p = l + 2 := ⟨p - 2, by omega⟩
                    have hlk : likeW k (rep t (l + 1)) (rep t (l + 1 + 1)) = false := by
                      rcases HDN.out with h | h
                      · exact absurd h hp2
                      · exact h
                    have d1 := (HBW.out.cell (p := ⟨g, l, none⟩) hg2).trans (HCL.out l (by omega))
                    have d2 := (HBW.out.cell (p := ⟨g, l + 1, none⟩) hg2).trans (HCL.out (l + 1) (by omega))
                    have HC := Lib.hid (HSW.out l (l + 1) (by omega) (by omega))
                    rw [hlk] at HC
                    generalize rep t (l + 1 + 1) = x1 at *
                    generalize rep t (l + 1) = x2 at *
                    have hw1 : IntKind.i64.wrap ((l : Int) + 2 - 1) = (l : Int) + 1 := by
                      rw [show (l : Int) + 2 - 1 = (l : Int) + 1 by omega]; exact IntWalk.i64_in _ (by omega)
                    have hw2 : IntKind.i64.wrap ((l : Int) + 2 - 2) = (l : Int) := by
                      rw [show (l : Int) + 2 - 2 = (l : Int) by omega]; exact IntWalk.i64_in _ (by omega)
                    have hw3 : IntKind.i64.wrap (l : Int) = (l : Int) := IntWalk.i64_in _ (by omega)
                    have hpl : ((l : Int) + 2 == 1) = false := by simp <;> omega
                    have hl0 : (0 : Int) ≤ (l : Int) := by omega
                    have hli : (l : Int) + 1 < (i : Int) := by omega
                    have hli2 : (l : Int) < (i : Int) := by omega
                    have hli3 : (l : Int) + 2 < (i : Int) := by omega
                    have hli4 : decide ((l : Int) + 2 < (i : Int)) = true := decide_eq_true hli3
                    clear hlk HCL HSW HDN hp2
                    go_wp2_with fail
                    have f1 := fun s => Since.cell d1 s
                    have f2 := fun s => Since.cell d2 s
                    refine wp_region_since (by kernel_rfl) (by kernel_rfl) ?_
                    repeat (go_big_quiet_step ((with_reducible exact Since.call (HC.out _))))
                    refine wpQuiet_nil ?_
                    intro w5 hb2
                    have HB5 := Lib.hid (HOW.out.trans ((HBW.out.trans (hb2.mono HBW.out.size)).mono HOW.out.size))
                    clear hb2 f1 f2
                    go_wp2_with fail
                    go_ret
                    exact ⟨rfl, HB5.out⟩
            · go_wp2_with fail
              go_loopw [9] (fun q wr => ∃ j : Nat, p ≤ j ∧ j ≤ i ∧ q = .int .i64 j ∧ Hid (Below wo.heap.size wo wr)) (fun q _ => i - (intOf q).toNat)
              case atStart => exact ⟨p, Nat.le_refl _, by omega, rfl, Below.refl _ _⟩
              case round =>
                obtain ⟨j, hpj, hj, rfl, HBW⟩ := hrel
                by_cases hji : j < i
                · obtain ⟨l, rfl⟩ : ∃ l, j = l + 1 := ⟨j - 1, by omega⟩
                  have d1 := (HBW.out.cell (p := ⟨g, l, none⟩) hg2).trans (HCL.out l (by omega))
                  have d2 := (HBW.out.cell (p := ⟨g, l + 1, none⟩) hg2).trans (HCL.out (l + 1) hji)
                  have HC := Lib.hid (HSW.out l (l + 1) (by omega) hji)
                  rw [HUP.out (l + 1) hpj hji] at HC
                  generalize rep t (l + 1 + 1) = x1 at *
                  generalize rep t (l + 1) = x2 at *
                  have hw1 : IntKind.i64.wrap ((l : Int) + 1 - 1) = (l : Int) := by
                    rw [show (l : Int) + 1 - 1 = (l : Int) by omega]; exact IntWalk.i64_in _ (by omega)
                  have hw3 : IntKind.i64.wrap (l : Int) = (l : Int) := IntWalk.i64_in _ (by omega)
                  have hl0 : (0 : Int) ≤ (l : Int) := by omega
                  have hli : (l : Int) + 1 < (i : Int) := by omega
                  go_wp2_with fail
                  have f1 := fun s => Since.cell d1 s
                  have f2 := fun s => Since.cell d2 s
                  refine wp_region_since (by kernel_rfl) (by kernel_rfl) ?_
                  repeat (go_big_quiet_step ((with_reducible exact Since.call (HC.out _))))
                  refine wpQuiet_nil ?_
                  intro w5 hb2
                  have HB5 := Lib.hid (HBW.out.trans (hb2.mono HBW.out.size))
                  clear hb2 f1 f2
                  go_wp2_with fail
                  go_roundw
                  case rel => exact ⟨l + 1 + 1, by omega, by omega, by go_num, HB5.out⟩
                  case measure => simp [intOf]; omega
                · have hjI : ¬ (j : Int) < (i : Int) := by omega
                  clear HUP
                  by_cases hp2 : p = 1
                  · subst hp2
                    have h1i : (1 : Int) < (i : Int) := by omega
                    have h1d : decide ((1 : Int) < (i : Int)) = true := decide_eq_true h1i
                    go_wp2_with fail
                    refine wp_region_since (by kernel_rfl) (by kernel_rfl) ?_
                    repeat (go_big_quiet_step (fail))
                    refine wpQuiet_nil ?_
                    intro w5 hb2
                    have HB5 := Lib.hid (HOW.out.trans ((HBW.out.trans (hb2.mono HBW.out.size)).mono HOW.out.size))
                    clear hb2
                    go_wp2_with fail
                    go_ret
                    exact ⟨rfl, HB5.out⟩
                  · obtain ⟨l, rfl⟩ : ∃ l, p = l + 2 := ⟨p - 2, by omega⟩
                    have hlk : likeW k (rep t (l + 1)) (rep t (l + 1 + 1)) = false := by
                      rcases HDN.out with h | h
                      · exact absurd h hp2
                      · exact h
                    have d1 := (HBW.out.cell (p := ⟨g, l, none⟩) hg2).trans (HCL.out l (by omega))
                    have d2 := (HBW.out.cell (p := ⟨g, l + 1, none⟩) hg2).trans (HCL.out (l + 1) (by omega))
                    have HC := Lib.hid (HSW.out l (l + 1) (by omega) (by omega))
                    rw [hlk] at HC
                    generalize rep t (l + 1 + 1) = x1 at *
                    generalize rep t (l + 1) = x2 at *
                    have hw1 : IntKind.i64.wrap ((l : Int) + 2 - 1) = (l : Int) + 1 := by
                      rw [show (l : Int) + 2 - 1 = (l : Int) + 1 by omega]; exact IntWalk.i64_in _ (by omega)
                    have hw2 : IntKind.i64.wrap ((l : Int) + 2 - 2) = (l : Int) := by
                      rw [show (l : Int) + 2 - 2 = (l : Int) by omega]; exact IntWalk.i64_in _ (by omega)
                    have hw3 : IntKind.i64.wrap (l : Int) = (l : Int) := IntWalk.i64_in _ (by omega)
                    have hpl : ((l : Int) + 2 == 1) = false := by simp <;> omega
                    have hl0 : (0 : Int) ≤ (l : Int) := by omega
                    have hli : (l : Int) + 1 < (i : Int) := by omega
                    have hli2 : (l : Int) < (i : Int) := by omega
                    have hli3 : (l : Int) + 2 < (i : Int) := by omega
                    have hli4 : decide ((l : Int) + 2 < (i : Int)) = true := decide_eq_true hli3
                    clear hlk HCL HSW HDN hp2
                    go_wp2_with fail
                    have f1 := fun s => Since.cell d1 s
                    have f2 := fun s => Since.cell d2 s
                    refine wp_region_since (by kernel_rfl) (by kernel_rfl) ?_
                    repeat (go_big_quiet_step ((with_reducible exact Since.call (HC.out _))))
                    refine wpQuiet_nil ?_
                    intro w5 hb2
                    have HB5 := Lib.hid (HOW.out.trans ((HBW.out.trans (hb2.mono HBW.out.size)).mono HOW.out.size))
                    clear hb2 f1 f2
                    go_wp2_with fail
                    go_ret
                    exact ⟨rfl, HB5.out⟩
    · have hP : powRes t n = -2 := by
        unfold powRes
        rw [if_neg]
        simpa using hok
      rw [hP] at HI HS
      clear hok hP
      go_wp2_with fail
      refine (HI.out _).mono ?_; rintro e w2 ⟨rfl, hb⟩
      have HB2 := Lib.hid (HB1.out.trans (hb.mono HB1.out.size)); clear hb
      go_wp2_with fail
      refine (HS.out _).mono ?_; rintro e w3 ⟨rfl, hb⟩
      have HB3 := Lib.hid (HB2.out.trans (hb.mono HB2.out.size)); clear hb
      go_wp2_with fail
      refine (HS.out _).mono ?_; rintro e w4 ⟨rfl, hb⟩
      have HB4 := Lib.hid (HB3.out.trans (hb.mono HB3.out.size)); clear hb
      go_wp2_with fail
      go_ret
      exact ⟨rfl, HB4.out⟩
  · go_enter Tryd.func4, Tryd.ntmps4
    go_wp2_with fail
    go_ret
    exact ⟨rfl, Below.refl _ _⟩
end Go.Proofs.YtagnikcnakdehaaDoor

/- The program's PowerStops. Conditions: a text's length fits an integer. -/
import Derived.Test.YtkopkdpfdkcckaaDoorSameW2
import Derived.Test.YtkopkdpfdkcckaaDoorStrs
namespace Go.Proofs.YtkopkdpfdkcckaaDoor
open Go.RowKit
set_option linter.unusedVariables false

theorem rep_snoc (s : ByteArray) : ∀ n, rep s n ++ s = rep s (n + 1)
  | 0 => by show ByteArray.empty ++ s = s ++ ByteArray.empty; rw [nil_ba, ba_nil]
  | n + 1 => by
    show (s ++ rep s n) ++ s = s ++ (s ++ rep s n)
    rw [ba_assoc, rep_snoc s n]
    rfl
/-- How far the powers are told apart. -/
def stopN (f : Nat → Bool) : Nat → Nat
  | 0 => 0
  | n + 1 => if f n then stopN f n else n + 1
theorem stopN_le (f : Nat → Bool) : ∀ n, stopN f n ≤ n
  | 0 => Nat.le_refl _
  | n + 1 => by unfold stopN; split; (have := stopN_le f n; omega); exact Nat.le_refl _
/-- Whether a power is not told apart from the next one. -/
def adjB (s : ByteArray) (k n : Nat) : Bool := Gs.wins k (wSt (rep s (n + 1))) [] (wSt (rep s (n + 2))) []
/-- What PowerStops returns. -/
def powRes (s : ByteArray) (K : Int) : Int :=
  if wordB s && inB K 0 2 then (if 8 / s.size - 1 - stopN (adjB s K.toNat) (8 / s.size - 1) < 1 then -1 else (stopN (adjB s K.toNat) (8 / s.size - 1) : Int) + 1) else -2
/-- The first powers of a word. -/
def pows (s : ByteArray) (m : Nat) : List ByteArray := (List.range m).map fun j => rep s (j + 1)
theorem pows_succ (s : ByteArray) (m : Nat) : pows s (m + 1) = pows s m ++ [rep s (m + 1)] := by simp [pows, List.range_succ]
theorem pows_length (s : ByteArray) (m : Nat) : (pows s m).length = m := by simp [pows]
theorem pows_at (s : ByteArray) (m j : Nat) (h : j < (pows s m).length) : (pows s m)[j] = rep s (j + 1) := by simp [pows]
def txtLen : Value → Nat
  | .string b => b.size
  | _ => 0
theorem wins_iff0 {k : Nat} {a b : Gs.St} : Gs.wins k a [] b [] = true ↔ Gs.Eqv k a [] b [] := Gs.wins_iff rfl
theorem wins_same {k : Nat} {a b c : Gs.St} (h : Gs.Eqv k b [] c []) : Gs.wins k a [] c [] = Gs.wins k a [] b [] := by
  rw [Bool.eq_iff_iff, wins_iff0, wins_iff0]
  exact ⟨fun h1 => h1.trans h.symm, fun h1 => h1.trans h⟩
theorem div_is {n m : Nat} (hn : 1 ≤ n) (h1 : m * n ≤ 8) (h2 : 8 < (m + 1) * n) : 8 / n = m := by
  have := Nat.div_lt_iff_lt_mul (x := 8) (y := m + 1) (k := n) (by omega)
  have h3 := this.2 h2
  have h4 := (Nat.le_div_iff_mul_le (x := m) (y := 8) (k := n) (by omega)).2 h1
  omega
theorem ret_i64 {a b : Int} (h : a = b) : Ending.returned (.int .i64 a) = .returned (.int .i64 b) := by rw [h]
/-- What a call leaves that returns a number and turns nothing that was there. -/
def IntB (w : World) (n : Int) (e : Ending) (w' : World) : Prop := e = .returned (.int .i64 n) ∧ Below w.heap.size w w'

set_option maxRecDepth 100000 in
set_option maxHeartbeats 1000000 in
theorem implPower_yes (s : ByteArray) (k : Nat) (w : World) (hs : wordB s = true) (hk : k ≤ 2) : Calls Tryd.prog 25 #[.string s, .int .i64 (k : Int)] w (IntB w (powRes s k)) := by
  obtain ⟨s1, s8⟩ := wordSt_valid hs
  have HI := Lib.hid (fun w => isWord_any s w (by omega))
  rw [hs] at HI
  have HR : Hid (powRes s k = (if 8 / s.size - 1 - stopN (adjB s k) (8 / s.size - 1) < 1 then -1 else (stopN (adjB s k) (8 / s.size - 1) : Int) + 1)) := by
    show _ = _
    unfold powRes
    rw [hs, inB_true (by omega) (by omega), Int.toNat_natCast]
    rfl
  obtain ⟨RES, hres⟩ : ∃ p, powRes s k = p := ⟨_, rfl⟩
  rw [hres] at HR ⊢
  clear hs hres
  go_enter Tryd.func25, Tryd.ntmps25
  go_wp2_with fail
  refine (HI.out _).mono ?_; rintro e w1 ⟨rfl, hb⟩
  have HB1 := Lib.hid hb; clear hb
  go_wp2_with fail
  have HS0 := Lib.hid (Strs.lit0 w1)
  go_loopw [5, 6] (fun v p wr => ∃ (i : Nat) (P : ByteArray), p = .string P ∧ P.size ≤ 16 ∧ Hid (P = rep s (i + 1)) ∧ Hid (i * s.size ≤ 8) ∧ Hid (Strs w1 wr v (pows s i))) (fun _ p _ => 100 - txtLen p)
  case atStart =>
    refine ⟨0, s, rfl, by omega, ?_, ?_, HS0.out⟩
    · show s = s ++ ByteArray.empty
      rw [ba_nil]
    · show 0 * s.size ≤ 8
      omega
  case round =>
    obtain ⟨i, P, rfl, hP, HP, HI8, HST⟩ := hrel
    by_cases hlt : (P.size : Int) ≤ 8
    · have HL : Hid ((pows s i).length ≤ 2000000) := by
        show _ ≤ _
        rw [pows_length]
        have h1 := HI8.out
        have h2 : i * 1 ≤ i * s.size := Nat.mul_le_mul_left _ s1
        omega
      have HN : Hid (P ++ s = rep s (i + 1 + 1)) := by show _ = _; rw [HP.out, rep_snoc]
      have HI9 : Hid ((i + 1) * s.size ≤ 8) := by
        show _ ≤ _
        have h1 := congrArg ByteArray.size HP.out
        rw [rep_size] at h1
        omega
      go_wp2_with (first | (at_builtin; refine wpList_app1 HST.out HL.out rfl (.tmp 28) (.tmp 30) rfl _ _ rfl rfl rfl ?_; intro v' w' hs'; have HS' := Lib.hid hs'; clear hs') | fail)
      go_roundw
      case rel =>
        refine ⟨i + 1, P ++ s, rfl, ?_, HN.out, HI9.out, ?_⟩
        · rw [ByteArray.size_append]; omega
        · have h := HS'.out
          rw [HP.out] at h
          show Strs w1 w' v' (pows s (i + 1))
          rw [pows_succ]; exact h
      case measure => simp [txtLen]; omega
    · have HM : Hid (8 / s.size = i) := div_is s1 HI8.out (by
        have h1 := congrArg ByteArray.size HP.out
        rw [rep_size] at h1
        omega)
      obtain ⟨g, cap, rfl, hg1, hg2, hc1, hc2, hcell⟩ := HST.out.cells
      have hi1 : 1 ≤ i := by
        have h1 : 1 ≤ 8 / s.size := (Nat.le_div_iff_mul_le (by omega)).2 (by omega)
        have := HM.out
        omega
      have hi8 : i ≤ 8 := by
        have h1 := HI8.out
        have h2 : i * 1 ≤ i * s.size := Nat.mul_le_mul_left _ s1
        omega
      obtain ⟨l, rfl⟩ : ∃ l, i = l + 1 := ⟨i - 1, by omega⟩
      have HCL : Hid (∀ j, j ≤ l → wr.cell? ⟨g, j, none⟩ = some (.string (rep s (j + 1)))) := fun j hj => by
        have h1 : j < (pows s (l + 1)).length := by rw [pows_length]; omega
        rw [hcell j h1, pows_at]
      have HZ : Hid (∀ j, j ≤ l → (rep s (j + 1)).size ≤ 8) := fun j hj => by
        have h1 := HI8.out
        have h2 : (j + 1) * s.size ≤ (l + 1) * s.size := Nat.mul_le_mul_right _ (by omega)
        rw [rep_size]; omega
      have HOW : Hid (Below w.heap.size w wr) := HB1.out.trans (HST.out.old.mono HB1.out.size)
      unfold maxLen at hc2
      rw [pows_length] at hc1 ⊢
      obtain ⟨wo, rfl⟩ : ∃ wo : World, wo = wr := ⟨_, rfl⟩
      clear hcell HST HP
      have HMR : Hid (RES = (if l - stopN (adjB s k) l < 1 then -1 else (stopN (adjB s k) l : Int) + 1)) := by
        show _ = _
        rw [HR.out, HM.out, Nat.add_sub_cancel]
      obtain ⟨st, hst⟩ : ∃ st, stopN (adjB s k) l = st := ⟨_, rfl⟩
      rw [hst] at HMR
      have HSL : Hid (st ≤ l) := by rw [← hst]; exact stopN_le _ _
      have HST := Lib.hid hst
      clear hst
      go_wp2_with fail
      go_loopw [8] (fun i wr => ∃ n : Nat, n ≤ l ∧ i = .int .i64 n ∧ Hid (stopN (adjB s k) n = st) ∧ Hid (Gs.Eqv k (wSt (rep s (n + 1))) [] (wSt (rep s (l + 1))) []) ∧ Hid (Below wo.heap.size wo wr)) (fun i _ => (intOf i).toNat)
      case atStart => exact ⟨l, by omega, rfl, HST.out, Gs.Eqv.refl _ _ _, Below.refl _ _⟩
      case round =>
        obtain ⟨n, hn, rfl, HN, HE, HBW⟩ := hrel
        rcases n with _ | n
        · have hst0 : st = 0 := HN.out.symm
          subst hst0
          have hlI : IntKind.i64.wrap ((l : Int) - 0) = (l : Int) := by rw [Int.sub_zero]; exact IntWalk.i64_in _ (by omega)
          have HF : Hid (RES = if l < 1 then -1 else 1) := by show _ = _; rw [HMR.out]; rfl
          go_wp2_with fail
          refine wp_region_since (by kernel_rfl) (by kernel_rfl) ?_
          repeat (go_big_quiet_step (fail))
          refine wpQuiet_nil ?_
          intro w2 hb2
          have HB2 : Hid (Below w.heap.size w w2) := HOW.out.trans ((HBW.out.trans (hb2.mono HBW.out.size)).mono HOW.out.size)
          clear hb2
          by_cases hl1 : l < 1
          · have hl0 : (l : Int) < 1 := by omega
            have HF2 : Hid (-1 = RES) := by show _ = _; rw [HF.out, if_pos hl1]
            go_wp2_with fail
            go_ret
            exact ⟨ret_i64 HF2.out, HB2.out⟩
          · have hl0 : ¬ (l : Int) < 1 := by omega
            have HF2 : Hid (1 = RES) := by show _ = _; rw [HF.out, if_neg hl1]
            go_wp2_with fail
            go_ret
            exact ⟨ret_i64 HF2.out, HB2.out⟩
        · have d1 := (HBW.out.cell (p := ⟨g, n, none⟩) hg2).trans (HCL.out n (by omega))
          have d2 := (HBW.out.cell (p := ⟨g, l, none⟩) hg2).trans (HCL.out l (by omega))
          have HW := Lib.hid (fun w => sameWords_any (rep s (n + 1)) (rep s (l + 1)) k w (HZ.out n (by omega)) (HZ.out l (by omega)) (by omega))
          have HADJ : Hid (Gs.wins k (wSt (rep s (n + 1))) [] (wSt (rep s (l + 1))) [] = adjB s k n) := wins_same HE.out
          have hn1 : IntKind.i64.wrap ((n : Int) + 1 - 1) = (n : Int) := by
            rw [show (n : Int) + 1 - 1 = (n : Int) by omega]; exact IntWalk.i64_in _ (by omega)
          have HN1 : Hid ((if adjB s k n then stopN (adjB s k) n else n + 1) = st) := HN.out
          obtain ⟨b, hb⟩ : ∃ b, Gs.wins k (wSt (rep s (n + 1))) [] (wSt (rep s (l + 1))) [] = b := ⟨_, rfl⟩
          rw [hb] at HW HADJ
          rw [← HADJ.out] at HN1
          have HBE : Hid (b = true → Gs.Eqv k (wSt (rep s (n + 1))) [] (wSt (rep s (l + 1))) []) := fun e => wins_iff0.1 (hb.trans e)
          clear hb
          have hnI : (0 : Int) ≤ (n : Int) := by omega
          have hlI0 : (0 : Int) ≤ (l : Int) := by omega
          cases b
          · have hst0 : n + 1 = st := by simpa using HN1.out
            subst hst0
            go_wp2_with fail
            have f1 := fun x => Since.cell d1 x
            have f2 := fun x => Since.cell d2 x
            refine wp_region_since (by kernel_rfl) (by kernel_rfl) ?_
            repeat (go_big_quiet_step ((with_reducible exact Since.call (HW.out _))))
            refine wpQuiet_nil ?_
            intro w2 hb2
            have HB2 : Hid (Below w.heap.size w w2) := HOW.out.trans ((HBW.out.trans (hb2.mono HBW.out.size)).mono HOW.out.size)
            clear hb2 f1 f2
            have hlI : IntKind.i64.wrap ((l : Int) - ((n : Int) + 1)) = ((l - (n + 1) : Nat) : Int) := by
              rw [show (l : Int) - ((n : Int) + 1) = ((l - (n + 1) : Nat) : Int) by omega]; exact IntWalk.i64_in _ (by omega)
            by_cases hl1 : l - (n + 1) < 1
            · have hl0 : ((l : Int) - ((n : Int) + 1)) < 1 := by omega
              have HF2 : Hid (-1 = RES) := by show _ = _; rw [HMR.out, if_pos hl1]
              go_wp2_with fail
              go_ret
              exact ⟨ret_i64 HF2.out, HB2.out⟩
            · have hl0 : ¬ ((l : Int) - ((n : Int) + 1)) < 1 := by omega
              have HF2 : Hid ((n : Int) + 1 + 1 = RES) := by show _ = _; rw [HMR.out, if_neg hl1]; omega
              go_wp2_with fail
              go_ret
              exact ⟨ret_i64 HF2.out, HB2.out⟩
          · have HN2 : Hid (stopN (adjB s k) n = st) := by show _ = _; simpa using HN1.out
            go_wp2_with fail
            have f1 := fun x => Since.cell d1 x
            have f2 := fun x => Since.cell d2 x
            refine wp_region_since (by kernel_rfl) (by kernel_rfl) ?_
            repeat (go_big_quiet_step ((with_reducible exact Since.call (HW.out _))))
            refine wpQuiet_nil ?_
            intro w2 hb2
            have HB2 := Lib.hid (HBW.out.trans (hb2.mono HBW.out.size))
            clear hb2 f1 f2
            go_wp2_with fail
            go_roundw
            case rel => exact ⟨n, by omega, by go_num, HN2.out, HBE.out (by simp), HB2.out⟩
            case measure => simp [intOf] <;> omega
end Go.Proofs.YtkopkdpfdkcckaaDoor

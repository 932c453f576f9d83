/- The reference's l2Var, l2End, FormulaValid. Condition: the text is not long. -/
import Derived.Test.YtadgiknnejjplaaDoorFind
import Derived.Test.YtadgiknnejjplaaDoorFmPos
namespace Go.Proofs.YtadgiknnejjplaaDoor
open Go.RowKit
set_option linter.unusedVariables false

theorem pos_abcd (c : UInt8) (s : List UInt8) : posB c [97, 98, 99, 100] 0 = Fm.varI (c :: s) := by
  rw [Fm.varI_cons]
  simp only [posB]
  by_cases h1 : c = 97
  · rw [if_pos h1.symm, if_pos h1]; rfl
  rw [if_neg (Ne.symm h1), if_neg h1]
  by_cases h2 : c = 98
  · rw [if_pos h2.symm, if_pos h2]; rfl
  rw [if_neg (Ne.symm h2), if_neg h2]
  by_cases h3 : c = 99
  · rw [if_pos h3.symm, if_pos h3]; rfl
  rw [if_neg (Ne.symm h3), if_neg h3]
  by_cases h4 : c = 100
  · rw [if_pos h4.symm, if_pos h4]; rfl
  rw [if_neg (Ne.symm h4), if_neg h4]

theorem l2Var_any (f : ByteArray) (z : Int) (a : Nat) (w : World) (hz : z = (a : Int)) (hf : f.size ≤ 1000000) :
    Calls Tryd.prog 169 #[.string f, .int .i64 z] w fun e w' => e = .returned (.int .i64 (Fm.varI (f.data.toList.drop a))) ∧ w' = w := by
  subst hz
  have haI : (0 : Int) ≤ (a : Int) := by omega
  by_cases hlt : a < f.size
  · have hl : a < f.data.toList.length := by simpa using hlt
    have hx : f.data.toList[a] = f[a] := rfl
    have HD : Hid (Fm.varI (f.data.toList.drop a) = posB f[a] [97, 98, 99, 100] 0) := by
      show _ = _
      rw [Fm.drop_cons hl, hx]; exact (pos_abcd _ _).symm
    rw [HD.out]
    obtain ⟨x, hx2⟩ : ∃ x, f[a] = x := ⟨_, rfl⟩
    rw [hx2]
    have HF := Lib.hid (fun w => l15FindP_any ⟨#[97, 98, 99, 100]⟩ x w (by decide))
    have hltI : ¬ ((f.size : Int) ≤ (a : Int)) := by omega
    clear HD hx
    go_enter Tryd.func169, Tryd.ntmps169
    go_wp2_with fail
    refine (HF.out _).mono ?_; rintro e w' ⟨rfl, rfl⟩
    go_wp2_with fail
    go_ret
    exact ⟨rfl, rfl⟩
  · have HD : Hid (Fm.varI (f.data.toList.drop a) = -1) := by
      show _ = _
      rw [List.drop_eq_nil_iff.2 (by simp; omega)]; rfl
    rw [HD.out]
    have hltI : ((f.size : Int) ≤ (a : Int)) := by omega
    go_enter Tryd.func169, Tryd.ntmps169
    go_wp2_with fail
    go_ret
    exact ⟨rfl, rfl⟩

theorem char_cases (x : UInt8) : x = 116 ∨ x = 102 ∨ x = 80 ∨ (∃ e : Bool, x = if e then 69 else 61) ∨ x = 33 ∨ (∃ o : Bool, x = if o then 124 else 38) ∨ (∃ q : Fm.Q, x = q.byte) ∨
    (x ≠ 116 ∧ x ≠ 102 ∧ x ≠ 80 ∧ x ≠ 61 ∧ x ≠ 69 ∧ x ≠ 33 ∧ x ≠ 38 ∧ x ≠ 124 ∧ x ≠ 65 ∧ x ≠ 83 ∧ x ≠ 50 ∧ x ≠ 51 ∧ x ≠ 52) := by
  by_cases h1 : x = 116; exact .inl h1
  refine .inr ?_
  by_cases h2 : x = 102; exact .inl h2
  refine .inr ?_
  by_cases h3 : x = 80; exact .inl h3
  refine .inr ?_
  by_cases h4 : x = 61; exact .inl ⟨false, h4⟩
  by_cases h5 : x = 69; exact .inl ⟨true, h5⟩
  refine .inr ?_
  by_cases h6 : x = 33; exact .inl h6
  refine .inr ?_
  by_cases h7 : x = 38; exact .inl ⟨false, h7⟩
  by_cases h8 : x = 124; exact .inl ⟨true, h8⟩
  refine .inr ?_
  by_cases h9 : x = 65; exact .inl ⟨.all, h9⟩
  by_cases h10 : x = 83; exact .inl ⟨.some, h10⟩
  by_cases h11 : x = 50; exact .inl ⟨.two, h11⟩
  by_cases h12 : x = 51; exact .inl ⟨.three, h12⟩
  by_cases h13 : x = 52; exact .inl ⟨.four, h13⟩
  exact .inr ⟨h1, h2, h3, h4, h5, h6, h7, h8, h9, h10, h11, h12, h13⟩
theorem byte_no {x : UInt8} {n : Nat} (hn : n < 256) (h : x ≠ UInt8.ofNat n) : ((x.toNat : Int) == (n : Int)) = false := by
  rw [← Bool.not_eq_true, beq_iff_eq]
  intro e
  have e2 : x.toNat = n := by omega
  exact h (UInt8.toNat_inj.1 (by rw [e2, UInt8.toNat_ofNat']; omega))

theorem l2End_neg (f : ByteArray) (w : World) : Calls Tryd.prog 168 #[.string f, .int .i64 (-1)] w fun e w' => e = .returned (.int .i64 (-1)) ∧ w' = w := by
  go_enter Tryd.func168, Tryd.ntmps168
  go_wp2_with fail
  go_ret
  exact ⟨rfl, rfl⟩
set_option maxRecDepth 100000 in
set_option maxHeartbeats 1000000 in
theorem l2End_any (f : ByteArray) (hf : f.size ≤ 1000000) : ∀ (n : Nat) (z : Int) (a : Nat) (w : World), z = (a : Int) → f.size - a ≤ n →
    Calls Tryd.prog 168 #[.string f, .int .i64 z] w fun e w' => e = .returned (.int .i64 (Fm.endI f.data.toList a)) ∧ w' = w := by
  have HV := Lib.hid (fun z a w hz => l2Var_any f z a w hz hf)
  have HN := Lib.hid (l2End_neg f)
  intro n
  induction n with
  | zero =>
    intro z a w hz hn
    subst hz
    have HE : Hid (-1 = Fm.endI f.data.toList a) := (Fm.endI_none (Fm.parseAt_out (by simp; omega))).symm
    have haI : (0 : Int) ≤ (a : Int) := by omega
    have hltI : ((f.size : Int) ≤ (a : Int)) := by omega
    clear hn
    go_enter Tryd.func168, Tryd.ntmps168
    go_wp2_with fail
    go_ret
    exact ⟨ret_int HE.out, rfl⟩
  | succ n ih =>
    intro z a w hz hn
    subst hz
    have haI : (0 : Int) ≤ (a : Int) := by omega
    by_cases hlt : a < f.size
    · have hl : a < f.data.toList.length := by simpa using hlt
      have hltI : ¬ ((f.size : Int) ≤ (a : Int)) := by omega
      have IH : Hid (∀ (z : Int) (b : Nat) (w : World), z = (b : Int) → a < b → Calls Tryd.prog 168 #[.string f, .int .i64 z] w fun e w' => e = .returned (.int .i64 (Fm.endI f.data.toList b)) ∧ w' = w) := fun z b w hz hb => ih z b w hz (by omega)
      clear ih hn
      have hx : f.data.toList[a] = f[a] := rfl
      obtain ⟨x, hx2⟩ : ∃ x, f[a] = x := ⟨_, rfl⟩
      have HX : Hid (f.data.toList[a] = x) := hx.trans hx2
      obtain ⟨RES, hres⟩ : ∃ r, Fm.endI f.data.toList a = r := ⟨_, rfl⟩
      have HR := Lib.hid hres
      rw [hres]
      clear hx hres
      rcases char_cases x with rfl | rfl | rfl | ⟨e, rfl⟩ | rfl | ⟨o, rfl⟩ | ⟨q, rfl⟩ | ⟨h1, h2, h3, h4, h5, h6, h7, h8, h9, h10, h11, h12, h13⟩
      · have HE : Hid ((a : Int) + 1 = RES) := by show _ = _; rw [← HR.out, Fm.endI_some (Fm.parseAt_t hl HX.out)]; rfl
        go_enter Tryd.func168, Tryd.ntmps168
        go_wp2_with fail
        go_ret
        exact ⟨ret_int HE.out, rfl⟩
      · have HE : Hid ((a : Int) + 1 = RES) := by show _ = _; rw [← HR.out, Fm.endI_some (Fm.parseAt_f hl HX.out)]; rfl
        go_enter Tryd.func168, Tryd.ntmps168
        go_wp2_with fail
        go_ret
        exact ⟨ret_int HE.out, rfl⟩
      · have HE := Lib.hid (Fm.endI_P hl HX.out)
        have HV1 := Lib.hid (fun w => HV.out ((a : Int) + 1) (a + 1) w (by omega))
        rw [HR.out] at HE
        obtain ⟨V, hV⟩ : ∃ V, Fm.varI (f.data.toList.drop (a + 1)) = V := ⟨_, rfl⟩
        rw [hV] at HE HV1
        clear hV
        by_cases hv : V < 0
        · have HE2 : Hid (-1 = RES) := by show _ = _; rw [HE.out, if_pos hv]
          go_enter Tryd.func168, Tryd.ntmps168
          go_wp2_with fail
          refine (HV1.out _).mono ?_; rintro e w' ⟨rfl, rfl⟩
          go_wp2_with fail
          go_ret
          exact ⟨ret_int HE2.out, rfl⟩
        · have HE2 : Hid ((a : Int) + 2 = RES) := by show _ = _; rw [HE.out, if_neg hv]; rfl
          go_enter Tryd.func168, Tryd.ntmps168
          go_wp2_with fail
          refine (HV1.out _).mono ?_; rintro e w' ⟨rfl, rfl⟩
          go_wp2_with fail
          go_ret
          exact ⟨ret_int HE2.out, rfl⟩
      · have HE := Lib.hid (Fm.endI_rel e hl HX.out)
        have HV1 := Lib.hid (fun w => HV.out ((a : Int) + 1) (a + 1) w (by omega))
        have HV2 := Lib.hid (fun w => HV.out ((a : Int) + 2) (a + 2) w (by omega))
        rw [HR.out] at HE
        obtain ⟨V, hV⟩ : ∃ V, Fm.varI (f.data.toList.drop (a + 1)) = V := ⟨_, rfl⟩
        rw [hV] at HE HV1
        clear hV
        obtain ⟨U, hU⟩ : ∃ U, Fm.varI (f.data.toList.drop (a + 2)) = U := ⟨_, rfl⟩
        rw [hU] at HE HV2
        clear hU
        by_cases hv : V < 0
        · have HE2 : Hid (-1 = RES) := by show _ = _; rw [HE.out, if_pos hv]
          cases e
          all_goals
            go_enter Tryd.func168, Tryd.ntmps168
            go_wp2_with fail
            refine (HV1.out _).mono ?_; rintro e w' ⟨rfl, rfl⟩
            go_wp2_with fail
            go_ret
            exact ⟨ret_int HE2.out, rfl⟩
        · by_cases hu : U < 0
          · have HE2 : Hid (-1 = RES) := by show _ = _; rw [HE.out, if_neg hv, if_pos hu]
            cases e
            all_goals
              go_enter Tryd.func168, Tryd.ntmps168
              go_wp2_with fail
              refine (HV1.out _).mono ?_; rintro e w' ⟨rfl, rfl⟩
              go_wp2_with fail
              refine (HV2.out _).mono ?_; rintro e w' ⟨rfl, rfl⟩
              go_wp2_with fail
              go_ret
              exact ⟨ret_int HE2.out, rfl⟩
          · have HE2 : Hid ((a : Int) + 3 = RES) := by show _ = _; rw [HE.out, if_neg hv, if_neg hu]; rfl
            cases e
            all_goals
              go_enter Tryd.func168, Tryd.ntmps168
              go_wp2_with fail
              refine (HV1.out _).mono ?_; rintro e w' ⟨rfl, rfl⟩
              go_wp2_with fail
              refine (HV2.out _).mono ?_; rintro e w' ⟨rfl, rfl⟩
              go_wp2_with fail
              go_ret
              exact ⟨ret_int HE2.out, rfl⟩
      · have HE : Hid (Fm.endI f.data.toList (a + 1) = RES) := by show _ = _; rw [← HR.out, Fm.endI_neg hl HX.out]
        have HC := Lib.hid (fun w => IH.out ((a : Int) + 1) (a + 1) w (by omega) (by omega))
        rw [HE.out] at HC
        go_enter Tryd.func168, Tryd.ntmps168
        go_wp2_with fail
        refine (HC.out _).mono ?_; rintro e w' ⟨rfl, rfl⟩
        go_wp2_with fail
        go_ret
        exact ⟨rfl, rfl⟩
      · have HE := Lib.hid (Fm.endI_bin o hl HX.out)
        have HC := Lib.hid (fun w => IH.out ((a : Int) + 1) (a + 1) w (by omega) (by omega))
        rw [HR.out] at HE
        have hE1 : Fm.endI f.data.toList (a + 1) = -1 ∨ ∃ b : Nat, Fm.endI f.data.toList (a + 1) = (b : Int) ∧ a < b := by
          cases h1 : Fm.parseAt f.data.toList (a + 1) with
          | none => exact .inl (Fm.endI_none h1)
          | some φ => exact .inr ⟨_, Fm.endI_some h1, by omega⟩
        rcases hE1 with hE1 | ⟨b, hE1, hb⟩
        · have HE2 : Hid (-1 = RES) := by show _ = _; rw [HE.out, hE1]; rfl
          rw [hE1] at HC
          clear HE hE1
          cases o
          all_goals
            go_enter Tryd.func168, Tryd.ntmps168
            go_wp2_with fail
            refine (HC.out _).mono ?_; rintro e w' ⟨rfl, rfl⟩
            go_wp2_with fail
            refine (HN.out _).mono ?_; rintro e w' ⟨rfl, rfl⟩
            go_wp2_with fail
            go_ret
            exact ⟨ret_int HE2.out, rfl⟩
        · have HE2 : Hid (Fm.endI f.data.toList b = RES) := by show _ = _; rw [HE.out, hE1, if_neg (by omega), Int.toNat_natCast]
          have HC2 := Lib.hid (fun w => IH.out (b : Int) b w rfl hb)
          rw [hE1] at HC
          rw [HE2.out] at HC2
          clear HE hE1 hb
          cases o
          all_goals
            go_enter Tryd.func168, Tryd.ntmps168
            go_wp2_with fail
            refine (HC.out _).mono ?_; rintro e w' ⟨rfl, rfl⟩
            go_wp2_with fail
            refine (HC2.out _).mono ?_; rintro e w' ⟨rfl, rfl⟩
            go_wp2_with fail
            go_ret
            exact ⟨rfl, rfl⟩
      · have HE := Lib.hid (Fm.endI_qu q hl HX.out)
        have HV1 := Lib.hid (fun w => HV.out ((a : Int) + 1) (a + 1) w (by omega))
        have HC := Lib.hid (fun w => IH.out ((a : Int) + 2) (a + 2) w (by omega) (by omega))
        rw [HR.out] at HE
        obtain ⟨V, hV⟩ : ∃ V, Fm.varI (f.data.toList.drop (a + 1)) = V := ⟨_, rfl⟩
        rw [hV] at HE HV1
        clear hV
        by_cases hv : V < 0
        · have HE2 : Hid (-1 = RES) := by show _ = _; rw [HE.out, if_pos hv]
          cases q
          all_goals
            go_enter Tryd.func168, Tryd.ntmps168
            go_wp2_with fail
            refine (HV1.out _).mono ?_; rintro e w' ⟨rfl, rfl⟩
            go_wp2_with fail
            go_ret
            exact ⟨ret_int HE2.out, rfl⟩
        · have HE2 : Hid (Fm.endI f.data.toList (a + 2) = RES) := by show _ = _; rw [HE.out, if_neg hv]
          rw [HE2.out] at HC
          cases q
          all_goals
            go_enter Tryd.func168, Tryd.ntmps168
            go_wp2_with fail
            refine (HV1.out _).mono ?_; rintro e w' ⟨rfl, rfl⟩
            go_wp2_with fail
            refine (HC.out _).mono ?_; rintro e w' ⟨rfl, rfl⟩
            go_wp2_with fail
            go_ret
            exact ⟨rfl, rfl⟩
      · have HE : Hid (-1 = RES) := by
          show _ = _
          rw [← HR.out, Fm.endI_none]
          refine Fm.parseAt_no hl ?_ ?_ ?_ ?_ ?_ ?_ ?_ ?_ ?_ <;> (rw [HX.out]; try assumption)
          simp only [Fm.quOf, if_neg h9, if_neg h10, if_neg h11, if_neg h12, if_neg h13]
        have e1 := byte_no (n := 116) (by decide) h1
        have e2 := byte_no (n := 102) (by decide) h2
        have e3 := byte_no (n := 80) (by decide) h3
        have e4 := byte_no (n := 61) (by decide) h4
        have e5 := byte_no (n := 69) (by decide) h5
        have e6 := byte_no (n := 33) (by decide) h6
        have e7 := byte_no (n := 38) (by decide) h7
        have e8 := byte_no (n := 124) (by decide) h8
        have e9 := byte_no (n := 65) (by decide) h9
        have e10 := byte_no (n := 83) (by decide) h10
        have e11 := byte_no (n := 50) (by decide) h11
        have e12 := byte_no (n := 51) (by decide) h12
        have e13 := byte_no (n := 52) (by decide) h13
        clear h1 h2 h3 h4 h5 h6 h7 h8 h9 h10 h11 h12 h13
        go_enter Tryd.func168, Tryd.ntmps168
        go_wp2_with fail
        go_ret
        exact ⟨ret_int HE.out, rfl⟩
    · have HE : Hid (-1 = Fm.endI f.data.toList a) := (Fm.endI_none (Fm.parseAt_out (by simp; omega))).symm
      have hltI : ((f.size : Int) ≤ (a : Int)) := by omega
      clear ih hn
      go_enter Tryd.func168, Tryd.ntmps168
      go_wp2_with fail
      go_ret
      exact ⟨ret_int HE.out, rfl⟩
end Go.Proofs.YtadgiknnejjplaaDoor

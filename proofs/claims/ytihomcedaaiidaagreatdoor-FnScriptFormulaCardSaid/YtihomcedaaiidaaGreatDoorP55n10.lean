/- Contracts of the program's functions and what they compute: part 10. Conditions: those that each theorem states. -/
import Derived.Test.YtihomcedaaiidaaGreatDoorP55n7
import Derived.Test.YtihomcedaaiidaaGreatDoorP55n8
import Derived.Test.YtihomcedaaiidaaGreatDoorP55n9
namespace Go.Proofs.YtihomcedaaiidaaGreatDoor
open Go.RowKit
set_option linter.unusedVariables false
theorem pos_abcd (c : UInt8) (s : List UInt8) : posB c [97, 98, 99, 100] 0 = Fm.varI (c :: s) := by
  rw [Fm.varI_cons]
  simp only [posB]
  by_cases h1 : c = 97
  · rw [if_pos h1.symm, if_pos h1]; rfl
  rw [if_neg (Ne.symm h1), if_neg h1]
  by_cases h2 : c = 98
  · rw [if_pos h2.symm, if_pos h2]; rfl
  rw [if_neg (Ne.symm h2), if_neg h2]
  by_cases h3 : c = 99
  · rw [if_pos h3.symm, if_pos h3]; rfl
  rw [if_neg (Ne.symm h3), if_neg h3]
  by_cases h4 : c = 100
  · rw [if_pos h4.symm, if_pos h4]; rfl
  rw [if_neg (Ne.symm h4), if_neg h4]
theorem l2Var_any (f : ByteArray) (z : Int) (a : Nat) (w : World) (hz : z = (a : Int)) (hf : f.size ≤ 1000000) :
    Calls Tryz.prog 90 #[.string f, .int .i64 z] w fun e w' => e = .returned (.int .i64 (Fm.varI (f.data.toList.drop a))) ∧ w' = w := by
  subst hz
  have haI : (0 : Int) ≤ (a : Int) := by omega
  by_cases hlt : a < f.size
  · have hl : a < f.data.toList.length := by simpa using hlt
    have hx : f.data.toList[a] = f[a] := rfl
    have HD : Hid (Fm.varI (f.data.toList.drop a) = posB f[a] [97, 98, 99, 100] 0) := by
      show _ = _
      rw [Fm.drop_cons hl, hx]; exact (pos_abcd _ _).symm
    rw [HD.out]
    obtain ⟨x, hx2⟩ : ∃ x, f[a] = x := ⟨_, rfl⟩
    rw [hx2]
    have HF := Lib.hid (fun w => l15FindP_any ⟨#[97, 98, 99, 100]⟩ x w (by decide))
    have hltI : ¬ ((f.size : Int) ≤ (a : Int)) := by omega
    clear HD hx
    go_enter Tryz.func90, Tryz.ntmps90
    go_wp2_with fail
    refine (HF.out _).mono ?_; rintro e w' ⟨rfl, rfl⟩
    go_wp2_with fail
    go_ret
    exact ⟨rfl, rfl⟩
  · have HD : Hid (Fm.varI (f.data.toList.drop a) = -1) := by
      show _ = _
      rw [List.drop_eq_nil_iff.2 (by simp; omega)]; rfl
    rw [HD.out]
    have hltI : ((f.size : Int) ≤ (a : Int)) := by omega
    go_enter Tryz.func90, Tryz.ntmps90
    go_wp2_with fail
    go_ret
    exact ⟨rfl, rfl⟩
theorem char_cases (x : UInt8) : x = 116 ∨ x = 102 ∨ x = 80 ∨ (∃ e : Bool, x = if e then 69 else 61) ∨ x = 33 ∨ (∃ o : Bool, x = if o then 124 else 38) ∨ (∃ q : Fm.Q, x = q.byte) ∨
    (x ≠ 116 ∧ x ≠ 102 ∧ x ≠ 80 ∧ x ≠ 61 ∧ x ≠ 69 ∧ x ≠ 33 ∧ x ≠ 38 ∧ x ≠ 124 ∧ x ≠ 65 ∧ x ≠ 83 ∧ x ≠ 50 ∧ x ≠ 51 ∧ x ≠ 52) := by
  by_cases h1 : x = 116; exact .inl h1
  refine .inr ?_
  by_cases h2 : x = 102; exact .inl h2
  refine .inr ?_
  by_cases h3 : x = 80; exact .inl h3
  refine .inr ?_
  by_cases h4 : x = 61; exact .inl ⟨false, h4⟩
  by_cases h5 : x = 69; exact .inl ⟨true, h5⟩
  refine .inr ?_
  by_cases h6 : x = 33; exact .inl h6
  refine .inr ?_
  by_cases h7 : x = 38; exact .inl ⟨false, h7⟩
  by_cases h8 : x = 124; exact .inl ⟨true, h8⟩
  refine .inr ?_
  by_cases h9 : x = 65; exact .inl ⟨.all, h9⟩
  by_cases h10 : x = 83; exact .inl ⟨.some, h10⟩
  by_cases h11 : x = 50; exact .inl ⟨.two, h11⟩
  by_cases h12 : x = 51; exact .inl ⟨.three, h12⟩
  by_cases h13 : x = 52; exact .inl ⟨.four, h13⟩
  exact .inr ⟨h1, h2, h3, h4, h5, h6, h7, h8, h9, h10, h11, h12, h13⟩
theorem byte_no {x : UInt8} {n : Nat} (hn : n < 256) (h : x ≠ UInt8.ofNat n) : ((x.toNat : Int) == (n : Int)) = false := by
  rw [← Bool.not_eq_true, beq_iff_eq]
  intro e
  have e2 : x.toNat = n := by omega
  exact h (UInt8.toNat_inj.1 (by rw [e2, UInt8.toNat_ofNat']; omega))
theorem l2End_neg (f : ByteArray) (w : World) : Calls Tryz.prog 89 #[.string f, .int .i64 (-1)] w fun e w' => e = .returned (.int .i64 (-1)) ∧ w' = w := by
  go_enter Tryz.func89, Tryz.ntmps89
  go_wp2_with fail
  go_ret
  exact ⟨rfl, rfl⟩
set_option maxRecDepth 100000 in
set_option maxHeartbeats 1000000 in
theorem l2End_any (f : ByteArray) (hf : f.size ≤ 1000000) : ∀ (n : Nat) (z : Int) (a : Nat) (w : World), z = (a : Int) → f.size - a ≤ n →
    Calls Tryz.prog 89 #[.string f, .int .i64 z] w fun e w' => e = .returned (.int .i64 (Fm.endI f.data.toList a)) ∧ w' = w := by
  have HV := Lib.hid (fun z a w hz => l2Var_any f z a w hz hf)
  have HN := Lib.hid (l2End_neg f)
  intro n
  induction n with
  | zero =>
    intro z a w hz hn
    subst hz
    have HE : Hid (-1 = Fm.endI f.data.toList a) := (Fm.endI_none (Fm.parseAt_out (by simp; omega))).symm
    have haI : (0 : Int) ≤ (a : Int) := by omega
    have hltI : ((f.size : Int) ≤ (a : Int)) := by omega
    clear hn
    go_enter Tryz.func89, Tryz.ntmps89
    go_wp2_with fail
    go_ret
    exact ⟨ret_int HE.out, rfl⟩
  | succ n ih =>
    intro z a w hz hn
    subst hz
    have haI : (0 : Int) ≤ (a : Int) := by omega
    by_cases hlt : a < f.size
    · have hl : a < f.data.toList.length := by simpa using hlt
      have hltI : ¬ ((f.size : Int) ≤ (a : Int)) := by omega
      have IH : Hid (∀ (z : Int) (b : Nat) (w : World), z = (b : Int) → a < b → Calls Tryz.prog 89 #[.string f, .int .i64 z] w fun e w' => e = .returned (.int .i64 (Fm.endI f.data.toList b)) ∧ w' = w) := fun z b w hz hb => ih z b w hz (by omega)
      clear ih hn
      have hx : f.data.toList[a] = f[a] := rfl
      obtain ⟨x, hx2⟩ : ∃ x, f[a] = x := ⟨_, rfl⟩
      have HX : Hid (f.data.toList[a] = x) := hx.trans hx2
      obtain ⟨RES, hres⟩ : ∃ r, Fm.endI f.data.toList a = r := ⟨_, rfl⟩
      have HR := Lib.hid hres
      rw [hres]
      clear hx hres
      rcases char_cases x with rfl | rfl | rfl | ⟨e, rfl⟩ | rfl | ⟨o, rfl⟩ | ⟨q, rfl⟩ | ⟨h1, h2, h3, h4, h5, h6, h7, h8, h9, h10, h11, h12, h13⟩
      · have HE : Hid ((a : Int) + 1 = RES) := by show _ = _; rw [← HR.out, Fm.endI_some (Fm.parseAt_t hl HX.out)]; rfl
        go_enter Tryz.func89, Tryz.ntmps89
        go_wp2_with fail
        go_ret
        exact ⟨ret_int HE.out, rfl⟩
      · have HE : Hid ((a : Int) + 1 = RES) := by show _ = _; rw [← HR.out, Fm.endI_some (Fm.parseAt_f hl HX.out)]; rfl
        go_enter Tryz.func89, Tryz.ntmps89
        go_wp2_with fail
        go_ret
        exact ⟨ret_int HE.out, rfl⟩
      · have HE := Lib.hid (Fm.endI_P hl HX.out)
        have HV1 := Lib.hid (fun w => HV.out ((a : Int) + 1) (a + 1) w (by omega))
        rw [HR.out] at HE
        obtain ⟨V, hV⟩ : ∃ V, Fm.varI (f.data.toList.drop (a + 1)) = V := ⟨_, rfl⟩
        rw [hV] at HE HV1
        clear hV
        by_cases hv : V < 0
        · have HE2 : Hid (-1 = RES) := by show _ = _; rw [HE.out, if_pos hv]
          go_enter Tryz.func89, Tryz.ntmps89
          go_wp2_with fail
          refine (HV1.out _).mono ?_; rintro e w' ⟨rfl, rfl⟩
          go_wp2_with fail
          go_ret
          exact ⟨ret_int HE2.out, rfl⟩
        · have HE2 : Hid ((a : Int) + 2 = RES) := by show _ = _; rw [HE.out, if_neg hv]; rfl
          go_enter Tryz.func89, Tryz.ntmps89
          go_wp2_with fail
          refine (HV1.out _).mono ?_; rintro e w' ⟨rfl, rfl⟩
          go_wp2_with fail
          go_ret
          exact ⟨ret_int HE2.out, rfl⟩
      · have HE := Lib.hid (Fm.endI_rel e hl HX.out)
        have HV1 := Lib.hid (fun w => HV.out ((a : Int) + 1) (a + 1) w (by omega))
        have HV2 := Lib.hid (fun w => HV.out ((a : Int) + 2) (a + 2) w (by omega))
        rw [HR.out] at HE
        obtain ⟨V, hV⟩ : ∃ V, Fm.varI (f.data.toList.drop (a + 1)) = V := ⟨_, rfl⟩
        rw [hV] at HE HV1
        clear hV
        obtain ⟨U, hU⟩ : ∃ U, Fm.varI (f.data.toList.drop (a + 2)) = U := ⟨_, rfl⟩
        rw [hU] at HE HV2
        clear hU
        by_cases hv : V < 0
        · have HE2 : Hid (-1 = RES) := by show _ = _; rw [HE.out, if_pos hv]
          cases e
          all_goals
            go_enter Tryz.func89, Tryz.ntmps89
            go_wp2_with fail
            refine (HV1.out _).mono ?_; rintro e w' ⟨rfl, rfl⟩
            go_wp2_with fail
            go_ret
            exact ⟨ret_int HE2.out, rfl⟩
        · by_cases hu : U < 0
          · have HE2 : Hid (-1 = RES) := by show _ = _; rw [HE.out, if_neg hv, if_pos hu]
            cases e
            all_goals
              go_enter Tryz.func89, Tryz.ntmps89
              go_wp2_with fail
              refine (HV1.out _).mono ?_; rintro e w' ⟨rfl, rfl⟩
              go_wp2_with fail
              refine (HV2.out _).mono ?_; rintro e w' ⟨rfl, rfl⟩
              go_wp2_with fail
              go_ret
              exact ⟨ret_int HE2.out, rfl⟩
          · have HE2 : Hid ((a : Int) + 3 = RES) := by show _ = _; rw [HE.out, if_neg hv, if_neg hu]; rfl
            cases e
            all_goals
              go_enter Tryz.func89, Tryz.ntmps89
              go_wp2_with fail
              refine (HV1.out _).mono ?_; rintro e w' ⟨rfl, rfl⟩
              go_wp2_with fail
              refine (HV2.out _).mono ?_; rintro e w' ⟨rfl, rfl⟩
              go_wp2_with fail
              go_ret
              exact ⟨ret_int HE2.out, rfl⟩
      · have HE : Hid (Fm.endI f.data.toList (a + 1) = RES) := by show _ = _; rw [← HR.out, Fm.endI_neg hl HX.out]
        have HC := Lib.hid (fun w => IH.out ((a : Int) + 1) (a + 1) w (by omega) (by omega))
        rw [HE.out] at HC
        go_enter Tryz.func89, Tryz.ntmps89
        go_wp2_with fail
        refine (HC.out _).mono ?_; rintro e w' ⟨rfl, rfl⟩
        go_wp2_with fail
        go_ret
        exact ⟨rfl, rfl⟩
      · have HE := Lib.hid (Fm.endI_bin o hl HX.out)
        have HC := Lib.hid (fun w => IH.out ((a : Int) + 1) (a + 1) w (by omega) (by omega))
        rw [HR.out] at HE
        have hE1 : Fm.endI f.data.toList (a + 1) = -1 ∨ ∃ b : Nat, Fm.endI f.data.toList (a + 1) = (b : Int) ∧ a < b := by
          cases h1 : Fm.parseAt f.data.toList (a + 1) with
          | none => exact .inl (Fm.endI_none h1)
          | some φ => exact .inr ⟨_, Fm.endI_some h1, by omega⟩
        rcases hE1 with hE1 | ⟨b, hE1, hb⟩
        · have HE2 : Hid (-1 = RES) := by show _ = _; rw [HE.out, hE1]; rfl
          rw [hE1] at HC
          clear HE hE1
          cases o
          all_goals
            go_enter Tryz.func89, Tryz.ntmps89
            go_wp2_with fail
            refine (HC.out _).mono ?_; rintro e w' ⟨rfl, rfl⟩
            go_wp2_with fail
            refine (HN.out _).mono ?_; rintro e w' ⟨rfl, rfl⟩
            go_wp2_with fail
            go_ret
            exact ⟨ret_int HE2.out, rfl⟩
        · have HE2 : Hid (Fm.endI f.data.toList b = RES) := by show _ = _; rw [HE.out, hE1, if_neg (by omega), Int.toNat_natCast]
          have HC2 := Lib.hid (fun w => IH.out (b : Int) b w rfl hb)
          rw [hE1] at HC
          rw [HE2.out] at HC2
          clear HE hE1 hb
          cases o
          all_goals
            go_enter Tryz.func89, Tryz.ntmps89
            go_wp2_with fail
            refine (HC.out _).mono ?_; rintro e w' ⟨rfl, rfl⟩
            go_wp2_with fail
            refine (HC2.out _).mono ?_; rintro e w' ⟨rfl, rfl⟩
            go_wp2_with fail
            go_ret
            exact ⟨rfl, rfl⟩
      · have HE := Lib.hid (Fm.endI_qu q hl HX.out)
        have HV1 := Lib.hid (fun w => HV.out ((a : Int) + 1) (a + 1) w (by omega))
        have HC := Lib.hid (fun w => IH.out ((a : Int) + 2) (a + 2) w (by omega) (by omega))
        rw [HR.out] at HE
        obtain ⟨V, hV⟩ : ∃ V, Fm.varI (f.data.toList.drop (a + 1)) = V := ⟨_, rfl⟩
        rw [hV] at HE HV1
        clear hV
        by_cases hv : V < 0
        · have HE2 : Hid (-1 = RES) := by show _ = _; rw [HE.out, if_pos hv]
          cases q
          all_goals
            go_enter Tryz.func89, Tryz.ntmps89
            go_wp2_with fail
            refine (HV1.out _).mono ?_; rintro e w' ⟨rfl, rfl⟩
            go_wp2_with fail
            go_ret
            exact ⟨ret_int HE2.out, rfl⟩
        · have HE2 : Hid (Fm.endI f.data.toList (a + 2) = RES) := by show _ = _; rw [HE.out, if_neg hv]
          rw [HE2.out] at HC
          cases q
          all_goals
            go_enter Tryz.func89, Tryz.ntmps89
            go_wp2_with fail
            refine (HV1.out _).mono ?_; rintro e w' ⟨rfl, rfl⟩
            go_wp2_with fail
            refine (HC.out _).mono ?_; rintro e w' ⟨rfl, rfl⟩
            go_wp2_with fail
            go_ret
            exact ⟨rfl, rfl⟩
      · have HE : Hid (-1 = RES) := by
          show _ = _
          rw [← HR.out, Fm.endI_none]
          refine Fm.parseAt_no hl ?_ ?_ ?_ ?_ ?_ ?_ ?_ ?_ ?_ <;> (rw [HX.out]; try assumption)
          simp only [Fm.quOf, if_neg h9, if_neg h10, if_neg h11, if_neg h12, if_neg h13]
        have e1 := byte_no (n := 116) (by decide) h1
        have e2 := byte_no (n := 102) (by decide) h2
        have e3 := byte_no (n := 80) (by decide) h3
        have e4 := byte_no (n := 61) (by decide) h4
        have e5 := byte_no (n := 69) (by decide) h5
        have e6 := byte_no (n := 33) (by decide) h6
        have e7 := byte_no (n := 38) (by decide) h7
        have e8 := byte_no (n := 124) (by decide) h8
        have e9 := byte_no (n := 65) (by decide) h9
        have e10 := byte_no (n := 83) (by decide) h10
        have e11 := byte_no (n := 50) (by decide) h11
        have e12 := byte_no (n := 51) (by decide) h12
        have e13 := byte_no (n := 52) (by decide) h13
        clear h1 h2 h3 h4 h5 h6 h7 h8 h9 h10 h11 h12 h13
        go_enter Tryz.func89, Tryz.ntmps89
        go_wp2_with fail
        go_ret
        exact ⟨ret_int HE.out, rfl⟩
    · have HE : Hid (-1 = Fm.endI f.data.toList a) := (Fm.endI_none (Fm.parseAt_out (by simp; omega))).symm
      have hltI : ((f.size : Int) ≤ (a : Int)) := by omega
      clear ih hn
      go_enter Tryz.func89, Tryz.ntmps89
      go_wp2_with fail
      go_ret
      exact ⟨ret_int HE.out, rfl⟩
end Go.Proofs.YtihomcedaaiidaaGreatDoor
namespace Go.Proofs.YtihomcedaaiidaaGreatDoor
open Go.RowKit
set_option linter.unusedVariables false
namespace Fm
/-- A formula's text lies at a place of a text. -/
def At (L : List UInt8) (a : Nat) (φ : T) : Prop := ∃ r, L.drop a = text φ ++ r
theorem At.whole (φ : T) : At (text φ) 0 φ := ⟨[], by simp⟩
theorem At.more {L : List UInt8} {a : Nat} {φ : T} {s t : List UInt8} (h : At L a φ) (k : Nat) (e : text φ = s ++ t) (hk : s.length = k) : ∃ r, L.drop (a + k) = t ++ r := by
  obtain ⟨r, hr⟩ := h
  refine ⟨r, ?_⟩
  rw [← List.drop_drop, hr, e, ← hk, List.append_assoc, List.drop_left]
theorem At.le {L : List UInt8} {a : Nat} {φ : T} (h : At L a φ) : a + len φ ≤ L.length := by
  obtain ⟨r, hr⟩ := h
  have h1 := congrArg List.length hr
  rw [List.length_drop, List.length_append] at h1
  have h2 := text_pos φ
  unfold len
  omega
theorem text_op (φ : T) : ∃ t, text φ = φ.op :: t := by cases φ <;> exact ⟨_, rfl⟩
theorem At.head {L : List UInt8} {a : Nat} {φ : T} (h : At L a φ) : ∃ hl : a < L.length, L[a] = φ.op := by
  have hl : a < L.length := by have h1 := h.le; have h2 := text_pos φ; unfold len at h1; omega
  refine ⟨hl, ?_⟩
  obtain ⟨r, hr⟩ := h
  obtain ⟨t, ht⟩ := text_op φ
  rw [drop_cons hl, ht] at hr
  injection hr with h1 _
theorem At.neg {L : List UInt8} {a : Nat} {f : T} (h : At L a (.neg f)) : At L (a + 1) f := h.more (s := [33]) 1 rfl rfl
theorem At.bin1 {L : List UInt8} {a : Nat} {o : Bool} {f g : T} (h : At L a (.bin o f g)) : At L (a + 1) f := by
  obtain ⟨r, hr⟩ := h.more (s := [if o then 124 else 38]) (t := text f ++ text g) 1 rfl rfl
  exact ⟨text g ++ r, by rw [hr, List.append_assoc]⟩
theorem At.bin2 {L : List UInt8} {a : Nat} {o : Bool} {f g : T} (h : At L a (.bin o f g)) : At L (a + 1 + len f) g := by
  rw [Nat.add_assoc]
  exact h.more (s := (if o then 124 else 38) :: text f) (1 + len f) rfl (by simp [len]; omega)
theorem At.qu {L : List UInt8} {a : Nat} {q : Q} {v : Fin 4} {f : T} (h : At L a (.qu q v f)) : At L (a + 2) f := h.more (s := [q.byte, vb v]) 2 rfl rfl
theorem varI_vb (v : Fin 4) (s : List UInt8) : varI (vb v :: s) = (v.val : Int) := by unfold varI; rw [pvar_vb]
theorem At.qv {L : List UInt8} {a : Nat} {q : Q} {v : Fin 4} {f : T} (h : At L a (.qu q v f)) : varI (L.drop (a + 1)) = (v.val : Int) := by
  obtain ⟨r, hr⟩ := h.more (s := [q.byte]) (t := vb v :: text f) 1 rfl rfl
  rw [hr]; exact varI_vb _ _
theorem At.sv {L : List UInt8} {a : Nat} {v : Fin 4} (h : At L a (.set v)) : varI (L.drop (a + 1)) = (v.val : Int) := by
  obtain ⟨r, hr⟩ := h.more (s := [80]) (t := [vb v]) 1 rfl rfl
  rw [hr]; exact varI_vb _ _
theorem At.rv {L : List UInt8} {a : Nat} {e : Bool} {v w : Fin 4} (h : At L a (.rel e v w)) : varI (L.drop (a + 1)) = (v.val : Int) := by
  obtain ⟨r, hr⟩ := h.more (s := [if e then 69 else 61]) (t := [vb v, vb w]) 1 rfl rfl
  rw [hr]; exact varI_vb _ _
theorem At.rw {L : List UInt8} {a : Nat} {e : Bool} {v w : Fin 4} (h : At L a (.rel e v w)) : varI (L.drop (a + 2)) = (w.val : Int) := by
  obtain ⟨r, hr⟩ := h.more (s := [if e then 69 else 61, vb v]) (t := [vb w]) 2 rfl rfl
  rw [hr]; exact varI_vb _ _
theorem At.endI {L : List UInt8} {a : Nat} {φ : T} (h : At L a φ) : Fm.endI L a = ((a + len φ : Nat) : Int) := by
  refine endI_some ?_
  obtain ⟨r, hr⟩ := h
  unfold parseAt
  rw [hr, parse_text]
  · rfl
  · have h1 := congrArg List.length hr
    rw [List.length_drop, List.length_append] at h1
    omega
end Fm
theorem or_i64 (a b : Nat) (ha : a < 16) (hb : b < 16) : bits .or .i64 (a : Int) (b : Int) = ((a ||| b : Nat) : Int) := by
  have h : ∀ a b : Fin 16, bits .or .i64 (a.val : Int) (b.val : Int) = ((a.val ||| b.val : Nat) : Int) := by decide +kernel
  exact h ⟨a, ha⟩ ⟨b, hb⟩
theorem andNot_i64 (a b : Nat) (ha : a < 16) (hb : b < 16) : bits .andNot .i64 (a : Int) (b : Int) = ((a &&& (15 ^^^ b) : Nat) : Int) := by
  have h : ∀ a b : Fin 16, bits .andNot .i64 (a.val : Int) (b.val : Int) = ((a.val &&& (15 ^^^ b.val) : Nat) : Int) := by decide +kernel
  exact h ⟨a, ha⟩ ⟨b, hb⟩
theorem shl_i64 (v : Fin 4) : IntKind.i64.wrap (2 ^ v.val) = ((1 <<< v.val : Nat) : Int) := by revert v; decide +kernel
theorem pos_quant (c : UInt8) : decide (0 ≤ posB c [65, 83, 50, 51, 52] 0) = Fm.isQu c := by
  unfold Fm.isQu Fm.quOf
  by_cases h1 : c = 65
  · subst h1; decide
  by_cases h2 : c = 83
  · subst h2; decide
  by_cases h3 : c = 50
  · subst h3; decide
  by_cases h4 : c = 51
  · subst h4; decide
  by_cases h5 : c = 52
  · subst h5; decide
  simp [posB, Ne.symm h1, Ne.symm h2, Ne.symm h3, Ne.symm h4, Ne.symm h5, h1, h2, h3, h4, h5]
theorem l2Quant_any (c : UInt8) (w : World) : Calls Tryz.prog 91 #[.int .u8 (c.toNat : Int)] w fun e w' => e = .returned (.bool (Fm.isQu c)) ∧ w' = w := by
  have HF := Lib.hid (fun w => l15FindP_any ⟨#[65, 83, 50, 51, 52]⟩ c w (by decide))
  have HQ := Lib.hid (pos_quant c)
  have e0 : ((⟨#[65, 83, 50, 51, 52]⟩ : ByteArray).data.toList) = [65, 83, 50, 51, 52] := rfl
  rw [e0] at HF
  generalize posB c [65, 83, 50, 51, 52] 0 = P at *
  clear e0
  go_enter Tryz.func91, Tryz.ntmps91
  go_wp2_with fail
  refine (HF.out _).mono ?_; rintro e w' ⟨rfl, rfl⟩
  go_wp2_with fail
  go_ret
  exact ⟨congrArg (fun b => Ending.returned (.bool b)) HQ.out, rfl⟩
end Go.Proofs.YtihomcedaaiidaaGreatDoor
namespace Go.Proofs.YtihomcedaaiidaaGreatDoor
open Go.RowKit
set_option linter.unusedVariables false
theorem ret_two {a b c d : Int} (h : a = c) (h2 : b = d) : Ending.returned (.tuple #[.int .i64 a, .int .i64 b]) = .returned (.tuple #[.int .i64 c, .int .i64 d]) := by rw [h, h2]
theorem byte_eq {f : ByteArray} {a : Nat} {c : UInt8} (h : ∃ hl : a < f.data.toList.length, f.data.toList[a] = c) : ∃ hl : a < f.size, f[a] = c := by
  obtain ⟨hl, h⟩ := h
  exact ⟨by simpa using hl, h⟩
set_option maxRecDepth 100000 in
set_option maxHeartbeats 2000000 in
theorem l2Free_any (f : ByteArray) (hf : f.size ≤ 1000000) : ∀ (φ : Fm.T) (z : Int) (a : Nat) (w : World), z = (a : Int) → Fm.At f.data.toList a φ →
    Calls Tryz.prog 54 #[.string f, .int .i64 z] w fun e w' => e = .returned (.tuple #[.int .i64 ((Fm.free φ : Nat) : Int), .int .i64 ((a + Fm.len φ : Nat) : Int)]) ∧ w' = w := by
  have HV := Lib.hid (fun z a w hz => l2Var_any f z a w hz hf)
  intro φ
  induction φ with
  | lit b =>
    intro z a w hz hA
    subst hz
    obtain ⟨hlt, hx⟩ := byte_eq hA.head
    have haI : (0 : Int) ≤ (a : Int) := by omega
    have HE : Hid ((a : Int) + 1 = ((a + Fm.len (.lit b) : Nat) : Int)) := by show _ = _; simp [Fm.len, Fm.text]
    clear hA
    cases b
    all_goals
      replace hx : f[a] = _ := hx
      simp only [Fm.T.op] at hx
      go_enter Tryz.func54, Tryz.ntmps54
      go_wp2_with fail
      go_ret2
      exact ⟨ret_two rfl HE.out, rfl⟩
  | set v =>
    intro z a w hz hA
    subst hz
    obtain ⟨hlt, hx⟩ := byte_eq hA.head
    have haI : (0 : Int) ≤ (a : Int) := by omega
    have HE : Hid ((a : Int) + 2 = ((a + Fm.len (.set v) : Nat) : Int)) := by show _ = _; simp [Fm.len, Fm.text]
    have HV1 := Lib.hid (fun w => HV.out ((a : Int) + 1) (a + 1) w (by omega))
    rw [hA.sv] at HV1
    have hs1 : IntKind.i64.wrap (2 ^ v.val) = ((Fm.free (.set v) : Nat) : Int) := shl_i64 v
    generalize Fm.free (.set v) = FR at *
    have hv := v.isLt
    obtain ⟨k, hk⟩ : ∃ k, v.val = k := ⟨_, rfl⟩
    rw [hk] at HV1 hs1 hv
    clear hA hk
    have hkI : (0 : Int) ≤ (k : Int) ∧ (k : Int) < 4 := by omega
    have hcv : IntKind.u64.wrap (k : Int) = k := IntWalk.u64_in _ (by omega)
    replace hx : f[a] = 80 := hx
    go_enter Tryz.func54, Tryz.ntmps54
    go_wp2_with fail
    refine (HV1.out _).mono ?_; rintro e w' ⟨rfl, rfl⟩
    go_wp2_with fail
    go_ret2
    exact ⟨ret_two rfl HE.out, rfl⟩
  | rel e v u =>
    intro z a w hz hA
    subst hz
    obtain ⟨hlt, hx⟩ := byte_eq hA.head
    have haI : (0 : Int) ≤ (a : Int) := by omega
    have HE : Hid ((a : Int) + 3 = ((a + Fm.len (.rel e v u) : Nat) : Int)) := by show _ = _; simp [Fm.len, Fm.text]
    have HV1 := Lib.hid (fun w => HV.out ((a : Int) + 1) (a + 1) w (by omega))
    have HV2 := Lib.hid (fun w => HV.out ((a : Int) + 2) (a + 2) w (by omega))
    rw [hA.rv] at HV1
    rw [hA.rw] at HV2
    have hs1 := shl_i64 v
    have hs2 := shl_i64 u
    have hor : bits .or .i64 ((1 <<< v.val : Nat) : Int) ((1 <<< u.val : Nat) : Int) = ((Fm.free (.rel e v u) : Nat) : Int) := or_i64 _ _ (Fm.bit_lt v) (Fm.bit_lt u)
    generalize Fm.free (.rel e v u) = FR at *
    have hv := v.isLt
    have hu := u.isLt
    obtain ⟨k, hk⟩ : ∃ k, v.val = k := ⟨_, rfl⟩
    obtain ⟨j, hj⟩ : ∃ j, u.val = j := ⟨_, rfl⟩
    rw [hk] at HV1 hs1 hv hor
    rw [hj] at HV2 hs2 hu hor
    generalize (1 <<< k) = A at *
    generalize (1 <<< j) = B at *
    clear hA hk hj
    have hkI : (0 : Int) ≤ (k : Int) ∧ (k : Int) < 4 := by omega
    have hjI : (0 : Int) ≤ (j : Int) ∧ (j : Int) < 4 := by omega
    have hcv : IntKind.u64.wrap (k : Int) = k := IntWalk.u64_in _ (by omega)
    have hcj : IntKind.u64.wrap (j : Int) = j := IntWalk.u64_in _ (by omega)
    cases e
    all_goals
      replace hx : f[a] = _ := hx
      simp only [Fm.T.op] at hx
      go_enter Tryz.func54, Tryz.ntmps54
      go_wp2_with fail
      refine (HV1.out _).mono ?_; rintro e w' ⟨rfl, rfl⟩
      go_wp2_with fail
      refine (HV2.out _).mono ?_; rintro e w' ⟨rfl, rfl⟩
      go_wp2_with fail
      go_ret2
      exact ⟨ret_two rfl HE.out, rfl⟩
  | neg g ih =>
    intro z a w hz hA
    subst hz
    obtain ⟨hlt, hx⟩ := byte_eq hA.head
    have haI : (0 : Int) ≤ (a : Int) := by omega
    have HE : Hid (((a + 1 + Fm.len g : Nat) : Int) = ((a + Fm.len (.neg g) : Nat) : Int)) := by show _ = _; simp [Fm.len, Fm.text]; omega
    have HC := Lib.hid (fun w => ih ((a : Int) + 1) (a + 1) w (by omega) hA.neg)
    rw [HE.out] at HC
    replace hx : f[a] = 33 := hx
    clear hA ih
    go_enter Tryz.func54, Tryz.ntmps54
    go_wp2_with fail
    refine (HC.out _).mono ?_; rintro e w' ⟨rfl, rfl⟩
    go_wp2_with fail
    go_ret2
    exact ⟨rfl, rfl⟩
  | bin o g h ih1 ih2 =>
    intro z a w hz hA
    subst hz
    obtain ⟨hlt, hx⟩ := byte_eq hA.head
    have haI : (0 : Int) ≤ (a : Int) := by omega
    have hle := hA.le
    have hle : a + Fm.len (.bin o g h) ≤ f.size := by simpa using hle
    have HE : Hid (((a + 1 + Fm.len g + Fm.len h : Nat) : Int) = ((a + Fm.len (.bin o g h) : Nat) : Int)) := by show _ = _; simp [Fm.len, Fm.text]; omega
    have HC1 := Lib.hid (fun w => ih1 ((a : Int) + 1) (a + 1) w (by omega) hA.bin1)
    have HC2 := Lib.hid (fun w => ih2 ((a + 1 + Fm.len g : Nat) : Int) (a + 1 + Fm.len g) w rfl hA.bin2)
    rw [HE.out] at HC2
    have hor : bits .or .i64 ((Fm.free g : Nat) : Int) ((Fm.free h : Nat) : Int) = ((Fm.free (.bin o g h) : Nat) : Int) := or_i64 _ _ (Fm.free_lt g) (Fm.free_lt h)
    generalize Fm.free (.bin o g h) = FR at *
    generalize Fm.free g = FA at *
    generalize Fm.free h = FB at *
    clear hA ih1 ih2 hle
    generalize (a + 1 + Fm.len g) = M at *
    generalize (a + Fm.len (.bin o g h)) = E at *
    have HQ := Lib.hid (fun c w => l2Quant_any c w)
    cases o
    · replace hx : f[a] = 38 := hx
      have HQ1 : Hid (∀ w, Calls Tryz.prog 91 #[.int .u8 38] w fun e w' => e = .returned (.bool false) ∧ w' = w) := fun w => HQ.out 38 w
      go_enter Tryz.func54, Tryz.ntmps54
      go_wp2_with fail
      refine (HQ1.out _).mono ?_; rintro e w' ⟨rfl, rfl⟩
      go_wp2_with fail
      refine (HC1.out _).mono ?_; rintro e w' ⟨rfl, rfl⟩
      go_wp2_with fail
      refine (HC2.out _).mono ?_; rintro e w' ⟨rfl, rfl⟩
      go_wp2_with fail
      go_ret2
      exact ⟨rfl, rfl⟩
    · replace hx : f[a] = 124 := hx
      have HQ1 : Hid (∀ w, Calls Tryz.prog 91 #[.int .u8 124] w fun e w' => e = .returned (.bool false) ∧ w' = w) := fun w => HQ.out 124 w
      go_enter Tryz.func54, Tryz.ntmps54
      go_wp2_with fail
      refine (HQ1.out _).mono ?_; rintro e w' ⟨rfl, rfl⟩
      go_wp2_with fail
      refine (HC1.out _).mono ?_; rintro e w' ⟨rfl, rfl⟩
      go_wp2_with fail
      refine (HC2.out _).mono ?_; rintro e w' ⟨rfl, rfl⟩
      go_wp2_with fail
      go_ret2
      exact ⟨rfl, rfl⟩
  | qu q v g ih =>
    intro z a w hz hA
    subst hz
    obtain ⟨hlt, hx⟩ := byte_eq hA.head
    have haI : (0 : Int) ≤ (a : Int) := by omega
    have HE : Hid (((a + 2 + Fm.len g : Nat) : Int) = ((a + Fm.len (.qu q v g) : Nat) : Int)) := by show _ = _; simp [Fm.len, Fm.text]; omega
    have HC := Lib.hid (fun w => ih ((a : Int) + 2) (a + 2) w (by omega) hA.qu)
    rw [HE.out] at HC
    have HV1 := Lib.hid (fun w => HV.out ((a : Int) + 1) (a + 1) w (by omega))
    rw [hA.qv] at HV1
    have hs1 := shl_i64 v
    have han : bits .andNot .i64 ((Fm.free g : Nat) : Int) ((1 <<< v.val : Nat) : Int) = ((Fm.free (.qu q v g) : Nat) : Int) := andNot_i64 _ _ (Fm.free_lt g) (Fm.bit_lt v)
    generalize Fm.free (.qu q v g) = FR at *
    generalize Fm.free g = FA at *
    have hv := v.isLt
    obtain ⟨k, hk⟩ : ∃ k, v.val = k := ⟨_, rfl⟩
    rw [hk] at HV1 hs1 hv han
    generalize (1 <<< k) = A at *
    clear hA hk ih
    generalize (a + Fm.len (.qu q v g)) = E at *
    have hkI : (0 : Int) ≤ (k : Int) ∧ (k : Int) < 4 := by omega
    have hcv : IntKind.u64.wrap (k : Int) = k := IntWalk.u64_in _ (by omega)
    have HQ := Lib.hid (fun c w => l2Quant_any c w)
    have HQ1 : Hid (∀ w, Calls Tryz.prog 91 #[.int .u8 (q.byte.toNat : Int)] w fun e w' => e = .returned (.bool true) ∧ w' = w) := fun w => by
      have := HQ.out q.byte w
      unfold Fm.isQu at this
      rw [Fm.quOf_byte] at this
      exact this
    cases q
    all_goals
      replace hx : f[a] = _ := hx
      simp only [Fm.T.op, Fm.Q.byte] at hx
      have HQ2 := HQ1
      simp only [Fm.Q.byte] at HQ2
      go_enter Tryz.func54, Tryz.ntmps54
      go_wp2_with fail
      refine (HQ2.out _).mono ?_; rintro e w' ⟨rfl, rfl⟩
      go_wp2_with fail
      refine (HC.out _).mono ?_; rintro e w' ⟨rfl, rfl⟩
      go_wp2_with fail
      refine (HV1.out _).mono ?_; rintro e w' ⟨rfl, rfl⟩
      go_wp2_with fail
      go_ret2
      exact ⟨rfl, rfl⟩
/-- Whether a text is a formula. -/
def readB (f : ByteArray) : Option Fm.T := Fm.read f.data.toList
theorem FormulaValid_any (f : ByteArray) (w : World) (hf : f.size ≤ 9223372036854775807) : Calls Tryz.prog 52 #[.string f] w fun e w' => e = .returned (.bool (readB f).isSome) ∧ w' = w := by
  by_cases h : f.size ≤ 4000
  · have hl : f.data.toList.length ≤ 4000 := by simpa using h
    have h1 := Fm.read_at f.data.toList hl
    have HE := Lib.hid (fun w => l2End_any f (by omega) f.size 0 0 w rfl (by omega))
    have hb := Fm.endI_le f.data.toList 0
    have hlen : f.data.toList.length = f.size := by simp
    have HR : Hid ((readB f).isSome = decide (Fm.endI f.data.toList 0 = (f.size : Int))) := by
      show (Fm.read f.data.toList).isSome = _
      rw [h1, hlen]
      by_cases he : Fm.endI f.data.toList 0 = (f.size : Int)
      · rw [if_pos he, decide_eq_true he]
        cases h2 : Fm.parseAt f.data.toList 0 with
        | none => rw [Fm.endI_none h2] at he; omega
        | some φ => rfl
      · rw [if_neg he, decide_eq_false he]; rfl
    obtain ⟨E, hE⟩ : ∃ E, Fm.endI f.data.toList 0 = E := ⟨_, rfl⟩
    rw [hE] at HE HR
    have hI : ((f.size : Int) ≤ 4000) := by omega
    clear h1 hb hlen hE hl
    rw [HR.out]
    go_enter Tryz.func52, Tryz.ntmps52
    go_wp2_with fail
    refine (HE.out _).mono ?_; rintro e w' ⟨rfl, rfl⟩
    go_wp2_with fail
    go_ret
    exact ⟨by first | rfl | (congr 2), rfl⟩
  · have HR : Hid ((readB f).isSome = false) := by
      show (Fm.read f.data.toList).isSome = _
      unfold Fm.read
      rw [if_pos (by simp; omega)]; rfl
    have hI : ¬ ((f.size : Int) ≤ 4000) := by omega
    rw [HR.out]
    go_enter Tryz.func52, Tryz.ntmps52
    go_wp2_with fail
    go_ret
    exact ⟨rfl, rfl⟩
end Go.Proofs.YtihomcedaaiidaaGreatDoor

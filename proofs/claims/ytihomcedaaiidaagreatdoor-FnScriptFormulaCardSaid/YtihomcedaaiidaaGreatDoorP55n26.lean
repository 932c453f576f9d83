/- Contracts of the program's functions and what they compute: part 26. Conditions: those that each theorem states. -/
import Derived.Test.YtihomcedaaiidaaGreatDoorP55n11
import Derived.IntWalk
namespace Go.Proofs.YtihomcedaaiidaaGreatDoor
open Go.RowKit
set_option linter.unusedVariables false
theorem index_count (c : UInt8) : decide (0 ≤ Lib.indexByte [50, 51, 52] c) = (decide (c = 50) || decide (c = 51) || decide (c = 52)) := by
  simp only [index_cons]
  by_cases h3 : c = 50
  · subst h3; decide
  by_cases h4 : c = 51
  · subst h4; decide
  by_cases h5 : c = 52
  · subst h5; decide
  simp [h3, h4, h5, Ne.symm h3, Ne.symm h4, Ne.symm h5, Lib.indexByte]
theorem counting_any {F : Nat → Prop} {p : Nat} {op : UInt8} {vs : List (Fin 4)} {qs : List Nat} {fr al : Nat} {v u : Value} (w : World) (h : Nd F w p op vs qs fr al v u) :
    Calls Tryz.prog 66 #[ptrV p] w fun e w' => e = .returned (.bool (decide (op = 50) || decide (op = 51) || decide (op = 52))) ∧ w' = w := by
  have hc := h.cells.1
  have HI := Lib.hid (fun w => indexByte_any ⟨#[50, 51, 52]⟩ (op.toNat : Int) w)
  have e0 : ((⟨#[50, 51, 52]⟩ : ByteArray).data.toList) = [50, 51, 52] := rfl
  have e1 : ((op.toNat : Int).toNat.toUInt8) = op := by simp
  rw [e0, e1] at HI
  have HQ := Lib.hid (index_count op)
  generalize Lib.indexByte [50, 51, 52] op = P at *
  clear h e0 e1
  unfold ptrV
  go_enter Tryz.func66, Tryz.ntmps66
  go_wp2_with fail
  refine (HI.out _).mono ?_; rintro e w' ⟨rfl, hw⟩; rw [hw]; clear hw
  go_wp2_with fail
  go_ret
  exact ⟨ret_bool HQ.out, rfl⟩
/-- The greatest of the first numbers. -/
def mx (R : Nat → Nat) : Nat → Nat
  | 0 => 0
  | i + 1 => max (mx R i) (R i)
theorem mx_le {R : Nat → Nat} {m : Nat} (h : ∀ j, R j ≤ m) : ∀ i, mx R i ≤ m
  | 0 => Nat.zero_le _
  | i + 1 => Nat.max_le.2 ⟨mx_le h i, h i⟩
/-- What a letter adds to the rank. -/
def wgt (op : UInt8) : Nat := if op = 50 then 2 else if op = 51 then 3 else if op = 52 then 4 else if Fm.isQu op then 1 else 0
set_option maxHeartbeats 1000000 in
theorem rank_step {F : Nat → Prop} {p : Nat} {op : UInt8} {vs : List (Fin 4)} {qs : List Nat} {fr al : Nat} {v u : Value} (w : World) (h : Nd F w p op vs qs fr al v u) (R : Nat → Nat) (hR : ∀ j, R j ≤ 100000)
    (hq : ∀ j, j < qs.length → Calls Tryz.prog 39 #[ptrV (qs.getD j 0)] w fun e w' => e = .returned (.int .i64 (R j : Int)) ∧ w' = w) :
    Calls Tryz.prog 39 #[ptrV p] w fun e w' => e = .returned (.int .i64 ((mx R qs.length + wgt op : Nat) : Int)) ∧ w' = w := by
  have hc := h.cells.1
  have hp := h.cells.2.2.1
  have HCO := Lib.hid (fun (_ : Unit) => counting_any w h)
  have HQU := Lib.hid (fun (_ : Unit) => quant_any w h)
  have HQ := Lib.hid hq
  have HM := Lib.hid (mx_le hR)
  obtain ⟨a, cap, rfl, hl1, hl2, hg⟩ := h.parts.view
  rw [List.length_map] at hl1 hp hg
  have HG := Lib.hid hg
  unfold maxLen at hl2
  clear h hq hg
  unfold ptrV at HCO HQU ⊢
  go_enter Tryz.func39, Tryz.ntmps39
  go_wp2_with fail
  go_loopw [11, 3] (fun q m wr => wr = w ∧ ∃ i : Nat, i ≤ qs.length ∧ q = .int .i64 (i : Int) ∧ m = .int .i64 (mx R i : Int)) (fun q _ _ => qs.length - (intOf q).toNat)
  case atStart => exact ⟨rfl, 0, by omega, rfl, rfl⟩
  case round =>
    obtain ⟨hw, i, hi, rfl, rfl⟩ := hrel
    rw [hw]; clear hw
    by_cases hlt : i < qs.length
    · obtain ⟨g, rfl, _, hgl, hcell⟩ := HG.out (by omega)
      have hx : w.cell? ⟨g, i, none⟩ = some (.pointer (some ⟨qs.getD i 0, 0, none⟩)) := by
        rw [hcell i hlt]; simp [hlt, ptrV]
      have HX := Lib.hid (HQ.out i hlt)
      have hm := HM.out i
      have hr := hR i
      have hilt : (i : Int) < (qs.length : Int) := by omega
      have hS : mx R (i + 1) = max (mx R i) (R i) := rfl
      have HS : Hid (mx R (i + 1) = max (mx R i) (R i)) := hS
      clear hcell hS
      unfold ptrV at HX
      generalize qs.getD i 0 = q at *
      generalize R i = r at *
      generalize mx R i = m at *
      by_cases hmr : (r : Int) > (m : Int)
      · go_wp2_with fail
        refine HX.out.mono ?_; rintro _ w2 ⟨rfl, hw2⟩; rw [hw2]; clear hw2 w2
        go_wp2_with fail
        go_roundw
        case rel => exact ⟨trivial, i + 1, by omega, by go_num, by rw [HS.out, Nat.max_eq_right (by omega), Int.max_eq_right (by omega)]⟩
        case measure => simp [intOf]; omega
      · go_wp2_with fail
        refine HX.out.mono ?_; rintro _ w2 ⟨rfl, hw2⟩; rw [hw2]; clear hw2 w2
        go_wp2_with fail
        go_roundw
        case rel => exact ⟨trivial, i + 1, by omega, by go_num, by rw [HS.out, Nat.max_eq_left (by omega), Int.max_eq_left (by omega)]⟩
        case measure => simp [intOf]; omega
    · obtain rfl : i = qs.length := by omega
      have hm := HM.out qs.length
      by_cases hct : op = 50 ∨ op = 51 ∨ op = 52
      · have HV : Hid (wgt op = op.toNat - 48 ∧ 50 ≤ op.toNat ∧ op.toNat ≤ 52 ∧ (decide (op = 50) || decide (op = 51) || decide (op = 52)) = true) := by rcases hct with rfl | rfl | rfl <;> (show _ ∧ _; decide)
        obtain ⟨hv1, hv2, hv3, hv4⟩ := HV.out
        rw [hv4] at HCO
        have HW := Lib.hid hv1
        generalize op.toNat = o at *
        clear HV hv1 hv4 hct
        have hwu : IntKind.u8.wrap ((o : Int) - 48) = (o : Int) - 48 := IntWalk.u8_in _ (by omega)
        go_wp2_with fail
        refine (HCO.out ()).mono ?_; rintro _ w2 ⟨rfl, hw2⟩; rw [hw2]; clear hw2 w2
        go_wp2_with fail
        go_ret
        refine ⟨?_, rfl⟩
        rw [HW.out]
        refine Eq.trans (b := Ending.returned (.int .i64 ((mx R qs.length : Int) + ((o : Int) - 48)))) rfl ?_
        congr 2
        omega
      · have hw0 : wgt op = if Fm.isQu op then 1 else 0 := by
          unfold wgt
          rw [if_neg (fun e => hct (.inl e)), if_neg (fun e => hct (.inr (.inl e))), if_neg (fun e => hct (.inr (.inr e)))]
        have hf : (decide (op = 50) || decide (op = 51) || decide (op = 52)) = false := by
          rw [Bool.or_eq_false_iff, Bool.or_eq_false_iff]
          exact ⟨⟨decide_eq_false fun e => hct (.inl e), decide_eq_false fun e => hct (.inr (.inl e))⟩, decide_eq_false fun e => hct (.inr (.inr e))⟩
        rw [hf] at HCO
        have HW := Lib.hid hw0
        clear hw0 hf hct
        cases hb : Fm.isQu op
        all_goals
          rw [hb] at HQU HW
          go_wp2_with fail
          refine (HCO.out ()).mono ?_; rintro _ w2 ⟨rfl, hw2⟩; rw [hw2]; clear hw2 w2
          go_wp2_with fail
          refine (HQU.out ()).mono ?_; rintro _ w2 ⟨rfl, hw2⟩; rw [← hw2]; clear hw2 w2
          go_wp2_with fail
          go_ret
          exact ⟨by rw [HW.out]; first | rfl | simp, rfl⟩
theorem rank_any {F : Nat → Prop} {w : World} : ∀ {φ : Fm.T} {p : Nat}, Tree F w φ p → Fm.rank φ ≤ 100000 → Calls Tryz.prog 39 #[ptrV p] w fun e w' => e = .returned (.int .i64 (Fm.rank φ : Int)) ∧ w' = w
  | .lit b, p, ⟨v, u, h⟩, _ => by
    have := rank_step w h (fun _ => 0) (fun _ => Nat.zero_le _) (fun j hj => absurd hj (by simp))
    have e : mx (fun _ => 0) ([] : List Nat).length + wgt (Fm.T.op (.lit b)) = Fm.rank (.lit b) := by cases b <;> decide
    rw [e] at this; exact this
  | .set x, p, ⟨v, u, h⟩, _ => rank_step w h (fun _ => 0) (fun _ => Nat.zero_le _) (fun j hj => absurd hj (by simp))
  | .rel e x y, p, ⟨v, u, h⟩, _ => by
    have := rank_step w h (fun _ => 0) (fun _ => Nat.zero_le _) (fun j hj => absurd hj (by simp))
    have e : mx (fun _ => 0) ([] : List Nat).length + wgt (Fm.T.op (.rel e x y)) = Fm.rank (.rel e x y) := by cases e <;> rfl
    rw [e] at this; exact this
  | .neg f, p, ⟨v, u, q, h, hf⟩, hk => by
    have hk' : Fm.rank f ≤ 100000 := hk
    have := rank_step w h (fun _ => Fm.rank f) (fun _ => hk') (fun j hj => by
      obtain rfl : j = 0 := by simp at hj; omega
      exact rank_any hf hk')
    have e : mx (fun _ => Fm.rank f) [q].length + wgt (Fm.T.op (.neg f)) = Fm.rank (.neg f) := by
      show max 0 (Fm.rank f) + 0 = Fm.rank f; omega
    rw [e] at this; exact this
  | .bin o f g, p, ⟨v, u, q, r, h, hf, hg⟩, hk => by
    have hk' : max (Fm.rank f) (Fm.rank g) ≤ 100000 := hk
    have := rank_step w h (fun j => if j = 0 then Fm.rank f else Fm.rank g) (fun j => by split <;> omega) (fun j hj => by
      rcases (show j = 0 ∨ j = 1 by simp at hj; omega) with rfl | rfl
      · exact rank_any hf (by omega)
      · exact rank_any hg (by omega))
    have e : mx (fun j => if j = 0 then Fm.rank f else Fm.rank g) [q, r].length + wgt (Fm.T.op (.bin o f g)) = Fm.rank (.bin o f g) := by
      have e0 : wgt (Fm.T.op (.bin o f g)) = 0 := by cases o <;> rfl
      rw [e0]
      show max (max 0 (Fm.rank f)) (Fm.rank g) + 0 = max (Fm.rank f) (Fm.rank g); omega
    rw [e] at this; exact this
  | .qu k x f, p, ⟨v, u, q, h, hf⟩, hk => by
    have hk' : Fm.rank f + k.rank ≤ 100000 := hk
    have := rank_step w h (fun _ => Fm.rank f) (fun _ => by omega) (fun j hj => by
      obtain rfl : j = 0 := by simp at hj; omega
      exact rank_any hf (by omega))
    have e : mx (fun _ => Fm.rank f) [q].length + wgt (Fm.T.op (.qu k x f)) = Fm.rank (.qu k x f) := by
      have e0 : wgt (Fm.T.op (.qu k x f)) = k.rank := by cases k <;> rfl
      rw [e0]
      show max 0 (Fm.rank f) + k.rank = Fm.rank f + k.rank; omega
    rw [e] at this; exact this
end Go.Proofs.YtihomcedaaiidaaGreatDoor
namespace Go.Proofs.YtihomcedaaiidaaGreatDoor
open Go.RowKit
set_option linter.unusedVariables false
set_option maxRecDepth 100000
theorem rank_text : ∀ φ : Fm.T, Fm.rank φ ≤ 4 * (Fm.text φ).length
  | .lit b => Nat.zero_le _
  | .set x => Nat.zero_le _
  | .rel e x y => Nat.zero_le _
  | .neg f => by have := rank_text f; simp only [Fm.rank, Fm.text, List.length_cons]; omega
  | .bin o f g => by have := rank_text f; have := rank_text g; simp only [Fm.rank, Fm.text, List.length_cons, List.length_append]; omega
  | .qu k x f => by have := rank_text f; have : k.rank ≤ 4 := by { cases k <;> decide }; simp only [Fm.rank, Fm.text, List.length_cons]; omega
/-- What RankOf answers. -/
def rankV (f : ByteArray) : Int := match readB f with | none => -1 | some φ => (Fm.rank φ : Int)
theorem RankOf_any (f : ByteArray) (w : World) (hf : f.size ≤ 9223372036854775807) : Calls Tryz.prog 13 #[.string f] w fun e w' => e = .returned (.int .i64 (rankV f)) ∧ Below w.heap.size w w' := by
  have HP := Lib.hid (fun w => parseFormula_any f w hf)
  obtain ⟨R, hR⟩ : ∃ R, rankV f = R := ⟨_, rfl⟩
  rw [hR]
  have HR : Hid (match readB f with | none => R = -1 | some φ => R = (Fm.rank φ : Int) ∧ Fm.rank φ ≤ 100000) := by
    show match readB f with | none => R = -1 | some φ => R = (Fm.rank φ : Int) ∧ Fm.rank φ ≤ 100000
    unfold rankV at hR
    cases hr : readB f with
    | none => rw [hr] at hR; exact hR.symm
    | some φ =>
      rw [hr] at hR
      refine ⟨hR.symm, ?_⟩
      unfold readB at hr
      obtain ⟨h1, h2⟩ := Fm.read_iff.1 hr
      rw [h1] at h2
      have := rank_text φ
      omega
  clear hR
  generalize readB f = S at *
  go_enter Tryz.func13, Tryz.ntmps13
  go_wp2_with fail
  refine (HP.out _).mono ?_; rintro e w1 ⟨hb, ⟨rfl, rfl⟩ | ⟨φ, p, rfl, rfl, ht⟩⟩
  · have HB := Lib.hid hb; clear hb
    go_wp2_with fail
    go_ret
    exact ⟨by rw [HR.out]; rfl, HB.out⟩
  · have HB := Lib.hid hb; clear hb
    have HK := Lib.hid (rank_any ht HR.out.2)
    clear ht
    unfold ptrV at HK ⊢
    go_wp2_with fail
    refine HK.out.mono ?_; rintro _ w2 ⟨rfl, hw2⟩; rw [hw2]; clear hw2 w2
    go_wp2_with fail
    go_ret
    exact ⟨by rw [HR.out.1]; rfl, HB.out⟩
end Go.Proofs.YtihomcedaaiidaaGreatDoor

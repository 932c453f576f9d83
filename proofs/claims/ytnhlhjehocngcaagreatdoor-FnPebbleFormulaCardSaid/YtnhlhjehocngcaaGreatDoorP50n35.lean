/- Contracts of the program's functions and what they compute: part 35. Conditions: those that each theorem states. -/
import Derived.Test.YtnhlhjehocngcaaGreatDoorP50n34
import Derived.Test.YtnhlhjehocngcaaGreatDoorP50n9
import Derived.Test.YtnhlhjehocngcaaGreatDoorP50n31
import Derived.Test.YtnhlhjehocngcaaGreatDoorP50n10
import Derived.Test.YtnhlhjehocngcaaGreatDoorP50n23
import Derived.IntWalk
namespace Go.Proofs.YtnhlhjehocngcaaGreatDoor
open Go.RowKit
set_option linter.unusedVariables false
theorem index_count (c : UInt8) : decide (0 ≤ Lib.indexByte [50, 51, 52] c) = (decide (c = 50) || decide (c = 51) || decide (c = 52)) := by
  simp only [index_cons]
  by_cases h3 : c = 50
  · subst h3; decide
  by_cases h4 : c = 51
  · subst h4; decide
  by_cases h5 : c = 52
  · subst h5; decide
  simp [h3, h4, h5, Ne.symm h3, Ne.symm h4, Ne.symm h5, Lib.indexByte]
theorem counting_any {F : Nat → Prop} {p : Nat} {op : UInt8} {vs : List (Fin 4)} {qs : List Nat} {fr al : Nat} {v u : Value} (w : World) (h : Nd F w p op vs qs fr al v u) :
    Calls Tryz.prog 81 #[ptrV p] w fun e w' => e = .returned (.bool (decide (op = 50) || decide (op = 51) || decide (op = 52))) ∧ w' = w := by
  have hc := h.cells.1
  have HI := Lib.hid (fun w => indexByte_any ⟨#[50, 51, 52]⟩ (op.toNat : Int) w)
  have e0 : ((⟨#[50, 51, 52]⟩ : ByteArray).data.toList) = [50, 51, 52] := rfl
  have e1 : ((op.toNat : Int).toNat.toUInt8) = op := by simp
  rw [e0, e1] at HI
  have HQ := Lib.hid (index_count op)
  generalize Lib.indexByte [50, 51, 52] op = P at *
  clear h e0 e1
  unfold ptrV
  go_enter Tryz.func81, Tryz.ntmps81
  go_wp2_with fail
  refine (HI.out _).mono ?_; rintro e w' ⟨rfl, hw⟩; rw [hw]; clear hw
  go_wp2_with fail
  go_ret
  exact ⟨ret_bool HQ.out, rfl⟩
/-- The greatest of the first numbers. -/
def mx (R : Nat → Nat) : Nat → Nat
  | 0 => 0
  | i + 1 => max (mx R i) (R i)
theorem mx_le {R : Nat → Nat} {m : Nat} (h : ∀ j, R j ≤ m) : ∀ i, mx R i ≤ m
  | 0 => Nat.zero_le _
  | i + 1 => Nat.max_le.2 ⟨mx_le h i, h i⟩
/-- What a letter adds to the rank. -/
def wgt (op : UInt8) : Nat := if op = 50 then 2 else if op = 51 then 3 else if op = 52 then 4 else if Fm.isQu op then 1 else 0
set_option maxHeartbeats 1000000 in
theorem rank_step {F : Nat → Prop} {p : Nat} {op : UInt8} {vs : List (Fin 4)} {qs : List Nat} {fr al : Nat} {v u : Value} (w : World) (h : Nd F w p op vs qs fr al v u) (R : Nat → Nat) (hR : ∀ j, R j ≤ 100000)
    (hq : ∀ j, j < qs.length → Calls Tryz.prog 38 #[ptrV (qs.getD j 0)] w fun e w' => e = .returned (.int .i64 (R j : Int)) ∧ w' = w) :
    Calls Tryz.prog 38 #[ptrV p] w fun e w' => e = .returned (.int .i64 ((mx R qs.length + wgt op : Nat) : Int)) ∧ w' = w := by
  have hc := h.cells.1
  have hp := h.cells.2.2.1
  have HCO := Lib.hid (fun (_ : Unit) => counting_any w h)
  have HQU := Lib.hid (fun (_ : Unit) => quant_any w h)
  have HQ := Lib.hid hq
  have HM := Lib.hid (mx_le hR)
  obtain ⟨a, cap, rfl, hl1, hl2, hg⟩ := h.parts.view
  rw [List.length_map] at hl1 hp hg
  have HG := Lib.hid hg
  unfold maxLen at hl2
  clear h hq hg
  unfold ptrV at HCO HQU ⊢
  go_enter Tryz.func38, Tryz.ntmps38
  go_wp2_with fail
  go_loopw [11, 3] (fun q m wr => wr = w ∧ ∃ i : Nat, i ≤ qs.length ∧ q = .int .i64 (i : Int) ∧ m = .int .i64 (mx R i : Int)) (fun q _ _ => qs.length - (intOf q).toNat)
  case atStart => exact ⟨rfl, 0, by omega, rfl, rfl⟩
  case round =>
    obtain ⟨hw, i, hi, rfl, rfl⟩ := hrel
    rw [hw]; clear hw
    by_cases hlt : i < qs.length
    · obtain ⟨g, rfl, _, hgl, hcell⟩ := HG.out (by omega)
      have hx : w.cell? ⟨g, i, none⟩ = some (.pointer (some ⟨qs.getD i 0, 0, none⟩)) := by
        rw [hcell i hlt]; simp [hlt, ptrV]
      have HX := Lib.hid (HQ.out i hlt)
      have hm := HM.out i
      have hr := hR i
      have hilt : (i : Int) < (qs.length : Int) := by omega
      have hS : mx R (i + 1) = max (mx R i) (R i) := rfl
      have HS : Hid (mx R (i + 1) = max (mx R i) (R i)) := hS
      clear hcell hS
      unfold ptrV at HX
      generalize qs.getD i 0 = q at *
      generalize R i = r at *
      generalize mx R i = m at *
      by_cases hmr : (r : Int) > (m : Int)
      · go_wp2_with fail
        refine HX.out.mono ?_; rintro _ w2 ⟨rfl, hw2⟩; rw [hw2]; clear hw2 w2
        go_wp2_with fail
        go_roundw
        case rel => exact ⟨trivial, i + 1, by omega, by go_num, by rw [HS.out, Nat.max_eq_right (by omega), Int.max_eq_right (by omega)]⟩
        case measure => simp [intOf]; omega
      · go_wp2_with fail
        refine HX.out.mono ?_; rintro _ w2 ⟨rfl, hw2⟩; rw [hw2]; clear hw2 w2
        go_wp2_with fail
        go_roundw
        case rel => exact ⟨trivial, i + 1, by omega, by go_num, by rw [HS.out, Nat.max_eq_left (by omega), Int.max_eq_left (by omega)]⟩
        case measure => simp [intOf]; omega
    · obtain rfl : i = qs.length := by omega
      have hm := HM.out qs.length
      by_cases hct : op = 50 ∨ op = 51 ∨ op = 52
      · have HV : Hid (wgt op = op.toNat - 48 ∧ 50 ≤ op.toNat ∧ op.toNat ≤ 52 ∧ (decide (op = 50) || decide (op = 51) || decide (op = 52)) = true) := by rcases hct with rfl | rfl | rfl <;> (show _ ∧ _; decide)
        obtain ⟨hv1, hv2, hv3, hv4⟩ := HV.out
        rw [hv4] at HCO
        have HW := Lib.hid hv1
        generalize op.toNat = o at *
        clear HV hv1 hv4 hct
        have hwu : IntKind.u8.wrap ((o : Int) - 48) = (o : Int) - 48 := IntWalk.u8_in _ (by omega)
        go_wp2_with fail
        refine (HCO.out ()).mono ?_; rintro _ w2 ⟨rfl, hw2⟩; rw [hw2]; clear hw2 w2
        go_wp2_with fail
        go_ret
        refine ⟨?_, rfl⟩
        rw [HW.out]
        refine Eq.trans (b := Ending.returned (.int .i64 ((mx R qs.length : Int) + ((o : Int) - 48)))) rfl ?_
        congr 2
        omega
      · have hw0 : wgt op = if Fm.isQu op then 1 else 0 := by
          unfold wgt
          rw [if_neg (fun e => hct (.inl e)), if_neg (fun e => hct (.inr (.inl e))), if_neg (fun e => hct (.inr (.inr e)))]
        have hf : (decide (op = 50) || decide (op = 51) || decide (op = 52)) = false := by
          rw [Bool.or_eq_false_iff, Bool.or_eq_false_iff]
          exact ⟨⟨decide_eq_false fun e => hct (.inl e), decide_eq_false fun e => hct (.inr (.inl e))⟩, decide_eq_false fun e => hct (.inr (.inr e))⟩
        rw [hf] at HCO
        have HW := Lib.hid hw0
        clear hw0 hf hct
        cases hb : Fm.isQu op
        all_goals
          rw [hb] at HQU HW
          go_wp2_with fail
          refine (HCO.out ()).mono ?_; rintro _ w2 ⟨rfl, hw2⟩; rw [hw2]; clear hw2 w2
          go_wp2_with fail
          refine (HQU.out ()).mono ?_; rintro _ w2 ⟨rfl, hw2⟩; rw [← hw2]; clear hw2 w2
          go_wp2_with fail
          go_ret
          exact ⟨by rw [HW.out]; first | rfl | simp, rfl⟩
theorem rank_any {F : Nat → Prop} {w : World} : ∀ {φ : Fm.T} {p : Nat}, Tree F w φ p → Fm.rank φ ≤ 100000 → Calls Tryz.prog 38 #[ptrV p] w fun e w' => e = .returned (.int .i64 (Fm.rank φ : Int)) ∧ w' = w
  | .lit b, p, ⟨v, u, h⟩, _ => by
    have := rank_step w h (fun _ => 0) (fun _ => Nat.zero_le _) (fun j hj => absurd hj (by simp))
    have e : mx (fun _ => 0) ([] : List Nat).length + wgt (Fm.T.op (.lit b)) = Fm.rank (.lit b) := by cases b <;> decide
    rw [e] at this; exact this
  | .set x, p, ⟨v, u, h⟩, _ => rank_step w h (fun _ => 0) (fun _ => Nat.zero_le _) (fun j hj => absurd hj (by simp))
  | .rel e x y, p, ⟨v, u, h⟩, _ => by
    have := rank_step w h (fun _ => 0) (fun _ => Nat.zero_le _) (fun j hj => absurd hj (by simp))
    have e : mx (fun _ => 0) ([] : List Nat).length + wgt (Fm.T.op (.rel e x y)) = Fm.rank (.rel e x y) := by cases e <;> rfl
    rw [e] at this; exact this
  | .neg f, p, ⟨v, u, q, h, hf⟩, hk => by
    have hk' : Fm.rank f ≤ 100000 := hk
    have := rank_step w h (fun _ => Fm.rank f) (fun _ => hk') (fun j hj => by
      obtain rfl : j = 0 := by simp at hj; omega
      exact rank_any hf hk')
    have e : mx (fun _ => Fm.rank f) [q].length + wgt (Fm.T.op (.neg f)) = Fm.rank (.neg f) := by
      show max 0 (Fm.rank f) + 0 = Fm.rank f; omega
    rw [e] at this; exact this
  | .bin o f g, p, ⟨v, u, q, r, h, hf, hg⟩, hk => by
    have hk' : max (Fm.rank f) (Fm.rank g) ≤ 100000 := hk
    have := rank_step w h (fun j => if j = 0 then Fm.rank f else Fm.rank g) (fun j => by split <;> omega) (fun j hj => by
      rcases (show j = 0 ∨ j = 1 by simp at hj; omega) with rfl | rfl
      · exact rank_any hf (by omega)
      · exact rank_any hg (by omega))
    have e : mx (fun j => if j = 0 then Fm.rank f else Fm.rank g) [q, r].length + wgt (Fm.T.op (.bin o f g)) = Fm.rank (.bin o f g) := by
      have e0 : wgt (Fm.T.op (.bin o f g)) = 0 := by cases o <;> rfl
      rw [e0]
      show max (max 0 (Fm.rank f)) (Fm.rank g) + 0 = max (Fm.rank f) (Fm.rank g); omega
    rw [e] at this; exact this
  | .qu k x f, p, ⟨v, u, q, h, hf⟩, hk => by
    have hk' : Fm.rank f + k.rank ≤ 100000 := hk
    have := rank_step w h (fun _ => Fm.rank f) (fun _ => by omega) (fun j hj => by
      obtain rfl : j = 0 := by simp at hj; omega
      exact rank_any hf (by omega))
    have e : mx (fun _ => Fm.rank f) [q].length + wgt (Fm.T.op (.qu k x f)) = Fm.rank (.qu k x f) := by
      have e0 : wgt (Fm.T.op (.qu k x f)) = k.rank := by cases k <;> rfl
      rw [e0]
      show max 0 (Fm.rank f) + k.rank = Fm.rank f + k.rank; omega
    rw [e] at this; exact this
end Go.Proofs.YtnhlhjehocngcaaGreatDoor
namespace Go.Proofs.YtnhlhjehocngcaaGreatDoor
open Go.RowKit
set_option linter.unusedVariables false
set_option maxRecDepth 100000
theorem rank_text : ∀ φ : Fm.T, Fm.rank φ ≤ 4 * (Fm.text φ).length
  | .lit b => Nat.zero_le _
  | .set x => Nat.zero_le _
  | .rel e x y => Nat.zero_le _
  | .neg f => by have := rank_text f; simp only [Fm.rank, Fm.text, List.length_cons]; omega
  | .bin o f g => by have := rank_text f; have := rank_text g; simp only [Fm.rank, Fm.text, List.length_cons, List.length_append]; omega
  | .qu k x f => by have := rank_text f; have : k.rank ≤ 4 := by { cases k <;> decide }; simp only [Fm.rank, Fm.text, List.length_cons]; omega
/-- What RankOf answers. -/
def rankV (f : ByteArray) : Int := match readB f with | none => -1 | some φ => (Fm.rank φ : Int)
theorem RankOf_any (f : ByteArray) (w : World) (hf : f.size ≤ 9223372036854775807) : Calls Tryz.prog 11 #[.string f] w fun e w' => e = .returned (.int .i64 (rankV f)) ∧ Below w.heap.size w w' := by
  have HP := Lib.hid (fun w => parseFormula_any f w hf)
  obtain ⟨R, hR⟩ : ∃ R, rankV f = R := ⟨_, rfl⟩
  rw [hR]
  have HR : Hid (match readB f with | none => R = -1 | some φ => R = (Fm.rank φ : Int) ∧ Fm.rank φ ≤ 100000) := by
    show match readB f with | none => R = -1 | some φ => R = (Fm.rank φ : Int) ∧ Fm.rank φ ≤ 100000
    unfold rankV at hR
    cases hr : readB f with
    | none => rw [hr] at hR; exact hR.symm
    | some φ =>
      rw [hr] at hR
      refine ⟨hR.symm, ?_⟩
      unfold readB at hr
      obtain ⟨h1, h2⟩ := Fm.read_iff.1 hr
      rw [h1] at h2
      have := rank_text φ
      omega
  clear hR
  generalize readB f = S at *
  go_enter Tryz.func11, Tryz.ntmps11
  go_wp2_with fail
  refine (HP.out _).mono ?_; rintro e w1 ⟨hb, ⟨rfl, rfl⟩ | ⟨φ, p, rfl, rfl, ht⟩⟩
  · have HB := Lib.hid hb; clear hb
    go_wp2_with fail
    go_ret
    exact ⟨by rw [HR.out]; rfl, HB.out⟩
  · have HB := Lib.hid hb; clear hb
    have HK := Lib.hid (rank_any ht HR.out.2)
    clear ht
    unfold ptrV at HK ⊢
    go_wp2_with fail
    refine HK.out.mono ?_; rintro _ w2 ⟨rfl, hw2⟩; rw [hw2]; clear hw2 w2
    go_wp2_with fail
    go_ret
    exact ⟨by rw [HR.out.1]; rfl, HB.out⟩
end Go.Proofs.YtnhlhjehocngcaaGreatDoor

namespace Go.Proofs.YtnhlhjehocngcaaGreatDoor
open Go.RowKit
set_option linter.unusedVariables false
theorem joinL_from (op : ByteArray) : ∀ (L : List ByteArray) (o : ByteArray), L.foldl (fun o x => o ++ (op ++ x)) o = o ++ joinL op L
  | [], o => by show o = o ++ ByteArray.empty; simp
  | x :: L, o => by
    show L.foldl _ (o ++ (op ++ x)) = o ++ L.foldl _ (ByteArray.empty ++ (op ++ x))
    rw [joinL_from op L (o ++ (op ++ x)), joinL_from op L (ByteArray.empty ++ (op ++ x))]
    simp [ByteArray.append_assoc]
theorem joinL_cons (op x : ByteArray) (L : List ByteArray) : joinL op (x :: L) = op ++ x ++ joinL op L := by
  show L.foldl _ (ByteArray.empty ++ (op ++ x)) = _
  rw [joinL_from op L]; simp
theorem joinP_two (op m n : ByteArray) (M : List ByteArray) : joinP op (m :: n :: M) = op ++ m ++ joinP op (n :: M) := by
  unfold joinP
  rw [if_neg (by simp), if_neg (by simp)]
  have e1 : (m :: n :: M).take ((m :: n :: M).length - 1) = m :: (n :: M).take ((n :: M).length - 1) := by simp
  have e2 : (m :: n :: M).getD ((m :: n :: M).length - 1) ByteArray.empty = (n :: M).getD ((n :: M).length - 1) ByteArray.empty := by simp [List.getD_eq_getElem?_getD]
  rw [e1, e2, joinL_cons, ByteArray.append_assoc (a := op ++ m)]
theorem joinP_one (op m : ByteArray) : joinP op [m] = m := by
  unfold joinP
  rw [if_neg (by simp)]
  show joinL op [] ++ m = m
  show ByteArray.empty ++ m = m
  simp
namespace Fm
/-- All of some formulas. -/
def conj : List T → T
  | [] => .lit true
  | [a] => a
  | a :: b :: l => .bin false a (conj (b :: l))
theorem text_conj : ∀ (L : List T) (M : List ByteArray), M.map (fun s => s.data.toList) = L.map text → (joinP ⟨#[38]⟩ M).data.toList = text (conj L)
  | [], M, h => by
    obtain rfl : M = [] := by simpa using h
    rfl
  | [a], M, h => by
    match M, h with
    | [m], h =>
      rw [joinP_one]
      show m.data.toList = text a
      simpa using h
    | [], h => simp at h
    | _ :: _ :: _, h => simp at h
  | a :: b :: l, M, h => by
    match M, h with
    | [], h => simp at h
    | [_], h => simp at h
    | m :: n :: M, h =>
      have h' : m.data.toList = text a ∧ (n :: M).map (fun s => s.data.toList) = (b :: l).map text := by
        simp only [List.map_cons, List.cons.injEq] at h
        exact ⟨h.1, by rw [List.map_cons, List.map_cons, h.2.1, h.2.2]⟩
      rw [joinP_two]
      have ih := text_conj (b :: l) (n :: M) h'.2
      show _ = (38 : UInt8) :: (text a ++ text (conj (b :: l)))
      rw [ByteArray.data_append, ByteArray.data_append, Array.toList_append, Array.toList_append, ih, h'.1]
      rfl
theorem holds_conj (a : Gs.St) (e : Env) : ∀ L : List T, holds a (conj L) e = L.all fun f => holds a f e
  | [] => rfl
  | [f] => by simp [conj]
  | f :: g :: l => by
    show (holds a f e && holds a (conj (g :: l)) e) = _
    rw [holds_conj a e (g :: l)]; rfl
theorem rank_conj : ∀ L : List T, rank (conj L) = (L.map rank).foldr max 0
  | [] => rfl
  | [f] => by simp [conj]
  | f :: g :: l => by
    show max (rank f) (rank (conj (g :: l))) = _
    rw [rank_conj (g :: l)]; rfl
theorem free_conj (u : Fin 4) : ∀ L : List T, (free (conj L)).testBit u.val = L.any fun f => (free f).testBit u.val
  | [] => by show (0 : Nat).testBit u.val = _; simp
  | [f] => by simp [conj]
  | f :: g :: l => by
    show (free (.bin false f (conj (g :: l)))).testBit u.val = _
    rw [free_bin, free_conj u (g :: l)]; rfl
theorem vars_conj (u : Fin 4) : ∀ L : List T, (vars (conj L)).testBit u.val = L.any fun f => (vars f).testBit u.val
  | [] => by show (0 : Nat).testBit u.val = _; simp
  | [f] => by simp [conj]
  | f :: g :: l => by
    show (vars f ||| vars (conj (g :: l))).testBit u.val = _
    rw [Nat.testBit_or, vars_conj u (g :: l)]; rfl
end Fm
theorem cnt_one {p : Nat → Bool} : ∀ {n : Nat}, 1 ≤ Fm.cnt p n ↔ ∃ x, x < n ∧ p x = true
  | 0 => by simp [Fm.cnt]
  | n + 1 => by
    have ih := cnt_one (p := p) (n := n)
    unfold Fm.cnt
    constructor
    · intro h
      by_cases hp : p n = true
      · exact ⟨n, by omega, hp⟩
      · rw [if_neg hp] at h
        obtain ⟨x, h1, h2⟩ := ih.1 h
        exact ⟨x, by omega, h2⟩
    · rintro ⟨x, h1, h2⟩
      by_cases hx : x = n
      · subst hx; rw [if_pos h2]; omega
      · have := ih.2 ⟨x, by omega, h2⟩
        omega
end Go.Proofs.YtnhlhjehocngcaaGreatDoor

namespace Go.Proofs.YtnhlhjehocngcaaGreatDoor
open Go.RowKit
set_option linter.unusedVariables false
set_option maxRecDepth 100000
/-- Elements for the variables: those under the pebbles. -/
def envP (L : List Int) : Fm.Env := fun u => elB L u.val
/-- No quantifier of a formula counts. -/
def plainF : Fm.T → Bool
  | .lit _ => true
  | .set _ => true
  | .rel _ _ _ => true
  | .neg f => plainF f
  | .bin _ f g => plainF f && plainF g
  | .qu q _ f => (match q with | .all => true | .some => true | _ => false) && plainF f
theorem plain_conj : ∀ L : List Fm.T, (∀ f ∈ L, plainF f = true) → plainF (Fm.conj L) = true
  | [], _ => rfl
  | [f], h => h f (by simp)
  | f :: g :: L, h => by
    show (plainF f && plainF (Fm.conj (g :: L))) = true
    rw [h f (by simp), plain_conj (g :: L) (fun x hx => h x (by simp [hx]))]
    rfl
/-- A text is a formula of so many turns that tells pebbles apart. -/
def TellsF (a b : Gs.St) (t : Nat) (L M : List Int) (s : ByteArray) : Prop :=
  ∃ φ : Fm.T, s.data.toList = Fm.text φ ∧ Fm.rank φ ≤ t ∧ plainF φ = true ∧ (∀ u : Fin 4, (Fm.free φ).testBit u.val = true → u.val < L.length ∧ 0 ≤ L.getD u.val 0) ∧ (∀ u : Fin 4, (Fm.vars φ).testBit u.val = true → u.val < L.length) ∧ Fm.holds a φ (envP L) = true ∧ Fm.holds b φ (envP M) = false
theorem TellsF.more {a b : Gs.St} {t t' : Nat} {L M : List Int} {s : ByteArray} (h : TellsF a b t L M s) (ht : t ≤ t') : TellsF a b t' L M s := by
  obtain ⟨φ, h1, h2, h3⟩ := h
  exact ⟨φ, h1, by omega, h3⟩
/-- A fact with its sign. -/
theorem tells_sg {a b : Gs.St} {L M : List Int} {s : ByteArray} (φ : Fm.T) (is : Bool) (h1 : s.data.toList = Fm.text φ) (h2 : Fm.rank φ = 0) (h3 : plainF φ = true) (h4 : ∀ u : Fin 4, (Fm.free φ).testBit u.val = true → u.val < L.length ∧ 0 ≤ L.getD u.val 0) (h5 : ∀ u : Fin 4, (Fm.vars φ).testBit u.val = true → u.val < L.length) (h6 : Fm.holds a φ (envP L) = is) (h7 : Fm.holds b φ (envP M) = !is) : TellsF a b 0 L M (sgB s is) := by
  cases is with
  | true => exact ⟨φ, h1, by omega, h3, h4, h5, h6, h7⟩
  | false =>
    refine ⟨.neg φ, ?_, by show Fm.rank φ ≤ 0; omega, h3, h4, h5, ?_, ?_⟩
    · show ((⟨#[33]⟩ : ByteArray) ++ s).data.toList = 33 :: Fm.text φ
      rw [ByteArray.data_append, Array.toList_append, h1]
      rfl
    · show (!Fm.holds a φ (envP L)) = true
      rw [h6]; rfl
    · show (!Fm.holds b φ (envP M)) = false
      rw [h7]; rfl
theorem or_bit2 (v w u : Fin 4) : (1 <<< v.val ||| 1 <<< w.val).testBit u.val = (decide (v = u) || decide (w = u)) := by
  rw [Nat.testBit_or, Fm.bit_has, Fm.bit_has]
theorem el_eq {L : List Int} {i k n : Nat} (hp : Pbs n L) (hi : i < L.length) (hk : k < L.length) (h0 : ¬ L.getD i 0 < 0) (h1 : ¬ L.getD k 0 < 0) : decide (elB L k = elB L i) = decide (L.getD k 0 = L.getD i 0) := by
  unfold elB
  rw [Bool.eq_iff_iff, decide_eq_true_iff, decide_eq_true_iff]
  omega
theorem fa3_tells {a b : Gs.St} {n m : Nat} {L M : List Int} {i k : Nat} {s : ByteArray} (hr : Rdy n m L M) (hl : L.length ≤ 3) (hi : i < L.length) (hk : k ≤ i) (h0 : ¬ L.getD i 0 < 0) (h : fa3 a b L M i k = some s) : TellsF a b 0 L M s := by
  have hi4 : i < 4 := by omega
  have hk4 : k < 4 := by omega
  have hM0 : ¬ M.getD i 0 < 0 := fun h => h0 ((hr.sg i).2 h)
  have hlm := hr.len
  unfold fa3 at h
  split at h
  · cases h
  · rename_i h1
    have hM1 : ¬ M.getD k 0 < 0 := fun h => h1 ((hr.sg k).2 h)
    have rl : ∀ (e : Bool) (v w : Fin 4), v.val < L.length → w.val < L.length → ¬ L.getD v.val 0 < 0 → ¬ L.getD w.val 0 < 0 →
        Fm.rank (.rel e v w) = 0 ∧ plainF (.rel e v w) = true ∧ (∀ u : Fin 4, (Fm.free (.rel e v w)).testBit u.val = true → u.val < L.length ∧ 0 ≤ L.getD u.val 0) ∧ (∀ u : Fin 4, (Fm.vars (.rel e v w)).testBit u.val = true → u.val < L.length) := by
      intro e v w hv hw h2 h3
      refine ⟨rfl, rfl, fun u hu => ?_, fun u hu => ?_⟩
      · have hu : (decide (v = u) || decide (w = u)) = true := by rw [← or_bit2]; exact hu
        simp at hu
        rcases hu with rfl | rfl
        · exact ⟨hv, by omega⟩
        · exact ⟨hw, by omega⟩
      · have hu : (decide (v = u) || decide (w = u)) = true := by rw [← or_bit2]; exact hu
        simp at hu
        rcases hu with rfl | rfl
        · exact hv
        · exact hw
    have tx : ∀ (c : UInt8) (v w : Nat) (hv : v < 4) (hw : w < 4), ((⟨#[c]⟩ : ByteArray) ++ vnB v ++ vnB w).data.toList = [c, Fm.vb ⟨v, hv⟩, Fm.vb ⟨w, hw⟩] := fun c v w hv hw => rfl
    split at h
    · rename_i h2
      injection h with h; subst h
      obtain ⟨q1, q2, q3, q4⟩ := rl false ⟨k, hk4⟩ ⟨i, hi4⟩ (by show k < _; omega) hi h1 h0
      refine tells_sg (.rel false ⟨k, hk4⟩ ⟨i, hi4⟩) _ (tx 61 k i hk4 hi4) q1 q2 q3 q4 ?_ ?_
      · show decide (elB L k = elB L i) = _
        exact el_eq hr.la hi (by omega) h0 h1
      · show decide (elB M k = elB M i) = _
        rw [el_eq hr.lb (by omega) (by omega) hM0 hM1]
        revert h2
        cases decide (L.getD k 0 = L.getD i 0) <;> cases decide (M.getD k 0 = M.getD i 0) <;> decide
    · split at h
      · rename_i h2
        injection h with h; subst h
        obtain ⟨q1, q2, q3, q4⟩ := rl true ⟨k, hk4⟩ ⟨i, hi4⟩ (by show k < _; omega) hi h1 h0
        refine tells_sg (.rel true ⟨k, hk4⟩ ⟨i, hi4⟩) _ (tx 69 k i hk4 hi4) q1 q2 q3 q4 rfl ?_
        show b.r (elB M k) (elB M i) = _
        revert h2
        cases a.r (elB L k) (elB L i) <;> cases b.r (elB M k) (elB M i) <;> decide
      · split at h
        · rename_i h2
          injection h with h; subst h
          obtain ⟨q1, q2, q3, q4⟩ := rl true ⟨i, hi4⟩ ⟨k, hk4⟩ hi (by show k < _; omega) h0 h1
          refine tells_sg (.rel true ⟨i, hi4⟩ ⟨k, hk4⟩) _ (tx 69 i k hi4 hk4) q1 q2 q3 q4 rfl ?_
          show b.r (elB M i) (elB M k) = _
          revert h2
          cases a.r (elB L i) (elB L k) <;> cases b.r (elB M i) (elB M k) <;> decide
        · cases h
theorem firstA_tells {a b : Gs.St} {n m : Nat} {L M : List Int} (hr : Rdy n m L M) (hl : L.length ≤ 3) (h : firstA a b L M ≠ ByteArray.empty) : TellsF a b 0 L M (firstA a b L M) := by
  unfold firstA at h ⊢
  cases e : firstO a b L M with
  | none => rw [e] at h; exact absurd rfl h
  | some s =>
    show TellsF a b 0 L M s
    unfold firstO at e
    obtain ⟨i, hi, h1, _⟩ := fsO_some e
    have hi4 : i < 4 := by omega
    unfold fa1 at h1
    split at h1
    · cases h1
    · rename_i h0
      split at h1
      · rename_i h2
        injection h1 with h1; subst h1
        refine tells_sg (.set ⟨i, hi4⟩) _ rfl rfl rfl ?_ ?_ rfl ?_
        · intro u hu
          have hu : decide ((⟨i, hi4⟩ : Fin 4) = u) = true := by rw [← Fm.bit_has]; exact hu
          simp at hu
          subst hu
          exact ⟨hi, by show 0 ≤ L.getD i 0; omega⟩
        · intro u hu
          have hu : decide ((⟨i, hi4⟩ : Fin 4) = u) = true := by rw [← Fm.bit_has]; exact hu
          simp at hu
          subst hu
          exact hi
        · show b.s (elB M i) = _
          revert h2
          cases a.s (elB L i) <;> cases b.s (elB M i) <;> decide
      · obtain ⟨k, hk, h3, _⟩ := fsO_some h1
        exact fa3_tells hr hl hi (by omega) h0 h3
theorem mem_uniqL {L : List ByteArray} {f : ByteArray} (h : f ∈ L) : f ∈ uniqL L := by
  have key : ∀ (L acc : List ByteArray), f ∈ acc ∨ f ∈ L → f ∈ L.foldl addU acc := by
    intro L
    induction L with
    | nil => intro acc h; rcases h with h | h; exact h; cases h
    | cons x L ih =>
      intro acc h
      rw [List.foldl_cons]
      apply ih
      unfold addU
      rcases h with h | h
      · left
        split
        · exact h
        · exact List.mem_append.2 (.inl h)
      · rcases List.mem_cons.1 h with rfl | h
        · left
          split
          · rename_i hb
            unfold hasB at hb
            obtain ⟨g, hg, e⟩ := List.any_eq_true.1 hb
            simp at e
            subst e
            exact hg
          · simp
        · exact .inr h
  exact key L [] (.inr h)
/-- Texts of formulas. -/
theorem texts_of {P : Fm.T → Prop} : ∀ {U : List ByteArray}, (∀ s ∈ U, ∃ φ, s.data.toList = Fm.text φ ∧ P φ) → ∃ T : List Fm.T, U.map (fun s => s.data.toList) = T.map Fm.text ∧ (∀ φ ∈ T, P φ ∧ ∃ s ∈ U, s.data.toList = Fm.text φ)
  | [], _ => ⟨[], rfl, fun φ h => by cases h⟩
  | s :: U, h => by
    obtain ⟨φ, h1, h2⟩ := h s (by simp)
    obtain ⟨T, h3, h4⟩ := texts_of (U := U) (fun x hx => h x (by simp [hx]))
    refine ⟨φ :: T, by simp [h1, h3], fun ψ hψ => ?_⟩
    rcases List.mem_cons.1 hψ with rfl | hψ
    · exact ⟨h2, s, by simp, h1⟩
    · obtain ⟨h5, u, h6, h7⟩ := h4 ψ hψ
      exact ⟨h5, u, by simp [h6], h7⟩
theorem envP_set {L : List Int} {i : Nat} (hi : i < L.length) (hi4 : i < 4) (x : Nat) : Fm.upd (envP L) ⟨i, hi4⟩ x = envP (L.set i (x : Int)) := by
  funext u
  unfold Fm.upd envP elB
  rw [getD_setI _ _ _ _ hi]
  by_cases e : u = ⟨i, hi4⟩
  · rw [if_pos e, e]
    simp
  · rw [if_neg e, if_neg]
    intro h
    exact e (Fin.ext h.symm)
theorem foldr_max_le {l : List Nat} {t : Nat} (h : ∀ x ∈ l, x ≤ t) : l.foldr max 0 ≤ t := by
  induction l with
  | nil => exact Nat.zero_le _
  | cons x l ih =>
    have h1 := h x (by simp)
    have h2 := ih (fun y hy => h y (by simp [hy]))
    simp only [List.foldr_cons]
    omega
/-- A choice without a reply gives a formula. -/
theorem quB_tells {a b : Gs.St} {t : Nat} {L M : List Int} {i x : Nat} {F : Nat → ByteArray} (hr : Rdy a.n b.n L M) (hl : L.length ≤ 3) (hi : i < L.length) (hx : x < a.n) (hb : 1 ≤ b.n) (h : ∀ y, y < b.n → TellsF a b t (L.set i (x : Int)) (M.set i (y : Int)) (F y)) :
    ∃ φ : Fm.T, (quB ⟨#[83]⟩ i ((List.range b.n).map F)).data.toList = Fm.text φ ∧ Fm.rank φ ≤ t + 1 ∧ plainF φ = true ∧ (∀ u : Fin 4, (Fm.free φ).testBit u.val = true → u.val < L.length ∧ 0 ≤ L.getD u.val 0) ∧ (∀ u : Fin 4, (Fm.vars φ).testBit u.val = true → u.val < L.length) ∧ Fm.holds a φ (envP L) = true ∧ Fm.holds b φ (envP M) = false := by
  have hi4 : i < 4 := by omega
  have hlm := hr.len
  obtain ⟨T, hT1, hT2⟩ := texts_of (P := fun φ => ∃ y, y < b.n ∧ Fm.rank φ ≤ t ∧ plainF φ = true ∧ (∀ u : Fin 4, (Fm.free φ).testBit u.val = true → u.val < L.length ∧ 0 ≤ (L.set i (x : Int)).getD u.val 0) ∧ (∀ u : Fin 4, (Fm.vars φ).testBit u.val = true → u.val < L.length) ∧ Fm.holds a φ (envP (L.set i (x : Int))) = true ∧ Fm.holds b φ (envP (M.set i (y : Int))) = false) (U := uniqL ((List.range b.n).map F)) (fun s hs => by
    obtain ⟨y, hy, rfl⟩ := List.mem_map.1 ((uniqL_facts _).1 s hs)
    obtain ⟨φ, q1, q2, q3, q4, q5, q6, q7⟩ := h y (List.mem_range.1 hy)
    rw [List.length_set] at q4 q5
    exact ⟨φ, q1, y, List.mem_range.1 hy, q2, q3, q4, q5, q6, q7⟩)
  refine ⟨.qu .some ⟨i, hi4⟩ (Fm.conj T), ?_, ?_, ?_, ?_, ?_, ?_, ?_⟩
  · unfold quB
    rw [ByteArray.data_append, Array.toList_append, Fm.text_conj T _ hT1]
    rfl
  · show Fm.rank (Fm.conj T) + 1 ≤ t + 1
    rw [Fm.rank_conj]
    have := foldr_max_le (l := T.map Fm.rank) (t := t) (fun z hz => by
      obtain ⟨φ, hφ, rfl⟩ := List.mem_map.1 hz
      obtain ⟨⟨y, _, h2, _⟩, _⟩ := hT2 φ hφ
      exact h2)
    omega
  · show (true && plainF (Fm.conj T)) = true
    rw [plain_conj T (fun φ hφ => by obtain ⟨⟨y, _, _, h3, _⟩, _⟩ := hT2 φ hφ; exact h3)]
    rfl
  · intro u hu
    rw [Fm.free_qu, Fm.free_conj, Bool.and_eq_true, List.any_eq_true] at hu
    obtain ⟨⟨φ, hφ, h2⟩, h3⟩ := hu
    obtain ⟨⟨y, _, _, _, h4, _⟩, _⟩ := hT2 φ hφ
    obtain ⟨h5, h6⟩ := h4 u h2
    rw [getD_setI _ _ _ _ hi, if_neg (fun e => by simp at h3; exact h3 (Fin.ext e))] at h6
    exact ⟨h5, h6⟩
  · intro u hu
    have hu : (1 <<< i ||| Fm.vars (Fm.conj T)).testBit u.val = true := hu
    rw [Nat.testBit_or, show (1 <<< i).testBit u.val = decide ((⟨i, hi4⟩ : Fin 4) = u) from Fm.bit_has ⟨i, hi4⟩ u, Bool.or_eq_true, Fm.vars_conj, List.any_eq_true] at hu
    rcases hu with hu | ⟨φ, hφ, h2⟩
    · simp at hu
      subst hu
      exact hi
    · obtain ⟨⟨y, _, _, _, _, h5, _⟩, _⟩ := hT2 φ hφ
      exact h5 u h2
  · show decide (1 ≤ Fm.cnt (fun z => Fm.holds a (Fm.conj T) (Fm.upd (envP L) ⟨i, hi4⟩ z)) a.n) = true
    rw [decide_eq_true_iff, cnt_one]
    refine ⟨x, hx, ?_⟩
    show Fm.holds a (Fm.conj T) (Fm.upd (envP L) ⟨i, hi4⟩ x) = true
    rw [envP_set hi hi4, Fm.holds_conj, List.all_eq_true]
    intro φ hφ
    obtain ⟨⟨y, _, _, _, _, _, h6, _⟩, _⟩ := hT2 φ hφ
    exact h6
  · show decide (1 ≤ Fm.cnt (fun z => Fm.holds b (Fm.conj T) (Fm.upd (envP M) ⟨i, hi4⟩ z)) b.n) = false
    rw [decide_eq_false_iff_not, cnt_one]
    rintro ⟨y, hy, h2⟩
    have h2 : Fm.holds b (Fm.conj T) (Fm.upd (envP M) ⟨i, hi4⟩ y) = true := h2
    rw [envP_set (by omega) hi4, Fm.holds_conj, List.all_eq_true] at h2
    obtain ⟨φ, q1, q2, q3, q4, q5, q6, q7⟩ := h y hy
    have hm : F y ∈ uniqL ((List.range b.n).map F) := mem_uniqL (List.mem_map.2 ⟨y, List.mem_range.2 hy, rfl⟩)
    have h3 : (F y).data.toList ∈ T.map Fm.text := by rw [← hT1]; exact List.mem_map.2 ⟨_, hm, rfl⟩
    obtain ⟨ψ, hψ, e⟩ := List.mem_map.1 h3
    rw [q1] at e
    have e2 := Fm.text_inj e
    subst e2
    have := h2 _ hψ
    rw [q7] at this
    cases this
/-- The formula tells the pebbles apart. -/
theorem pebF_tells : ∀ (t : Nat) (a b : Gs.St) (L M : List Int), 1 ≤ a.n → 1 ≤ b.n → Rdy a.n b.n L M → L.length ≤ 3 → pwB a b a.n b.n t L M = false → TellsF a b t L M (pebF t a b L M)
  | 0, a, b, L, M, ha, hb, hr, hl, hw => by
    refine firstA_tells hr hl (fun e => ?_)
    have := (firstA_empty hr).1 e
    have h2 : pwB a b a.n b.n 0 L M = Gs.same a (layN L) b (layN M) := rfl
    rw [h2, this] at hw
    cases hw
  | t + 1, a, b, L, M, ha, hb, hr, hl, hw => by
    rw [pebF_succ]
    split
    · rename_i hs
      refine TellsF.more (firstA_tells hr hl (fun e => ?_)) (Nat.zero_le _)
      have := (firstA_empty hr).1 e
      rw [hs] at this
      cases this
    · rename_i hs
      split
      · rename_i hp
        exact (pebF_tells t a b L M ha hb hr hl hp).more (by omega)
      · rename_i hp
        obtain ⟨s, hs2⟩ := plO_some hr hw (by simpa using hs)
        rw [hs2]
        show TellsF a b (t + 1) L M s
        obtain ⟨i, hi, h1, _⟩ := fsO_some hs2
        unfold plO at h1
        have hlm := hr.len
        cases e : fsO (mvO t a b L M i) a.n with
        | some z =>
          rw [e] at h1
          have h1 : some z = some s := h1
          injection h1 with h1
          subst h1
          obtain ⟨x, hx, h2, _⟩ := fsO_some e
          unfold mvO at h2
          split at h2
          · rename_i hbt
            injection h2 with h2
            subst h2
            unfold beatA at hbt
            rw [List.all_eq_true] at hbt
            exact quB_tells hr hl hi hx hb (fun y hy => pebF_tells t a b _ _ ha hb (hr.put i hx hy) (by rw [List.length_set]; exact hl) (by simpa using hbt y (List.mem_range.2 hy)))
          · cases h2
        | none =>
          rw [e] at h1
          have h1 : fsO (mvN t b a M L i) b.n = some s := h1
          obtain ⟨x, hx, h2, _⟩ := fsO_some h1
          unfold mvN at h2
          split at h2
          · rename_i hbt
            injection h2 with h2
            subst h2
            unfold beatA at hbt
            rw [List.all_eq_true] at hbt
            obtain ⟨φ, q1, q2, q3, q4, q5, q6, q7⟩ := quB_tells (a := b) (b := a) (t := t) (L := M) (M := L) (i := i) (x := x) hr.symm (by omega) (by omega) hx ha (fun y hy => pebF_tells t b a _ _ hb ha (hr.symm.put i hx hy) (by rw [List.length_set]; omega) (by simpa using hbt y (List.mem_range.2 hy)))
            refine ⟨.neg φ, ?_, q2, q3, fun u hu => ?_, fun u hu => ?_, ?_, ?_⟩
            · show (quB ⟨#[33, 83]⟩ i _).data.toList = 33 :: Fm.text φ
              rw [← q1]
              rfl
            · obtain ⟨h5, h6⟩ := q4 u hu
              have := hr.sg u.val
              exact ⟨by omega, by omega⟩
            · have := q5 u hu
              omega
            · show (!Fm.holds a φ (envP L)) = true
              rw [q7]; rfl
            · show (!Fm.holds b φ (envP M)) = false
              rw [q6]; rfl
          · cases h2
theorem szF_three {t : Nat} (h : t ≤ 3) : szF t ≤ 2851 := by
  match t, h with
  | 0, _ => decide
  | 1, _ => decide
  | 2, _ => decide
  | 3, _ => decide
end Go.Proofs.YtnhlhjehocngcaaGreatDoor

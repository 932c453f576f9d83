/- The walk of the law FnViewGames: it returns true. Condition: the bytes are readable. -/
import Derived.Test.YtjepegkbbbebkaaGreatDoorVgA
import Derived.Test.YtjepegkbbbebkaaGreatDoorParse0
import Derived.IntWalk
import Derived.Test.YtjepegkbbbebkaaGreatDoorInterp
import Derived.Test.YtjepegkbbbebkaaGreatDoorGame0
import Derived.Test.YtjepegkbbbebkaaGreatDoorNew
import Derived.Test.YtjepegkbbbebkaaGreatDoorEach
import Derived.Test.YtjepegkbbbebkaaGreatDoorDrawS2
import Derived.Deep.RegionHeld3
import Derived.Test.YtjepegkbbbebkaaGreatDoorFind
/- The program's rank of a formula's tree. No condition. -/
namespace Go.Proofs.YtjepegkbbbebkaaGreatDoor
open Go.RowKit
set_option linter.unusedVariables false

theorem index_count (c : UInt8) : decide (0 ≤ Lib.indexByte [50, 51, 52] c) = (decide (c = 50) || decide (c = 51) || decide (c = 52)) := by
  simp only [index_cons]
  by_cases h3 : c = 50
  · subst h3; decide
  by_cases h4 : c = 51
  · subst h4; decide
  by_cases h5 : c = 52
  · subst h5; decide
  simp [h3, h4, h5, Ne.symm h3, Ne.symm h4, Ne.symm h5, Lib.indexByte]
theorem counting_any {F : Nat → Prop} {p : Nat} {op : UInt8} {vs : List (Fin 4)} {qs : List Nat} {fr al : Nat} {v u : Value} (w : World) (h : Nd F w p op vs qs fr al v u) :
    Calls Tryz.prog 99 #[ptrV p] w fun e w' => e = .returned (.bool (decide (op = 50) || decide (op = 51) || decide (op = 52))) ∧ w' = w := by
  have hc := h.cells.1
  have HI := Lib.hid (fun w => indexByte_any ⟨#[50, 51, 52]⟩ (op.toNat : Int) w)
  have e0 : ((⟨#[50, 51, 52]⟩ : ByteArray).data.toList) = [50, 51, 52] := rfl
  have e1 : ((op.toNat : Int).toNat.toUInt8) = op := by simp
  rw [e0, e1] at HI
  have HQ := Lib.hid (index_count op)
  generalize Lib.indexByte [50, 51, 52] op = P at *
  clear h e0 e1
  unfold ptrV
  go_enter Tryz.func99, Tryz.ntmps99
  go_wp2_with fail
  refine (HI.out _).mono ?_; rintro e w' ⟨rfl, hw⟩; rw [hw]; clear hw
  go_wp2_with fail
  go_ret
  exact ⟨ret_bool HQ.out, rfl⟩
/-- The greatest of the first numbers. -/
def mx (R : Nat → Nat) : Nat → Nat
  | 0 => 0
  | i + 1 => max (mx R i) (R i)
theorem mx_le {R : Nat → Nat} {m : Nat} (h : ∀ j, R j ≤ m) : ∀ i, mx R i ≤ m
  | 0 => Nat.zero_le _
  | i + 1 => Nat.max_le.2 ⟨mx_le h i, h i⟩
/-- What a letter adds to the rank. -/
def wgt (op : UInt8) : Nat := if op = 50 then 2 else if op = 51 then 3 else if op = 52 then 4 else if Fm.isQu op then 1 else 0
set_option maxHeartbeats 1000000 in
theorem rank_step {F : Nat → Prop} {p : Nat} {op : UInt8} {vs : List (Fin 4)} {qs : List Nat} {fr al : Nat} {v u : Value} (w : World) (h : Nd F w p op vs qs fr al v u) (R : Nat → Nat) (hR : ∀ j, R j ≤ 100000)
    (hq : ∀ j, j < qs.length → Calls Tryz.prog 44 #[ptrV (qs.getD j 0)] w fun e w' => e = .returned (.int .i64 (R j : Int)) ∧ w' = w) :
    Calls Tryz.prog 44 #[ptrV p] w fun e w' => e = .returned (.int .i64 ((mx R qs.length + wgt op : Nat) : Int)) ∧ w' = w := by
  have hc := h.cells.1
  have hp := h.cells.2.2.1
  have HCO := Lib.hid (fun (_ : Unit) => counting_any w h)
  have HQU := Lib.hid (fun (_ : Unit) => quant_any w h)
  have HQ := Lib.hid hq
  have HM := Lib.hid (mx_le hR)
  obtain ⟨a, cap, rfl, hl1, hl2, hg⟩ := h.parts.view
  rw [List.length_map] at hl1 hp hg
  have HG := Lib.hid hg
  unfold maxLen at hl2
  clear h hq hg
  unfold ptrV at HCO HQU ⊢
  go_enter Tryz.func44, Tryz.ntmps44
  go_wp2_with fail
  go_loopw [11, 3] (fun q m wr => wr = w ∧ ∃ i : Nat, i ≤ qs.length ∧ q = .int .i64 (i : Int) ∧ m = .int .i64 (mx R i : Int)) (fun q _ _ => qs.length - (intOf q).toNat)
  case atStart => exact ⟨rfl, 0, by omega, rfl, rfl⟩
  case round =>
    obtain ⟨hw, i, hi, rfl, rfl⟩ := hrel
    rw [hw]; clear hw
    by_cases hlt : i < qs.length
    · obtain ⟨g, rfl, _, hgl, hcell⟩ := HG.out (by omega)
      have hx : w.cell? ⟨g, i, none⟩ = some (.pointer (some ⟨qs.getD i 0, 0, none⟩)) := by
        rw [hcell i hlt]; simp [hlt, ptrV]
      have HX := Lib.hid (HQ.out i hlt)
      have hm := HM.out i
      have hr := hR i
      have hilt : (i : Int) < (qs.length : Int) := by omega
      have hS : mx R (i + 1) = max (mx R i) (R i) := rfl
      have HS : Hid (mx R (i + 1) = max (mx R i) (R i)) := hS
      clear hcell hS
      unfold ptrV at HX
      generalize qs.getD i 0 = q at *
      generalize R i = r at *
      generalize mx R i = m at *
      by_cases hmr : (r : Int) > (m : Int)
      · go_wp2_with fail
        refine HX.out.mono ?_; rintro _ w2 ⟨rfl, hw2⟩; rw [hw2]; clear hw2 w2
        go_wp2_with fail
        go_roundw
        case rel => exact ⟨trivial, i + 1, by omega, by go_num, by rw [HS.out, Nat.max_eq_right (by omega), Int.max_eq_right (by omega)]⟩
        case measure => simp [intOf]; omega
      · go_wp2_with fail
        refine HX.out.mono ?_; rintro _ w2 ⟨rfl, hw2⟩; rw [hw2]; clear hw2 w2
        go_wp2_with fail
        go_roundw
        case rel => exact ⟨trivial, i + 1, by omega, by go_num, by rw [HS.out, Nat.max_eq_left (by omega), Int.max_eq_left (by omega)]⟩
        case measure => simp [intOf]; omega
    · obtain rfl : i = qs.length := by omega
      have hm := HM.out qs.length
      by_cases hct : op = 50 ∨ op = 51 ∨ op = 52
      · have HV : Hid (wgt op = op.toNat - 48 ∧ 50 ≤ op.toNat ∧ op.toNat ≤ 52 ∧ (decide (op = 50) || decide (op = 51) || decide (op = 52)) = true) := by rcases hct with rfl | rfl | rfl <;> (show _ ∧ _; decide)
        obtain ⟨hv1, hv2, hv3, hv4⟩ := HV.out
        rw [hv4] at HCO
        have HW := Lib.hid hv1
        generalize op.toNat = o at *
        clear HV hv1 hv4 hct
        have hwu : IntKind.u8.wrap ((o : Int) - 48) = (o : Int) - 48 := IntWalk.u8_in _ (by omega)
        go_wp2_with fail
        refine (HCO.out ()).mono ?_; rintro _ w2 ⟨rfl, hw2⟩; rw [hw2]; clear hw2 w2
        go_wp2_with fail
        go_ret
        refine ⟨?_, rfl⟩
        rw [HW.out]
        refine Eq.trans (b := Ending.returned (.int .i64 ((mx R qs.length : Int) + ((o : Int) - 48)))) rfl ?_
        congr 2
        omega
      · have hw0 : wgt op = if Fm.isQu op then 1 else 0 := by
          unfold wgt
          rw [if_neg (fun e => hct (.inl e)), if_neg (fun e => hct (.inr (.inl e))), if_neg (fun e => hct (.inr (.inr e)))]
        have hf : (decide (op = 50) || decide (op = 51) || decide (op = 52)) = false := by
          rw [Bool.or_eq_false_iff, Bool.or_eq_false_iff]
          exact ⟨⟨decide_eq_false fun e => hct (.inl e), decide_eq_false fun e => hct (.inr (.inl e))⟩, decide_eq_false fun e => hct (.inr (.inr e))⟩
        rw [hf] at HCO
        have HW := Lib.hid hw0
        clear hw0 hf hct
        cases hb : Fm.isQu op
        all_goals
          rw [hb] at HQU HW
          go_wp2_with fail
          refine (HCO.out ()).mono ?_; rintro _ w2 ⟨rfl, hw2⟩; rw [hw2]; clear hw2 w2
          go_wp2_with fail
          refine (HQU.out ()).mono ?_; rintro _ w2 ⟨rfl, hw2⟩; rw [← hw2]; clear hw2 w2
          go_wp2_with fail
          go_ret
          exact ⟨by rw [HW.out]; first | rfl | simp, rfl⟩
theorem rank_any {F : Nat → Prop} {w : World} : ∀ {φ : Fm.T} {p : Nat}, Tree F w φ p → Fm.rank φ ≤ 100000 → Calls Tryz.prog 44 #[ptrV p] w fun e w' => e = .returned (.int .i64 (Fm.rank φ : Int)) ∧ w' = w
  | .lit b, p, ⟨v, u, h⟩, _ => by
    have := rank_step w h (fun _ => 0) (fun _ => Nat.zero_le _) (fun j hj => absurd hj (by simp))
    have e : mx (fun _ => 0) ([] : List Nat).length + wgt (Fm.T.op (.lit b)) = Fm.rank (.lit b) := by cases b <;> decide
    rw [e] at this; exact this
  | .set x, p, ⟨v, u, h⟩, _ => rank_step w h (fun _ => 0) (fun _ => Nat.zero_le _) (fun j hj => absurd hj (by simp))
  | .rel e x y, p, ⟨v, u, h⟩, _ => by
    have := rank_step w h (fun _ => 0) (fun _ => Nat.zero_le _) (fun j hj => absurd hj (by simp))
    have e : mx (fun _ => 0) ([] : List Nat).length + wgt (Fm.T.op (.rel e x y)) = Fm.rank (.rel e x y) := by cases e <;> rfl
    rw [e] at this; exact this
  | .neg f, p, ⟨v, u, q, h, hf⟩, hk => by
    have hk' : Fm.rank f ≤ 100000 := hk
    have := rank_step w h (fun _ => Fm.rank f) (fun _ => hk') (fun j hj => by
      obtain rfl : j = 0 := by simp at hj; omega
      exact rank_any hf hk')
    have e : mx (fun _ => Fm.rank f) [q].length + wgt (Fm.T.op (.neg f)) = Fm.rank (.neg f) := by
      show max 0 (Fm.rank f) + 0 = Fm.rank f; omega
    rw [e] at this; exact this
  | .bin o f g, p, ⟨v, u, q, r, h, hf, hg⟩, hk => by
    have hk' : max (Fm.rank f) (Fm.rank g) ≤ 100000 := hk
    have := rank_step w h (fun j => if j = 0 then Fm.rank f else Fm.rank g) (fun j => by split <;> omega) (fun j hj => by
      rcases (show j = 0 ∨ j = 1 by simp at hj; omega) with rfl | rfl
      · exact rank_any hf (by omega)
      · exact rank_any hg (by omega))
    have e : mx (fun j => if j = 0 then Fm.rank f else Fm.rank g) [q, r].length + wgt (Fm.T.op (.bin o f g)) = Fm.rank (.bin o f g) := by
      have e0 : wgt (Fm.T.op (.bin o f g)) = 0 := by cases o <;> rfl
      rw [e0]
      show max (max 0 (Fm.rank f)) (Fm.rank g) + 0 = max (Fm.rank f) (Fm.rank g); omega
    rw [e] at this; exact this
  | .qu k x f, p, ⟨v, u, q, h, hf⟩, hk => by
    have hk' : Fm.rank f + k.rank ≤ 100000 := hk
    have := rank_step w h (fun _ => Fm.rank f) (fun _ => by omega) (fun j hj => by
      obtain rfl : j = 0 := by simp at hj; omega
      exact rank_any hf (by omega))
    have e : mx (fun _ => Fm.rank f) [q].length + wgt (Fm.T.op (.qu k x f)) = Fm.rank (.qu k x f) := by
      have e0 : wgt (Fm.T.op (.qu k x f)) = k.rank := by cases k <;> rfl
      rw [e0]
      show max 0 (Fm.rank f) + k.rank = Fm.rank f + k.rank; omega
    rw [e] at this; exact this
end Go.Proofs.YtjepegkbbbebkaaGreatDoor
/- The program's RankOf and NotFormula. Condition: the text's length fits an integer. -/
namespace Go.Proofs.YtjepegkbbbebkaaGreatDoor
open Go.RowKit
set_option linter.unusedVariables false
set_option maxRecDepth 100000

theorem rank_text : ∀ φ : Fm.T, Fm.rank φ ≤ 4 * (Fm.text φ).length
  | .lit b => Nat.zero_le _
  | .set x => Nat.zero_le _
  | .rel e x y => Nat.zero_le _
  | .neg f => by have := rank_text f; simp only [Fm.rank, Fm.text, List.length_cons]; omega
  | .bin o f g => by have := rank_text f; have := rank_text g; simp only [Fm.rank, Fm.text, List.length_cons, List.length_append]; omega
  | .qu k x f => by have := rank_text f; have : k.rank ≤ 4 := by { cases k <;> decide }; simp only [Fm.rank, Fm.text, List.length_cons]; omega
/-- What RankOf answers. -/
def rankV (f : ByteArray) : Int := match readB f with | none => -1 | some φ => (Fm.rank φ : Int)
theorem RankOf_any (f : ByteArray) (w : World) (hf : f.size ≤ 9223372036854775807) : Calls Tryz.prog 12 #[.string f] w fun e w' => e = .returned (.int .i64 (rankV f)) ∧ Below w.heap.size w w' := by
  have HP := Lib.hid (fun w => parseFormula_any f w hf)
  obtain ⟨R, hR⟩ : ∃ R, rankV f = R := ⟨_, rfl⟩
  rw [hR]
  have HR : Hid (match readB f with | none => R = -1 | some φ => R = (Fm.rank φ : Int) ∧ Fm.rank φ ≤ 100000) := by
    show match readB f with | none => R = -1 | some φ => R = (Fm.rank φ : Int) ∧ Fm.rank φ ≤ 100000
    unfold rankV at hR
    cases hr : readB f with
    | none => rw [hr] at hR; exact hR.symm
    | some φ =>
      rw [hr] at hR
      refine ⟨hR.symm, ?_⟩
      unfold readB at hr
      obtain ⟨h1, h2⟩ := Fm.read_iff.1 hr
      rw [h1] at h2
      have := rank_text φ
      omega
  clear hR
  generalize readB f = S at *
  go_enter Tryz.func12, Tryz.ntmps12
  go_wp2_with fail
  refine (HP.out _).mono ?_; rintro e w1 ⟨hb, ⟨rfl, rfl⟩ | ⟨φ, p, rfl, rfl, ht⟩⟩
  · have HB := Lib.hid hb; clear hb
    go_wp2_with fail
    go_ret
    exact ⟨by rw [HR.out]; rfl, HB.out⟩
  · have HB := Lib.hid hb; clear hb
    have HK := Lib.hid (rank_any ht HR.out.2)
    clear ht
    unfold ptrV at HK ⊢
    go_wp2_with fail
    refine HK.out.mono ?_; rintro _ w2 ⟨rfl, hw2⟩; rw [hw2]; clear hw2 w2
    go_wp2_with fail
    go_ret
    exact ⟨by rw [HR.out.1]; rfl, HB.out⟩
end Go.Proofs.YtjepegkbbbebkaaGreatDoor
/- Plainly: a game on two structures that are defined alike in two others. Condition: the ranks of the formulas are not greater than the rounds that are given up. -/
namespace Go.Proofs.YtjepegkbbbebkaaGreatDoor
set_option linter.unusedVariables false

/-- The set and the relation that two formulas define. -/
def vwS (n : Nat) (S R : ByteArray) (φ : Fm.T) : ByteArray := bitsOf (fun x => Fm.holds (stOf n S R) φ (env2 x 0)) n
def vwR (n : Nat) (S R : ByteArray) (ψ : Fm.T) : ByteArray := gridOf (fun x y => Fm.holds (stOf n S R) ψ (env2 x y)) n
theorem vwRes_some {f g : ByteArray} {n : Nat} {S R : ByteArray} {φ ψ : Fm.T} (h : viewB f g = some (φ, ψ)) : intRes f g n S R = .tuple #[strV n (vwS n S R φ) (vwR n S R ψ), .bool true] := intRes_some h
theorem oneAt_bitsV (f : Nat → Bool) (n x : Nat) (h : x < n) : oneAt (bitsOf f n) x = f x := by
  unfold oneAt bitsOf
  have e : ((List.range n).map fun i => bit (f i)).getD x 0 = bit (f x) := by simp [h]
  show (((List.range n).map fun i => bit (f i)).toArray.toList.getD x 0 == 49) = f x
  rw [List.toList_toArray, e]
  cases f x <;> rfl
theorem relAt_gridV (f : Nat → Nat → Bool) (n x y : Nat) (hx : x < n) (hy : y < n) : relAt n (gridOf f n) x y = f x y := by
  unfold relAt gridOf
  have h : (x + 1) * n ≤ n * n := Nat.mul_le_mul_right _ (by omega)
  rw [Nat.succ_mul] at h
  rw [oneAt_bitsV _ _ _ (by omega)]
  exact grid_at (r := f) hy
/-- The structure that is defined, plainly. -/
def vwSt (n : Nat) (S R : ByteArray) (φ ψ : Fm.T) : Gs.St := stOf n (vwS n S R φ) (vwR n S R ψ)
theorem env2_1V (x : Nat) : env2 x 0 = Fm.env1 x := by
  funext i
  unfold env2 Fm.env1
  split
  · rfl
  · split <;> rfl
theorem vw_s {n : Nat} {S R : ByteArray} {φ ψ : Fm.T} {x : Nat} (hx : x < n) : (vwSt n S R φ ψ).s x = Fm.holds (stOf n S R) φ (Fm.env1 x) := by
  rw [← env2_1V]
  exact oneAt_bitsV _ _ _ hx
theorem vw_r {n : Nat} {S R : ByteArray} {φ ψ : Fm.T} {x y : Nat} (hx : x < n) (hy : y < n) : (vwSt n S R φ ψ).r x y = Fm.holds (stOf n S R) ψ (Fm.env2 x y) := relAt_gridV _ _ _ _ hx hy
theorem zip_mem_lt {n m : Nat} : ∀ {L M : List Nat}, (∀ x ∈ L, x < n) → (∀ y ∈ M, y < m) → ∀ p ∈ L.zip M, p.1 < n ∧ p.2 < m := fun hL hM p hp => by
  obtain ⟨h1, h2⟩ := List.of_mem_zip (a := p.1) (b := p.2) hp
  exact ⟨hL _ h1, hM _ h2⟩
theorem vw_pairs {φ ψ : Fm.T} (u1 : Fm.Upto 1 φ) (u2 : Fm.Upto 2 ψ) {n m : Nat} {S R T U : ByteArray} {k : Nat} (r1 : Fm.rank φ ≤ k) (r2 : Fm.rank ψ ≤ k) {L M : List Nat} (hL : ∀ x ∈ L, x < n) (hM : ∀ y ∈ M, y < m)
    (h : Gs.Eqv k (stOf n S R) L (stOf m T U) M) : Gs.atoms (vwSt n S R φ ψ) L = Gs.atoms (vwSt m T U φ ψ) M := by
  have hp := Fm.eqv_pairs h
  refine (Gs.pairs_iff L.length L M rfl hp.1.symm).2 ?_
  refine ⟨hp.1, fun p hp1 q hq1 => ?_⟩
  have l1 := zip_mem_lt hL hM p hp1
  have l2 := zip_mem_lt hL hM q hq1
  have h2 := hp.2 p hp1 q hq1
  refine ⟨?_, h2.2.1, ?_⟩
  · rw [vw_s l1.1, vw_s l1.2]
    refine Fm.holds_eqv φ h r1 fun u hu => ?_
    have := u1 u hu
    obtain rfl : u = 0 := Fin.ext (by simpa using this)
    exact hp1
  · rw [vw_r l1.1 l2.1, vw_r l1.2 l2.2]
    refine Fm.holds_eqv ψ h r2 fun u hu => ?_
    have := u2 u hu
    by_cases h0 : u = 0
    · subst h0; exact hp1
    · obtain rfl : u = 1 := Fin.ext (by have : u.val ≠ 0 := fun e => h0 (Fin.ext e); simp; omega)
      exact hq1
theorem vw_eqv {φ ψ : Fm.T} (u1 : Fm.Upto 1 φ) (u2 : Fm.Upto 2 ψ) {n m : Nat} {S R T U : ByteArray} {d : Nat} (r1 : Fm.rank φ ≤ d) (r2 : Fm.rank ψ ≤ d) : ∀ {k : Nat} {L M : List Nat}, (∀ x ∈ L, x < n) → (∀ y ∈ M, y < m) →
    Gs.Eqv (k + d) (stOf n S R) L (stOf m T U) M → Gs.Eqv k (vwSt n S R φ ψ) L (vwSt m T U φ ψ) M
  | 0, L, M, hL, hM, h => vw_pairs u1 u2 (k := 0 + d) (by omega) (by omega) hL hM h
  | k + 1, L, M, hL, hM, h => by
    refine ⟨vw_pairs u1 u2 (k := k + 1 + d) (by omega) (by omega) hL hM h, ?_⟩
    rw [show k + 1 + d = (k + d) + 1 by omega] at h
    obtain ⟨_, h1, h2⟩ := h
    have snoc : ∀ {l : List Nat} {z j : Nat}, (∀ x ∈ l, x < j) → z < j → ∀ x ∈ l ++ [z], x < j := fun hl hz x hx => by
      rcases List.mem_append.1 hx with hx | hx
      · exact hl x hx
      · simp at hx; subst hx; exact hz
    refine ⟨fun x hx => ?_, fun y hy => ?_⟩
    · obtain ⟨y, hy, he⟩ := h1 x hx
      exact ⟨y, hy, vw_eqv u1 u2 r1 r2 (snoc hL hx) (snoc hM hy) he⟩
    · obtain ⟨x, hx, he⟩ := h2 y hy
      exact ⟨x, hx, vw_eqv u1 u2 r1 r2 (snoc hL hx) (snoc hM hy) he⟩
end Go.Proofs.YtjepegkbbbebkaaGreatDoor
/- Lists of numbers, good or bad: SecondWins of the program and of the reference. Conditions: the texts of the structures are not long. -/
namespace Go.Proofs.YtjepegkbbbebkaaGreatDoor
open Go.RowKit
set_option linter.unusedVariables false
set_option maxRecDepth 100000

/-- A slice that reads as numbers. -/
def IntsAt (w : World) (v : Value) (L : List Int) : Prop :=
  (v = .slice none 0 0 ∧ L = []) ∨ ∃ g o cap, v = .slice (some ⟨g, o, none⟩) L.length cap ∧ L.length ≤ cap ∧ cap ≤ maxLen ∧ g < w.heap.size ∧ ∀ j, j < L.length → w.cell? ⟨g, o + j, none⟩ = some (.int .i64 (L.getD j 0))
theorem IntsAt.view {w : World} {v : Value} {L : List Int} (h : IntsAt w v L) : ∃ (a : Option Addr) (cap : Nat), v = .slice a L.length cap ∧ L.length ≤ cap ∧ cap ≤ maxLen ∧
    (0 < L.length → ∃ g o, a = some ⟨g, o, none⟩ ∧ g < w.heap.size ∧ ∀ j, j < L.length → w.cell? ⟨g, o + j, none⟩ = some (.int .i64 (L.getD j 0))) := by
  rcases h with ⟨rfl, rfl⟩ | ⟨g, o, cap, rfl, h1, h2, h3, h4⟩
  · exact ⟨none, 0, rfl, Nat.le_refl _, by decide, fun h => absurd h (by simp)⟩
  · exact ⟨_, cap, rfl, h1, h2, fun _ => ⟨g, o, rfl, h3, h4⟩⟩
theorem IntsAt.below {w w' : World} {v : Value} {L : List Int} (h : IntsAt w v L) (hb : Below w.heap.size w w') : IntsAt w' v L := by
  rcases h with h | ⟨g, o, cap, rfl, h1, h2, hg, hc⟩
  · exact .inl h
  · exact .inr ⟨g, o, cap, rfl, h1, h2, Nat.lt_of_lt_of_le hg hb.size, fun j hj => (hb.cell (p := ⟨g, o + j, none⟩) hg).trans (hc j hj)⟩
theorem NumsAt.ints {w : World} {v : Value} {L : List Nat} (h : NumsAt w v L) : IntsAt w v (List.map (fun x : Nat => (x : Int)) L) := by
  rcases h with ⟨rfl, rfl⟩ | ⟨g, o, cap, rfl, h1, h2, hg, hc⟩
  · exact .inl ⟨rfl, rfl⟩
  · refine .inr ⟨g, o, cap, by rw [List.length_map], by rw [List.length_map]; exact h1, h2, hg, fun j hj => ?_⟩
    rw [List.length_map] at hj
    rw [hc j hj]
    simp [hj]
theorem IntsAt.nums {w : World} {v : Value} {L : List Int} (h : IntsAt w v L) (h0 : ∀ x ∈ L, 0 ≤ x) : NumsAt w v (L.map Int.toNat) := by
  rcases h with ⟨rfl, rfl⟩ | ⟨g, o, cap, rfl, h1, h2, hg, hc⟩
  · exact .inl ⟨rfl, rfl⟩
  · refine .inr ⟨g, o, cap, by rw [List.length_map], by rw [List.length_map]; exact h1, h2, hg, fun j hj => ?_⟩
    rw [List.length_map] at hj
    rw [hc j hj]
    have h2 := h0 _ (List.getElem_mem hj)
    have e : L.getD j 0 = (((L.map Int.toNat).getD j 0 : Nat) : Int) := by
      simp [hj]; omega
    rw [e]
def inR (n x : Int) : Bool := decide (0 ≤ x) && decide (x < n)
def okL (n : Int) (L : List Int) : Bool := L.all (inR n)
theorem okL_bad {n : Int} {L : List Int} {k : Nat} (hk : k < L.length) (h : inR n (L.getD k 0) = false) : okL n L = false := by
  unfold okL
  rw [List.all_eq_false]
  refine ⟨L[k], List.getElem_mem hk, ?_⟩
  rw [List.getD_eq_getElem?_getD, List.getElem?_eq_getElem hk] at h
  have h2 : inR n L[k] = false := h
  rw [h2]; simp
theorem okL_good {n : Int} {L : List Int} (h : ∀ j, j < L.length → inR n (L.getD j 0) = true) : okL n L = true := by
  unfold okL
  rw [List.all_eq_true]
  intro x hx
  obtain ⟨j, hj, rfl⟩ := List.mem_iff_getElem.1 hx
  have := h j hj
  rw [List.getD_eq_getElem?_getD, List.getElem?_eq_getElem hj] at this
  exact this
/-- Whether numbers are at most four elements of a valid structure. -/
def liB (n : Int) (S R : ByteArray) (L : List Int) : Bool := validB n S R && decide (L.length ≤ 4) && okL n L
def lsB (n : Int) (S R : ByteArray) (m : Int) (S2 R2 : ByteArray) (L M : List Int) : Bool := liB n S R L && liB m S2 R2 M && decide (L.length = M.length)
def gaB (n : Int) (S R : ByteArray) (m : Int) (S2 R2 : ByteArray) (L M : List Int) (K : Int) : Bool := lsB n S R m S2 R2 L M && inB K 0 3
/-- Whether the second player wins a game, if it is one. -/
def seB (n : Int) (S R : ByteArray) (m : Int) (S2 R2 : ByteArray) (L M : List Int) (K : Int) : Bool := gaB n S R m S2 R2 L M K && Gs.wins K.toNat (stOf n.toNat S R) (L.map Int.toNat) (stOf m.toNat S2 R2) (M.map Int.toNat)
/-- What a game's lists are. -/
structure GaOk (n : Int) (S R : ByteArray) (m : Int) (S2 R2 : ByteArray) (L M : List Int) (K : Int) (a b k : Nat) : Prop where
  en : n = (a : Int)
  em : m = (b : Int)
  ek : K = (k : Int)
  k3 : k ≤ 3
  va : validB a S R = true
  vb : validB b S2 R2 = true
  l4 : L.length ≤ 4
  lm : L.length = M.length
  la : ∀ x ∈ L, 0 ≤ x ∧ x < (a : Int)
  lb : ∀ x ∈ M, 0 ≤ x ∧ x < (b : Int)
theorem okL_mem {n : Int} {L : List Int} (h : okL n L = true) : ∀ x ∈ L, 0 ≤ x ∧ x < n := fun x hx => by
  have := List.all_eq_true.1 h x hx
  unfold inR at this
  rw [Bool.and_eq_true, decide_eq_true_iff, decide_eq_true_iff] at this
  exact this
theorem valid_natI {n : Int} {S R : ByteArray} (h : validB n S R = true) : ∃ m : Nat, n = (m : Int) := by
  have h0 := h
  unfold validB inB at h0
  simp at h0
  exact Int.eq_ofNat_of_zero_le (by omega)
theorem ga_ok {n : Int} {S R : ByteArray} {m : Int} {S2 R2 : ByteArray} {L M : List Int} {K : Int} (h : gaB n S R m S2 R2 L M K = true) : ∃ a b k, GaOk n S R m S2 R2 L M K a b k := by
  unfold gaB lsB liB at h
  simp only [Bool.and_eq_true, decide_eq_true_iff] at h
  obtain ⟨⟨⟨⟨⟨h1, h2⟩, h3⟩, ⟨⟨h4, h5⟩, h6⟩⟩, h7⟩, h8⟩ := h
  obtain ⟨a, rfl⟩ := valid_natI h1
  obtain ⟨b, rfl⟩ := valid_natI h4
  have h9 := inB_iff.1 h8
  obtain ⟨k, rfl⟩ := Int.eq_ofNat_of_zero_le h9.1
  exact ⟨a, b, k, rfl, rfl, rfl, by omega, h1, h4, h2, h7, okL_mem h3, okL_mem h6⟩
theorem nat_at {L : List Int} {a : Nat} (h : ∀ x ∈ L, 0 ≤ x ∧ x < (a : Int)) : ∀ j, j < (L.map Int.toNat).length → (L.map Int.toNat).getD j 0 < a := fun j hj => by
  rw [List.length_map] at hj
  have := h _ (List.getElem_mem hj)
  simp [hj]; omega
theorem nat_mem {L : List Int} {a : Nat} (h : ∀ x ∈ L, 0 ≤ x ∧ x < (a : Int)) : ∀ x ∈ L.map Int.toNat, x < a := fun x hx => by
  obtain ⟨y, hy, rfl⟩ := List.mem_map.1 hx
  have := h y hy
  omega
theorem elemI_any (n x : Int) (b : Nat) (w : World) (hc : w.cell? ⟨b, 0, none⟩ = some (.int .i64 n)) : Calls Tryz.prog 163 #[.int .i64 x, .pointer (some ⟨b, 0, none⟩)] w fun en w' => en = .returned (.bool (!inR n x)) ∧ w = w' := by
  obtain ⟨r, hr⟩ : ∃ r, (!inR n x) = r := ⟨_, rfl⟩
  rw [hr]
  have HR := Lib.hid hr
  clear hr
  by_cases h0 : x < 0
  · have HE : Hid (true = r) := by show _ = _; rw [← HR.out]; unfold inR; rw [decide_eq_false (by omega)]; rfl
    go_enter Tryz.func163, Tryz.ntmps163
    go_wp2_with fail
    go_ret
    exact ⟨ret_bool HE.out, rfl⟩
  · by_cases h1 : n ≤ x
    · have HE : Hid (true = r) := by show _ = _; rw [← HR.out]; unfold inR; rw [decide_eq_true (show 0 ≤ x by omega), decide_eq_false (show ¬ x < n by omega)]; rfl
      go_enter Tryz.func163, Tryz.ntmps163
      go_wp2_with fail
      go_ret
      exact ⟨ret_bool HE.out, rfl⟩
    · have HE : Hid (false = r) := by show _ = _; rw [← HR.out]; unfold inR; rw [decide_eq_true (show 0 ≤ x by omega), decide_eq_true (show x < n by omega)]; rfl
      go_enter Tryz.func163, Tryz.ntmps163
      go_wp2_with fail
      go_ret
      exact ⟨ret_bool HE.out, rfl⟩
theorem index_ints (n : Int) (b : Nat) (L : List Int) (v : Value) (w : World) (hv : IntsAt w v L) (hc : w.cell? ⟨b, 0, none⟩ = some (.int .i64 n)) :
    Calls Tryz.prog 193 #[v, .func (.func 163) #[] #[.pointer (some ⟨b, 0, none⟩)]] w fun en w' => (∃ z : Int, en = .returned (.int .i64 z) ∧ (0 ≤ z ↔ okL n L = false)) ∧ w = w' := by
  have HN := Lib.hid (fun x => elemI_any n x b w hc)
  obtain ⟨a, cap, rfl, l1, l2, l3⟩ := hv.view
  have HC := Lib.hid l3
  clear l3 hv hc
  unfold maxLen at l2
  go_enter Tryz.func193, Tryz.ntmps193
  go_wp2_with fail
  go_loopw [8, 5] (fun i _ wr => (∃ k : Nat, k ≤ L.length ∧ i = .int .i64 (k : Int) ∧ Hid (∀ j, j < k → inR n (L.getD j 0) = true)) ∧ wr = w) (fun i _ _ => L.length - (intOf i).toNat)
  case atStart => exact ⟨⟨0, by omega, rfl, fun j hj => by omega⟩, rfl⟩
  case round =>
    obtain ⟨⟨k, hk, rfl, HG⟩, hwr⟩ := hrel
    rw [hwr]; clear hwr
    by_cases hlt : k < L.length
    · obtain ⟨g, o, rfl, hg, hcc⟩ := HC.out (by omega)
      have d1 := hcc k hlt
      have HX := Lib.hid (HN.out (L.getD k 0))
      have hkI : (k : Int) < (L.length : Int) := by omega
      cases hb : inR n (L.getD k 0) with
      | false =>
        have HE := Lib.hid (okL_bad hlt hb)
        rw [hb] at HX
        clear hcc hb
        generalize L.getD k 0 = x at *
        go_wp2_with fail
        refine HX.out.mono ?_; rintro _ w1 ⟨rfl, hw1⟩; rw [← hw1]; clear hw1
        go_wp2_with fail
        go_ret
        exact ⟨⟨(k : Int), rfl, fun _ => HE.out, fun _ => by omega⟩, rfl⟩
      | true =>
        have HG2 : Hid (∀ j, j < k + 1 → inR n (L.getD j 0) = true) := fun j hj => by
          by_cases e : j = k
          · rw [e]; exact hb
          · exact HG.out j (by omega)
        rw [hb] at HX
        clear hcc hb
        generalize L.getD k 0 = x at *
        go_wp2_with fail
        refine HX.out.mono ?_; rintro _ w1 ⟨rfl, hw1⟩; rw [← hw1]; clear hw1
        go_wp2_with fail
        go_roundw
        case rel => exact ⟨⟨k + 1, by omega, by go_num, HG2.out⟩, trivial⟩
        case measure => simp [intOf]; omega
    · have HE : Hid (okL n L = true) := okL_good (fun j hj => HG.out j (by omega))
      go_wp2_with fail
      go_ret
      exact ⟨⟨-1, rfl, fun h => absurd h (by decide), fun h => by rw [HE.out] at h; cases h⟩, rfl⟩
theorem areElements_ints (n : Int) (S R : ByteArray) (L : List Int) (v : Value) (w : World) (hv : IntsAt w v L) : Calls Tryz.prog 98 #[strV n S R, v] w fun en w' => en = .returned (.bool (okL n L)) ∧ Below w.heap.size w w' := by
  have HB : Hid (SBlk (boxS w n S R) w.heap.size n S R ∧ Below w.heap.size w (boxS w n S R)) := ⟨boxS_SBlk _ _ _ _, boxS_below _ _ _ _⟩
  have HI := Lib.hid (index_ints n w.heap.size L v (boxS w n S R) (hv.below HB.out.2) HB.out.1.cells.1)
  obtain ⟨a, cap, rfl, l1, l2, l3⟩ := hv.view
  clear l3 hv
  unfold boxS at HI HB
  generalize okL n L = r at *
  unfold strV
  go_enter Tryz.func98, Tryz.ntmps98
  go_wp2_with fail
  go_enter Tryz.func162, Tryz.ntmps162
  go_wp2_with fail
  refine HI.out.mono ?_; rintro _ wz ⟨⟨z, rfl, hz⟩, hw⟩; rw [← hw]; clear hw
  cases r with
  | false =>
    have hz0 : 0 ≤ z := hz.2 rfl
    clear hz
    go_wp2_with fail
    go_ret
    exact ⟨ret_bool (by simp), HB.out.2⟩
  | true =>
    have hz0 : ¬ 0 ≤ z := fun h => by have := hz.1 h; cases this
    clear hz
    go_wp2_with fail
    go_ret
    exact ⟨ret_bool (by simp; omega), HB.out.2⟩
theorem isList_ints (n : Int) (S R : ByteArray) (L : List Int) (v : Value) (w : World) (hS : S.size ≤ 9223372036854775807) (hR : R.size ≤ 9223372036854775807) (hg : IntsAt w v L) : Calls Tryz.prog 168 #[strV n S R, v] w fun en w' => en = .returned (.bool (liB n S R L)) ∧ Below w.heap.size w w' := by
  have HIS := Lib.hid (fun w => isStructure_any n S R w hS hR)
  have HAE := Lib.hid (fun w' (hb : Below w.heap.size w w') => areElements_ints n S R L v w' (hg.below hb))
  obtain ⟨a, cap, rfl, _, _, _⟩ := hg.view
  have HB : Hid (SBlk (boxS w n S R) w.heap.size n S R ∧ Below w.heap.size w (boxS w n S R)) := ⟨boxS_SBlk _ _ _ _, boxS_below _ _ _ _⟩
  unfold boxS at HB
  clear hg
  unfold liB
  generalize validB n S R = r at *
  generalize okL n L = q at *
  unfold strV at HIS HAE
  unfold strV
  cases r with
  | false =>
    go_enter Tryz.func168, Tryz.ntmps168
    go_wp2_with fail
    refine (HIS.out _).mono ?_; rintro _ w1 ⟨rfl, hb1⟩
    have HB1 := Lib.hid (HB.out.2.trans (hb1.mono HB.out.2.size))
    clear hb1
    go_wp2_with fail
    go_ret
    exact ⟨ret_bool (by simp), HB1.out⟩
  | true =>
    by_cases h4 : L.length ≤ 4
    · have hlI : (L.length : Int) ≤ 4 := by omega
      go_enter Tryz.func168, Tryz.ntmps168
      go_wp2_with fail
      refine (HIS.out _).mono ?_; rintro _ w1 ⟨rfl, hb1⟩
      have HB1 : Hid (SBlk w1 w.heap.size n S R ∧ Below w.heap.size w w1) := ⟨HB.out.1.below hb1 HB.out.1.cells.2.2.2.2.2.2, HB.out.2.trans (hb1.mono HB.out.2.size)⟩
      clear hb1
      have s0 := HB1.out.1.cells.1
      have s1 := HB1.out.1.cells.2.1
      have s2 := HB1.out.1.cells.2.2.1
      go_wp2_with fail
      refine (HAE.out _ HB1.out.2).mono ?_; rintro _ w2 ⟨rfl, hb2⟩
      have HB2 := Lib.hid (HB1.out.2.trans (hb2.mono HB1.out.2.size))
      clear hb2 s0 s1 s2
      go_wp2_with fail
      go_ret
      exact ⟨ret_bool (by first | rfl | (simp; done) | (simp [h4]; done)), HB2.out⟩
    · have hlI : ¬ (L.length : Int) ≤ 4 := by omega
      go_enter Tryz.func168, Tryz.ntmps168
      go_wp2_with fail
      refine (HIS.out _).mono ?_; rintro _ w1 ⟨rfl, hb1⟩
      have HB1 := Lib.hid (HB.out.2.trans (hb1.mono HB.out.2.size))
      clear hb1
      go_wp2_with fail
      go_ret
      exact ⟨ret_bool (by first | rfl | (simp; done) | (simp [h4]; done)), HB1.out⟩
theorem areLists_ints (n : Int) (S R : ByteArray) (m : Int) (S2 R2 : ByteArray) (L M : List Int) (v u : Value) (w : World) (hS : S.size ≤ 9223372036854775807) (hR : R.size ≤ 9223372036854775807) (hS2 : S2.size ≤ 9223372036854775807) (hR2 : R2.size ≤ 9223372036854775807) (hg : IntsAt w v L) (hg2 : IntsAt w u M) :
    Calls Tryz.prog 103 #[strV n S R, v, strV m S2 R2, u] w fun en w' => en = .returned (.bool (lsB n S R m S2 R2 L M)) ∧ Below w.heap.size w w' := by
  have HT := Lib.hid (Bx2.new w n S R m S2 R2)
  unfold boxS at HT
  have HA := Lib.hid (fun w' (h : Below w.heap.size w w') => isList_ints n S R L v w' hS hR (hg.below h))
  have HB := Lib.hid (fun w' (h : Below w.heap.size w w') => isList_ints m S2 R2 M u w' hS2 hR2 (hg2.below h))
  obtain ⟨g, cap, rfl, _, _, _⟩ := hg.view
  obtain ⟨g2, cap2, rfl, _, _, _⟩ := hg2.view
  clear hg hg2
  unfold lsB
  generalize liB n S R L = r at *
  generalize liB m S2 R2 M = q at *
  unfold strV at HA HB
  obtain ⟨c0, c1, c2, f0, f1, f2, hl1⟩ := HT.out.a.cells
  unfold strV
  have hlm : ((L.length : Int) == (M.length : Int)) = decide (L.length = M.length) := by
    rw [Bool.eq_iff_iff, beq_iff_eq, decide_eq_true_iff]; omega
  cases r with
  | false =>
    go_enter Tryz.func103, Tryz.ntmps103
    go_wp2_with fail
    refine (HA.out _ HT.out.old).mono ?_; rintro e w1 ⟨rfl, hb⟩
    have HT3 := Lib.hid (HT.out.below hb); clear hb c0 c1 c2 f0 f1 f2 hl1
    go_wp2_with fail
    go_ret
    exact ⟨ret_bool (by simp), HT3.out.old⟩
  | true =>
    cases q with
    | false =>
      go_enter Tryz.func103, Tryz.ntmps103
      go_wp2_with fail
      refine (HA.out _ HT.out.old).mono ?_; rintro e w1 ⟨rfl, hb⟩
      have HT3 := Lib.hid (HT.out.below hb); clear hb c0 c1 c2 f0 f1 f2 hl1
      obtain ⟨d0, d1, d2, g0, g1, g2, hl2⟩ := HT3.out.b.cells
      go_wp2_with fail
      refine (HB.out _ HT3.out.old).mono ?_; rintro e w2 ⟨rfl, hb⟩
      have HT4 := Lib.hid (HT3.out.below hb); clear hb d0 d1 d2 g0 g1 g2 hl2
      go_wp2_with fail
      go_ret
      exact ⟨ret_bool (by simp), HT4.out.old⟩
    | true =>
      go_enter Tryz.func103, Tryz.ntmps103
      go_wp2_with fail
      refine (HA.out _ HT.out.old).mono ?_; rintro e w1 ⟨rfl, hb⟩
      have HT3 := Lib.hid (HT.out.below hb); clear hb c0 c1 c2 f0 f1 f2 hl1
      obtain ⟨d0, d1, d2, g0, g1, g2, hl2⟩ := HT3.out.b.cells
      go_wp2_with fail
      refine (HB.out _ HT3.out.old).mono ?_; rintro e w2 ⟨rfl, hb⟩
      have HT4 := Lib.hid (HT3.out.below hb); clear hb d0 d1 d2 g0 g1 g2 hl2
      go_wp2_with fail
      go_ret
      exact ⟨ret_bool (by simp), HT4.out.old⟩
theorem isGame_ints (n : Int) (S R : ByteArray) (m : Int) (S2 R2 : ByteArray) (L M : List Int) (v u : Value) (K : Int) (w : World) (hS : S.size ≤ 9223372036854775807) (hR : R.size ≤ 9223372036854775807) (hS2 : S2.size ≤ 9223372036854775807) (hR2 : R2.size ≤ 9223372036854775807) (hg : IntsAt w v L) (hg2 : IntsAt w u M) :
    Calls Tryz.prog 48 #[strV n S R, v, strV m S2 R2, u, .int .i64 K] w fun en w' => en = .returned (.bool (gaB n S R m S2 R2 L M K)) ∧ Below w.heap.size w w' := by
  have HT := Lib.hid (Bx2.new w n S R m S2 R2)
  unfold boxS at HT
  have HA := Lib.hid (fun w' (h : Below w.heap.size w w') => areLists_ints n S R m S2 R2 L M v u w' hS hR hS2 hR2 (hg.below h) (hg2.below h))
  obtain ⟨g, cap, rfl, _, _, _⟩ := hg.view
  obtain ⟨g2, cap2, rfl, _, _, _⟩ := hg2.view
  clear hg hg2
  unfold gaB
  generalize lsB n S R m S2 R2 L M = r at *
  unfold strV at HA
  obtain ⟨c0, c1, c2, f0, f1, f2, hl1⟩ := HT.out.a.cells
  obtain ⟨d0, d1, d2, g0, g1, g2, hl2⟩ := HT.out.b.cells
  unfold strV
  obtain ⟨q, hq⟩ : ∃ q, inB K 0 3 = q := ⟨_, rfl⟩
  have HQ := Lib.hid hq
  rw [hq]
  clear hq
  cases r with
  | false =>
    go_enter Tryz.func48, Tryz.ntmps48
    go_wp2_with fail
    refine (HA.out _ HT.out.old).mono ?_; rintro e w1 ⟨rfl, hb⟩
    have HT3 := Lib.hid (HT.out.below hb); clear hb c0 c1 c2 f0 f1 f2 hl1 d0 d1 d2 g0 g1 g2 hl2
    go_wp2_with fail
    go_ret
    exact ⟨ret_bool (by simp), HT3.out.old⟩
  | true =>
    by_cases h0 : 0 ≤ K
    · by_cases h3 : K ≤ 3
      · have HE : Hid (q = true) := by show _ = _; rw [← HQ.out]; exact inB_iff.2 ⟨h0, h3⟩
        go_enter Tryz.func48, Tryz.ntmps48
        go_wp2_with fail
        refine (HA.out _ HT.out.old).mono ?_; rintro e w1 ⟨rfl, hb⟩
        have HT3 := Lib.hid (HT.out.below hb); clear hb c0 c1 c2 f0 f1 f2 hl1 d0 d1 d2 g0 g1 g2 hl2
        go_wp2_with fail
        go_ret
        exact ⟨ret_bool (by first | (rw [HE.out]; done) | (rw [HE.out]; simp; done) | (rw [HE.out]; simp [h3]; done) | (rw [HE.out]; simp [h0, h3]; done)), HT3.out.old⟩
      · have HE : Hid (q = false) := by show _ = _; rw [← HQ.out, Bool.eq_false_iff]; intro h; exact h3 (inB_iff.1 h).2
        go_enter Tryz.func48, Tryz.ntmps48
        go_wp2_with fail
        refine (HA.out _ HT.out.old).mono ?_; rintro e w1 ⟨rfl, hb⟩
        have HT3 := Lib.hid (HT.out.below hb); clear hb c0 c1 c2 f0 f1 f2 hl1 d0 d1 d2 g0 g1 g2 hl2
        go_wp2_with fail
        go_ret
        exact ⟨ret_bool (by first | (rw [HE.out]; done) | (rw [HE.out]; simp; done) | (rw [HE.out]; simp [h3]; done) | (rw [HE.out]; simp [h0, h3]; done)), HT3.out.old⟩
    · have HE : Hid (q = false) := by show _ = _; rw [← HQ.out, Bool.eq_false_iff]; intro h; exact h0 (inB_iff.1 h).1
      go_enter Tryz.func48, Tryz.ntmps48
      go_wp2_with fail
      refine (HA.out _ HT.out.old).mono ?_; rintro e w1 ⟨rfl, hb⟩
      have HT3 := Lib.hid (HT.out.below hb); clear hb c0 c1 c2 f0 f1 f2 hl1 d0 d1 d2 g0 g1 g2 hl2
      go_wp2_with fail
      go_ret
      exact ⟨ret_bool (by first | (rw [HE.out]; done) | (rw [HE.out]; simp; done) | (rw [HE.out]; simp [h0]; done)), HT3.out.old⟩
theorem implSecond_ints (n : Int) (S R : ByteArray) (m : Int) (S2 R2 : ByteArray) (L M : List Int) (v u : Value) (K : Int) (w : World) (hS : S.size ≤ 9223372036854775807) (hR : R.size ≤ 9223372036854775807) (hS2 : S2.size ≤ 9223372036854775807) (hR2 : R2.size ≤ 9223372036854775807) (hg : IntsAt w v L) (hg2 : IntsAt w u M) :
    Calls Tryz.prog 16 #[strV n S R, v, strV m S2 R2, u, .int .i64 K] w fun en w' => en = .returned (.bool (seB n S R m S2 R2 L M K)) ∧ Below w.heap.size w w' := by
  unfold seB
  cases hga : gaB n S R m S2 R2 L M K with
  | true =>
    obtain ⟨a, b, k, o⟩ := ga_ok hga
    obtain rfl := o.en
    obtain rfl := o.em
    obtain rfl := o.ek
    rw [Bool.true_and]
    simp only [Int.toNat_natCast]
    exact SecondWins_all a S R b S2 R2 (L.map Int.toNat) (M.map Int.toNat) v u k w o.k3 o.va o.vb (by rw [List.length_map]; exact o.l4) (by rw [List.length_map, List.length_map]; exact o.lm) (nat_at o.la) (nat_at o.lb) (hg.nums (fun x hx => (o.la x hx).1)) (hg2.nums (fun x hx => (o.lb x hx).1))
  | false =>
    rw [Bool.false_and]
    have HT := Lib.hid (Bx2.new w n S R m S2 R2)
    unfold boxS at HT
    have HA := Lib.hid (fun w' (h : Below w.heap.size w w') => isGame_ints n S R m S2 R2 L M v u K w' hS hR hS2 hR2 (hg.below h) (hg2.below h))
    rw [hga] at HA
    obtain ⟨g, cap, rfl, _, _, _⟩ := hg.view
    obtain ⟨g2, cap2, rfl, _, _, _⟩ := hg2.view
    clear hg hg2 hga
    unfold strV at HA
    obtain ⟨c0, c1, c2, f0, f1, f2, hl1⟩ := HT.out.a.cells
    obtain ⟨d0, d1, d2, g0, g1, g2, hl2⟩ := HT.out.b.cells
    unfold strV
    go_enter Tryz.func16, Tryz.ntmps16
    go_wp2_with fail
    refine (HA.out _ HT.out.old).mono ?_; rintro e w1 ⟨rfl, hb⟩
    have HT3 := Lib.hid (HT.out.below hb); clear hb c0 c1 c2 f0 f1 f2 hl1 d0 d1 d2 g0 g1 g2 hl2
    go_wp2_with fail
    go_ret
    exact ⟨rfl, HT3.out.old⟩
end Go.Proofs.YtjepegkbbbebkaaGreatDoor
/- Plainly: a game on two defined structures, told by the texts of the view. Condition: the ranks of the formulas are not greater than the rounds that are given up. -/
namespace Go.Proofs.YtjepegkbbbebkaaGreatDoor
set_option linter.unusedVariables false

theorem uptoV1 {s : Nat} (h : s / 2 = 0) (u : Fin 4) (hu : s.testBit u.val = true) : u = 0 := by
  have hs : s = 0 ∨ s = 1 := by omega
  rcases hs with rfl | rfl
  · simp at hu
  · revert hu; revert u; decide
theorem uptoV2 {s : Nat} (h : s / 4 = 0) (u : Fin 4) (hu : s.testBit u.val = true) : u = 0 ∨ u = 1 := by
  have hs : s = 0 ∨ s = 1 ∨ s = 2 ∨ s = 3 := by omega
  rcases hs with rfl | rfl | rfl | rfl
  · simp at hu
  all_goals (revert hu; revert u; decide)
theorem view_facts {f g : ByteArray} {φ ψ : Fm.T} (h : viewB f g = some (φ, ψ)) : readB f = some φ ∧ readB g = some ψ ∧ Fm.Upto 1 φ ∧ Fm.Upto 2 ψ := by
  unfold viewB at h
  cases hf : readB f with
  | none => rw [hf] at h; cases h
  | some φ' =>
    cases hg : readB g with
    | none => rw [hf, hg] at h; cases h
    | some ψ' =>
      rw [hf, hg] at h
      simp only at h
      by_cases hz : Fm.free φ' / 2 = 0 ∧ Fm.free ψ' / 4 = 0
      · rw [if_pos hz] at h
        injection h with h
        injection h with h1 h2
        subst h1; subst h2
        refine ⟨rfl, rfl, fun u hu => ?_, fun u hu => ?_⟩
        · rw [uptoV1 hz.1 u hu]; decide
        · rcases uptoV2 hz.2 u hu with rfl | rfl <;> decide
      · rw [if_neg hz] at h; cases h
theorem rankV_some {f : ByteArray} {φ : Fm.T} (h : readB f = some φ) : rankV f = (Fm.rank φ : Int) := by unfold rankV; rw [h]
theorem rankV_bound (f : ByteArray) : -1 ≤ rankV f ∧ rankV f ≤ 16000 := by
  unfold rankV
  cases hr : readB f with
  | none => simp
  | some φ =>
    have h1 := (Fm.read_iff (s := f.data.toList)).1 hr
    have h2 := rank_text φ
    simp only
    have h3 : (Fm.text φ).length ≤ 4000 := by rw [← h1.1]; exact h1.2
    omega
theorem ga_view {a b k : Nat} {S R T U : ByteArray} {L M : List Int} (o : GaOk (a : Int) S R (b : Int) T U L M (k : Int) a b k) (φ ψ : Fm.T) (j : Int) (h0 : 0 ≤ j) (h3 : j ≤ 3) : gaB (a : Int) (vwS a S R φ) (vwR a S R ψ) (b : Int) (vwS b T U φ) (vwR b T U ψ) L M j = true := by
  obtain ⟨a1, a8, _⟩ := valid_is o.va
  obtain ⟨b1, b8, _⟩ := valid_is o.vb
  have la : okL (a : Int) L = true := List.all_eq_true.2 fun x hx => by
    have := o.la x hx
    unfold inR
    rw [decide_eq_true this.1, decide_eq_true this.2]; rfl
  have lb : okL (b : Int) M = true := List.all_eq_true.2 fun x hx => by
    have := o.lb x hx
    unfold inR
    rw [decide_eq_true this.1, decide_eq_true this.2]; rfl
  unfold gaB lsB liB
  rw [show validB (a : Int) (vwS a S R φ) (vwR a S R ψ) = true from valid_bits a1 a8 _ _, show validB (b : Int) (vwS b T U φ) (vwR b T U ψ) = true from valid_bits b1 b8 _ _, la, lb, decide_eq_true o.l4, decide_eq_true (show M.length ≤ 4 by rw [← o.lm]; exact o.l4), decide_eq_true o.lm, inB_true h0 h3]
  rfl
/-- If the second player wins a game, they win that of the defined structures with fewer rounds. -/
theorem se_view {n m : Int} {S R T U : ByteArray} {L M : List Int} {r : Int} {f g : ByteArray} {φ ψ : Fm.T} (hs : seB n S R m T U L M r = true) (hv : viewB f g = some (φ, ψ)) {a b : Nat} (hn : n = (a : Int)) (hm : m = (b : Int)) {d : Int} (h1 : rankV f ≤ d) (h2 : rankV g ≤ d) (h0 : 0 ≤ r - d) :
    seB n (vwS a S R φ) (vwR a S R ψ) m (vwS b T U φ) (vwR b T U ψ) L M (r - d) = true := by
  subst hn; subst hm
  unfold seB at hs
  rw [Bool.and_eq_true] at hs
  obtain ⟨a', b', k, o⟩ := ga_ok hs.1
  obtain rfl : a' = a := by have := o.en; omega
  obtain rfl : b' = b := by have := o.em; omega
  obtain rfl := o.ek
  obtain ⟨rf, rg, u1, u2⟩ := view_facts hv
  rw [rankV_some rf] at h1
  rw [rankV_some rg] at h2
  obtain ⟨D, rfl⟩ := Int.eq_ofNat_of_zero_le (show 0 ≤ d by omega)
  have hk3 := o.k3
  have hw := hs.2
  simp only [Int.toNat_natCast] at hw
  have hl : (L.map Int.toNat).length = (M.map Int.toNat).length := by rw [List.length_map, List.length_map]; exact o.lm
  have he := (Gs.wins_iff hl).1 hw
  rw [show k = (k - D) + D by omega] at he
  have hv2 := vw_eqv u1 u2 (d := D) (by omega) (by omega) (nat_mem o.la) (nat_mem o.lb) he
  unfold seB
  rw [ga_view o φ ψ _ h0 (by omega), Bool.true_and]
  simp only [Int.toNat_natCast]
  rw [show ((k : Int) - (D : Int)).toNat = k - D by omega]
  exact (Gs.wins_iff hl).2 hv2
theorem se_valid {n m : Int} {S R T U : ByteArray} {L M : List Int} {r : Int} (hs : seB n S R m T U L M r = true) : ∃ a b : Nat, n = (a : Int) ∧ m = (b : Int) ∧ validB a S R = true ∧ validB b T U = true ∧ 0 ≤ r ∧ r ≤ 3 := by
  unfold seB at hs
  rw [Bool.and_eq_true] at hs
  obtain ⟨a, b, k, o⟩ := ga_ok hs.1
  exact ⟨a, b, o.en, o.em, o.va, o.vb, by rw [o.ek]; omega, by have := o.ek; have := o.k3; omega⟩
end Go.Proofs.YtjepegkbbbebkaaGreatDoor
/- Lists of numbers, good or bad: SecondWins of the reference. Conditions: the texts of the structures are not long. -/
namespace Go.Proofs.YtjepegkbbbebkaaGreatDoor
open Go.RowKit
set_option linter.unusedVariables false
set_option maxRecDepth 100000

theorem inB_inR (n x : Int) : inB x 0 (n - 1) = inR n x := by
  unfold inB inR
  congr 1
  rw [Bool.eq_iff_iff, decide_eq_true_iff, decide_eq_true_iff]
  omega
theorem l4List_ints (n : Int) (S R : ByteArray) (L : List Int) (v : Value) (w : World) (hn : -1 ≤ n ∧ n ≤ 9223372036854775807) (hS : S.size ≤ 9223372036854775807) (hR : R.size ≤ 9223372036854775807) (hg : IntsAt w v L) : Calls Tryz.prog 172 #[strV n S R, v] w (BoolB w (liB n S R L)) := by
  have HV := Lib.hid (fun w => specValid_any n S R w hS hR)
  have HB : Hid (SBlk (boxS w n S R) w.heap.size n S R ∧ Below w.heap.size w (boxS w n S R)) := ⟨boxS_SBlk _ _ _ _, boxS_below _ _ _ _⟩
  obtain ⟨a, cap, rfl, l1, l2, l3⟩ := hg.view
  have HC := Lib.hid l3
  have HIN : Hid (∀ x w, Calls Tryz.prog 37 #[.int .i64 x, .int .i64 0, .int .i64 (n - 1)] w fun e w' => e = .returned (.bool (inR n x)) ∧ Below w.heap.size w w') := fun x w => by
    have h := l1In_any x 0 (n - 1) w
    rw [inB_inR] at h
    exact h.mono fun _ _ h => ⟨h.1, by first | (rw [h.2]; exact Below.refl _ _) | (rw [← h.2]; exact Below.refl _ _)⟩
  have hw1 : IntKind.i64.wrap (n - 1) = n - 1 := IntWalk.i64_in _ (by omega)
  obtain ⟨W, hW⟩ : ∃ W, boxS w n S R = W := ⟨_, rfl⟩
  rw [hW] at HB
  unfold boxS at hW
  have HW := Lib.hid hW
  unfold maxLen at l2
  obtain ⟨RES, hres⟩ : ∃ r, liB n S R L = r := ⟨_, rfl⟩
  rw [hres]
  have HRES := Lib.hid hres
  clear hW hg l3 hS hR hn hres
  unfold strV at HV ⊢
  go_enter Tryz.func172, Tryz.ntmps172
  go_upto_region 1 with fail
  rw [HW.out]
  go_wp2_with fail
  go_loopw [5] (fun i wr => ∃ k : Nat, k ≤ L.length ∧ i = .int .i64 (k : Int) ∧ Hid (∀ j, j < k → inR n (L.getD j 0) = true) ∧ Hid (SBlk wr w.heap.size n S R ∧ Below w.heap.size w wr)) (fun i _ => L.length - (intOf i).toNat)
  case atStart => exact ⟨0, by omega, rfl, fun j hj => by omega, HB.out⟩
  case round =>
    obtain ⟨k, hk, rfl, HG, HP⟩ := hrel
    obtain ⟨c0, c1, c2, f0, f1, f2, hl⟩ := HP.out.1.cells
    by_cases hlt : k < L.length
    · obtain ⟨g, o, rfl, hg, hcc⟩ := HC.out (by omega)
      have d1 := (HP.out.2.cell (p := ⟨g, o + k, none⟩) hg).trans (hcc k hlt)
      have HX := Lib.hid (HIN.out (L.getD k 0))
      have hkI : (k : Int) < (L.length : Int) := by omega
      cases hb : inR n (L.getD k 0) with
      | false =>
        have HE : Hid (RES = false) := by
          show _ = _
          rw [← HRES.out]
          unfold liB
          rw [okL_bad hlt hb]; simp
        rw [hb] at HX
        clear hcc hb
        generalize L.getD k 0 = x at *
        go_wp2_with fail
        have q0 := fun s => Since.cell c0 s
        have q1 := fun s => Since.cell d1 s
        refine wp_region_since (by kernel_rfl) (by kernel_rfl) ?_
        repeat (go_big_quiet_step (with_reducible exact Since.call (HX.out _)))
        refine wpQuiet_nil ?_
        intro w1 hb1
        have HB1 := Lib.hid (HP.out.2.trans (hb1.mono HP.out.2.size))
        clear hb1 q0 q1
        go_wp2_with fail
        go_ret
        exact ⟨ret_bool HE.out.symm, HB1.out⟩
      | true =>
        have HG2 : Hid (∀ j, j < k + 1 → inR n (L.getD j 0) = true) := fun j hj => by
          by_cases e : j = k
          · rw [e]; exact hb
          · exact HG.out j (by omega)
        rw [hb] at HX
        clear hcc hb
        generalize L.getD k 0 = x at *
        go_wp2_with fail
        have q0 := fun s => Since.cell c0 s
        have q1 := fun s => Since.cell d1 s
        refine wp_region_since (by kernel_rfl) (by kernel_rfl) ?_
        repeat (go_big_quiet_step (with_reducible exact Since.call (HX.out _)))
        refine wpQuiet_nil ?_
        intro w1 hb1
        have HP1 : Hid (SBlk w1 w.heap.size n S R ∧ Below w.heap.size w w1) := ⟨HP.out.1.below hb1 HP.out.1.cells.2.2.2.2.2.2, HP.out.2.trans (hb1.mono HP.out.2.size)⟩
        clear hb1 q0 q1
        go_wp2_with fail
        go_roundw
        case rel => exact ⟨k + 1, by omega, by go_num, HG2.out, HP1.out⟩
        case measure => simp [intOf]; omega
    · have HE : Hid (RES = (validB n S R && decide (L.length ≤ 4))) := by
        show _ = _
        rw [← HRES.out]
        unfold liB
        rw [okL_good (fun j hj => HG.out j (by omega))]; simp
      clear HRES
      have hkE : ¬ (k : Int) < (L.length : Int) := by omega
      generalize validB n S R = r at *
      cases r with
      | false =>
        go_wp2_with fail
        refine (HV.out _).mono ?_; rintro e w1 ⟨rfl, hb⟩
        have HB1 := Lib.hid (HP.out.2.trans (hb.mono HP.out.2.size))
        clear hb
        go_wp2_with fail
        go_ret
        exact ⟨ret_bool (by rw [HE.out]; simp), HB1.out⟩
      | true =>
        by_cases h4 : L.length ≤ 4
        · have hlI : (L.length : Int) ≤ 4 := by omega
          go_wp2_with fail
          refine (HV.out _).mono ?_; rintro e w1 ⟨rfl, hb⟩
          have HB1 := Lib.hid (HP.out.2.trans (hb.mono HP.out.2.size))
          clear hb
          go_wp2_with fail
          go_ret
          exact ⟨ret_bool (by rw [HE.out]; first | rfl | (simp; done) | (simp [h4]; done) | (simp; omega)), HB1.out⟩
        · have hlI : ¬ (L.length : Int) ≤ 4 := by omega
          go_wp2_with fail
          refine (HV.out _).mono ?_; rintro e w1 ⟨rfl, hb⟩
          have HB1 := Lib.hid (HP.out.2.trans (hb.mono HP.out.2.size))
          clear hb
          go_wp2_with fail
          go_ret
          exact ⟨ret_bool (by rw [HE.out]; first | rfl | (simp; done) | (simp [h4]; done) | (simp; omega)), HB1.out⟩
theorem l4Lists_ints (n : Int) (S R : ByteArray) (m : Int) (S2 R2 : ByteArray) (L M : List Int) (v u : Value) (w : World) (hn : -1 ≤ n ∧ n ≤ 9223372036854775807) (hm : -1 ≤ m ∧ m ≤ 9223372036854775807) (hS : S.size ≤ 9223372036854775807) (hR : R.size ≤ 9223372036854775807) (hS2 : S2.size ≤ 9223372036854775807) (hR2 : R2.size ≤ 9223372036854775807) (hg : IntsAt w v L) (hg2 : IntsAt w u M) :
    Calls Tryz.prog 111 #[strV n S R, v, strV m S2 R2, u] w (BoolB w (lsB n S R m S2 R2 L M)) := by
  have HT := Lib.hid (Bx2.new w n S R m S2 R2)
  unfold boxS at HT
  have HA := Lib.hid (fun w' (h : Below w.heap.size w w') => l4List_ints n S R L v w' hn hS hR (hg.below h))
  have HB := Lib.hid (fun w' (h : Below w.heap.size w w') => l4List_ints m S2 R2 M u w' hm hS2 hR2 (hg2.below h))
  obtain ⟨ga, cap, rfl, _, _, _⟩ := hg.view
  obtain ⟨gb, cap2, rfl, _, _, _⟩ := hg2.view
  clear hg hg2 hn hm
  unfold lsB
  generalize liB n S R L = r at *
  generalize liB m S2 R2 M = q at *
  unfold strV at HA HB
  obtain ⟨c0, c1, c2, f0, f1, f2, hl1⟩ := HT.out.a.cells
  unfold strV
  have hlm : ((L.length : Int) == (M.length : Int)) = decide (L.length = M.length) := by
    rw [Bool.eq_iff_iff, beq_iff_eq, decide_eq_true_iff]; omega
  cases r with
  | false =>
    go_enter Tryz.func111, Tryz.ntmps111
    go_wp2_with fail
    refine (HA.out _ HT.out.old).mono ?_; rintro e w1 ⟨rfl, hb⟩
    have HT3 := Lib.hid (HT.out.below hb); clear hb c0 c1 c2 f0 f1 f2 hl1
    go_wp2_with fail
    go_ret
    exact ⟨ret_bool (by simp), HT3.out.old⟩
  | true =>
    cases q with
    | false =>
      go_enter Tryz.func111, Tryz.ntmps111
      go_wp2_with fail
      refine (HA.out _ HT.out.old).mono ?_; rintro e w1 ⟨rfl, hb⟩
      have HT3 := Lib.hid (HT.out.below hb); clear hb c0 c1 c2 f0 f1 f2 hl1
      obtain ⟨d0, d1, d2, g0, g1, g2, hl2⟩ := HT3.out.b.cells
      go_wp2_with fail
      refine (HB.out _ HT3.out.old).mono ?_; rintro e w2 ⟨rfl, hb⟩
      have HT4 := Lib.hid (HT3.out.below hb); clear hb d0 d1 d2 g0 g1 g2 hl2
      go_wp2_with fail
      go_ret
      exact ⟨ret_bool (by simp), HT4.out.old⟩
    | true =>
      go_enter Tryz.func111, Tryz.ntmps111
      go_wp2_with fail
      refine (HA.out _ HT.out.old).mono ?_; rintro e w1 ⟨rfl, hb⟩
      have HT3 := Lib.hid (HT.out.below hb); clear hb c0 c1 c2 f0 f1 f2 hl1
      obtain ⟨d0, d1, d2, g0, g1, g2, hl2⟩ := HT3.out.b.cells
      go_wp2_with fail
      refine (HB.out _ HT3.out.old).mono ?_; rintro e w2 ⟨rfl, hb⟩
      have HT4 := Lib.hid (HT3.out.below hb); clear hb d0 d1 d2 g0 g1 g2 hl2
      go_wp2_with fail
      go_ret
      exact ⟨ret_bool (by simp), HT4.out.old⟩
theorem l5Ready_ints (n : Int) (S R : ByteArray) (m : Int) (S2 R2 : ByteArray) (L M : List Int) (v u : Value) (K : Int) (w : World) (hn : -1 ≤ n ∧ n ≤ 9223372036854775807) (hm : -1 ≤ m ∧ m ≤ 9223372036854775807) (hS : S.size ≤ 9223372036854775807) (hR : R.size ≤ 9223372036854775807) (hS2 : S2.size ≤ 9223372036854775807) (hR2 : R2.size ≤ 9223372036854775807) (hg : IntsAt w v L) (hg2 : IntsAt w u M) :
    Calls Tryz.prog 55 #[strV n S R, v, strV m S2 R2, u, .int .i64 K] w (BoolB w (gaB n S R m S2 R2 L M K)) := by
  have HT := Lib.hid (Bx2.new w n S R m S2 R2)
  unfold boxS at HT
  have HA := Lib.hid (fun w' (h : Below w.heap.size w w') => l4Lists_ints n S R m S2 R2 L M v u w' hn hm hS hR hS2 hR2 (hg.below h) (hg2.below h))
  obtain ⟨ga, cap, rfl, _, _, _⟩ := hg.view
  obtain ⟨gb, cap2, rfl, _, _, _⟩ := hg2.view
  clear hg hg2 hn hm
  unfold gaB
  generalize lsB n S R m S2 R2 L M = r at *
  unfold strV at HA
  obtain ⟨c0, c1, c2, f0, f1, f2, hl1⟩ := HT.out.a.cells
  obtain ⟨d0, d1, d2, g0, g1, g2, hl2⟩ := HT.out.b.cells
  unfold strV
  have HI := Lib.hid (l1In_b K 0 3)
  generalize inB K 0 3 = q at *
  cases r with
  | false =>
    go_enter Tryz.func55, Tryz.ntmps55
    go_wp2_with fail
    refine (HA.out _ HT.out.old).mono ?_; rintro e w1 ⟨rfl, hb⟩
    have HT3 := Lib.hid (HT.out.below hb); clear hb c0 c1 c2 f0 f1 f2 hl1 d0 d1 d2 g0 g1 g2 hl2
    go_wp2_with fail
    go_ret
    exact ⟨ret_bool (by simp), HT3.out.old⟩
  | true =>
    go_enter Tryz.func55, Tryz.ntmps55
    go_wp2_with fail
    refine (HA.out _ HT.out.old).mono ?_; rintro e w1 ⟨rfl, hb⟩
    have HT3 := Lib.hid (HT.out.below hb); clear hb c0 c1 c2 f0 f1 f2 hl1 d0 d1 d2 g0 g1 g2 hl2
    go_wp2_with fail
    refine (HI.out _).mono ?_; rintro e w2 ⟨rfl, hb⟩
    have HB2 := Lib.hid (HT3.out.old.trans (hb.mono HT3.out.old.size))
    clear hb
    go_wp2_with fail
    go_ret
    exact ⟨ret_bool (by simp), HB2.out⟩
theorem specSecond_ints (n : Int) (S R : ByteArray) (m : Int) (S2 R2 : ByteArray) (L M : List Int) (v u : Value) (K : Int) (w : World) (hn : -1 ≤ n ∧ n ≤ 9223372036854775807) (hm : -1 ≤ m ∧ m ≤ 9223372036854775807) (hS : S.size ≤ 9223372036854775807) (hR : R.size ≤ 9223372036854775807) (hS2 : S2.size ≤ 9223372036854775807) (hR2 : R2.size ≤ 9223372036854775807) (hg : IntsAt w v L) (hg2 : IntsAt w u M) :
    Calls Tryz.prog 18 #[strV n S R, v, strV m S2 R2, u, .int .i64 K] w (BoolB w (seB n S R m S2 R2 L M K)) := by
  have HT := Lib.hid (Bx2.new w n S R m S2 R2)
  unfold boxS at HT
  have HA := Lib.hid (fun w' (h : Below w.heap.size w w') => l5Ready_ints n S R m S2 R2 L M v u K w' hn hm hS hR hS2 hR2 (hg.below h) (hg2.below h))
  unfold seB
  obtain ⟨c0, c1, c2, f0, f1, f2, hl1⟩ := HT.out.a.cells
  obtain ⟨d0, d1, d2, g0, g1, g2, hl2⟩ := HT.out.b.cells
  cases hga : gaB n S R m S2 R2 L M K with
  | false =>
    rw [hga] at HA
    obtain ⟨ga, cap, rfl, _, _, _⟩ := hg.view
    obtain ⟨gb, cap2, rfl, _, _, _⟩ := hg2.view
    clear hg hg2 hga hn hm
    unfold strV at HA ⊢
    go_enter Tryz.func18, Tryz.ntmps18
    go_wp2_with fail
    refine (HA.out _ HT.out.old).mono ?_; rintro e w1 ⟨rfl, hb⟩
    have HT3 := Lib.hid (HT.out.below hb); clear hb c0 c1 c2 f0 f1 f2 hl1 d0 d1 d2 g0 g1 g2 hl2
    go_wp2_with fail
    go_ret
    exact ⟨ret_bool (by simp), HT3.out.old⟩
  | true =>
    rw [hga] at HA
    obtain ⟨a, b, k, o⟩ := ga_ok hga
    obtain rfl := o.en
    obtain rfl := o.em
    obtain rfl := o.ek
    obtain ⟨a1, a8, aS, aR, _⟩ := valid_is o.va
    obtain ⟨b1, b8, bS, bR, _⟩ := valid_is o.vb
    have HW := Lib.hid (fun w' (h : Below w.heap.size w w') => l5Wins_any a S R b S2 R2 v u (L.map Int.toNat) (M.map Int.toNat) k w' ⟨aS, aR, a8, bS, bR, b8, by rw [List.length_map, List.length_map]; exact o.lm, by rw [List.length_map]; have := o.l4; have := o.k3; omega, nat_mem o.la, nat_mem o.lb⟩ o.k3 ((hg.below h).nums (fun x hx => (o.la x hx).1)) ((hg2.below h).nums (fun x hx => (o.lb x hx).1)))
    rw [Bool.true_and]
    simp only [Int.toNat_natCast]
    obtain ⟨ga, cap, rfl, _, _, _⟩ := hg.view
    obtain ⟨gb, cap2, rfl, _, _, _⟩ := hg2.view
    generalize Gs.wins k (stOf a S R) (L.map Int.toNat) (stOf b S2 R2) (M.map Int.toNat) = W at *
    clear hg hg2 hga hn hm o aS aR bS bR
    unfold strV at HA HW ⊢
    go_enter Tryz.func18, Tryz.ntmps18
    go_wp2_with fail
    refine (HA.out _ HT.out.old).mono ?_; rintro e w1 ⟨rfl, hb⟩
    have HT3 := Lib.hid (HT.out.below hb); clear hb c0 c1 c2 f0 f1 f2 hl1 d0 d1 d2 g0 g1 g2 hl2
    obtain ⟨c0, c1, c2, f0, f1, f2, hl1⟩ := HT3.out.a.cells
    obtain ⟨d0, d1, d2, g0, g1, g2, hl2⟩ := HT3.out.b.cells
    go_wp2_with fail
    refine (HW.out _ HT3.out.old).mono ?_; rintro e w2 ⟨rfl, hb⟩
    have HT4 := Lib.hid (HT3.out.below hb); clear hb c0 c1 c2 f0 f1 f2 hl1 d0 d1 d2 g0 g1 g2 hl2
    go_wp2_with fail
    go_ret
    exact ⟨ret_bool (by simp), HT4.out.old⟩
end Go.Proofs.YtjepegkbbbebkaaGreatDoor
/- The draw of a pair of structures. Condition: the reader lies in memory and has not drawn much. -/
namespace Go.Proofs.YtjepegkbbbebkaaGreatDoor
open Go.RowKit
set_option linter.unusedVariables false
set_option maxRecDepth 100000

/-- The reader, the two results and the first structure. -/
structure Pr (w : World) (b K x : Nat) (n : Int) (S R : ByteArray) (n1 : Int) (S1 R1 : ByteArray) (n2 : Int) (S2 R2 : ByteArray) (wr : World) : Prop where
  rd : RdB wr b K
  r1 : SBlk wr w.heap.size n1 S1 R1
  r2 : SBlk wr (w.heap.size + 1) n2 S2 R2
  a : SBlk wr x n S R
  ne : b < w.heap.size ∧ w.heap.size + 1 < x
  old : w.grownBy wr (some b)
section
variable {w wr w' : World} {b K K' x : Nat} {n n1 n2 m : Int} {S R S1 R1 S2 R2 T U : ByteArray}
theorem SBlk.grown {w w' : World} {b g : Nat} {n : Int} {S R : ByteArray} (h : SBlk w g n S R) (hg : w.grownBy w' (some b)) (hne : g ≠ b) : SBlk w' g n S R :=
  (hg.block g h.cells.2.2.2.2.2.2 (by intro e; injection e with e; exact hne e)).trans h
theorem Pr.pick (h : Pr w b K x n S R n1 S1 R1 n2 S2 R2 wr) (hr : RdB w' b K') (hg : wr.grownBy w' (some b)) : Pr w b K' x n S R n1 S1 R1 n2 S2 R2 w' :=
  ⟨hr, h.r1.grown hg (by have := h.ne; omega), h.r2.grown hg (by have := h.ne; omega), h.a.grown hg (by have := h.ne; omega), h.ne, h.old.trans hg⟩
theorem Pr.below (h : Pr w b K x n S R n1 S1 R1 n2 S2 R2 wr) (hb : Below wr.heap.size wr w') : Pr w b K x n S R n1 S1 R1 n2 S2 R2 w' :=
  h.pick (h.rd.grown (grown_belowS hb)) (grown_belowS hb)
theorem Pr.drew (h : Pr w b K x n S R n1 S1 R1 n2 S2 R2 wr) : Pr w b K x n S R n1 S1 R1 n2 S2 R2 wr.drew := h.below (Below.refl _ _).drew
theorem Pr.mono (h : Pr w b K x n S R n1 S1 R1 n2 S2 R2 wr) (hK : K ≤ K') : Pr w b K' x n S R n1 S1 R1 n2 S2 R2 wr := ⟨h.rd.mono hK, h.r1, h.r2, h.a, h.ne, h.old⟩
theorem Pr.s1 (h : Pr w b K x n S R n1 S1 R1 n2 S2 R2 wr) (m : Int) (T U : ByteArray) : Pr w b K x n S R m T U n2 S2 R2 (((wr.setCell ⟨w.heap.size, 0, none⟩ (.int .i64 m)).setCell ⟨w.heap.size, 1, none⟩ (.string T)).setCell ⟨w.heap.size, 2, none⟩ (.string U)) := by
  have hne := h.ne
  exact ⟨rdB_set (rdB_set (rdB_set h.rd hne.1) hne.1) hne.1, h.r1.set3, ((h.r2.far (by simp) _).far (by simp) _).far (by simp) _, ((h.a.far (by simp; omega) _).far (by simp; omega) _).far (by simp; omega) _, hne, grown_setS (grown_setS (grown_setS h.old (Nat.le_refl _)) (Nat.le_refl _)) (Nat.le_refl _)⟩
theorem Pr.s2 (h : Pr w b K x n S R n1 S1 R1 n2 S2 R2 wr) (m : Int) (T U : ByteArray) : Pr w b K x n S R n1 S1 R1 m T U (((wr.setCell ⟨w.heap.size + 1, 0, none⟩ (.int .i64 m)).setCell ⟨w.heap.size + 1, 1, none⟩ (.string T)).setCell ⟨w.heap.size + 1, 2, none⟩ (.string U)) := by
  have hne := h.ne
  have hl : b < w.heap.size + 1 := by omega
  exact ⟨rdB_set (rdB_set (rdB_set h.rd hl) hl) hl, ((h.r1.far (by simp) _).far (by simp) _).far (by simp) _, h.r2.set3, ((h.a.far (by simp; omega) _).far (by simp; omega) _).far (by simp; omega) _, hne, grown_setS (grown_setS (grown_setS h.old (Nat.le_succ _)) (Nat.le_succ _)) (Nat.le_succ _)⟩
theorem Pr.s5 (h : Pr w b K x n S R n1 S1 R1 n2 S2 R2 wr) {y : Nat} (hy : w.heap.size + 1 < y) (hyx : y ≠ x) (m : Int) (T U : ByteArray) : Pr w b K x n S R n1 S1 R1 n2 S2 R2 (((wr.setCell ⟨y, 0, none⟩ (.int .i64 m)).setCell ⟨y, 1, none⟩ (.string T)).setCell ⟨y, 2, none⟩ (.string U)) := by
  have hne := h.ne
  have hl : b < y := by omega
  have hle : w.heap.size ≤ y := by omega
  exact ⟨rdB_set (rdB_set (rdB_set h.rd hl) hl) hl, ((h.r1.far (by simp; omega) _).far (by simp; omega) _).far (by simp; omega) _, ((h.r2.far (by simp; omega) _).far (by simp; omega) _).far (by simp; omega) _, ((h.a.far (by simp; omega) _).far (by simp; omega) _).far (by simp; omega) _, hne, grown_setS (grown_setS (grown_setS h.old hle) hle) hle⟩
theorem Pr.s51 (h : Pr w b K x n S R n1 S1 R1 n2 S2 R2 wr) {y : Nat} (hy : w.heap.size + 1 < y) (hyx : y ≠ x) (U : ByteArray) : Pr w b K x n S R n1 S1 R1 n2 S2 R2 (wr.setCell ⟨y, 2, none⟩ (.string U)) := by
  have hne := h.ne
  exact ⟨rdB_set h.rd (by omega), h.r1.far (by simp; omega) _, h.r2.far (by simp; omega) _, h.a.far (by simp; omega) _, hne, grown_setS h.old (by omega)⟩
end
/-- Two structures that are drawn. -/
def PairO (b K : Nat) (w : World) (e : Ending) (w' : World) : Prop := ∃ (n m : Nat) (S R T U : ByteArray), 1 ≤ n ∧ n ≤ 5 ∧ 1 ≤ m ∧ m ≤ 5 ∧ S.size = n ∧ R.size = n * n ∧ T.size = m ∧ U.size = m * m ∧ e = .returned (.tuple #[strV n S R, strV m T U]) ∧ RdB w' b K ∧ w.grownBy w' (some b)
theorem results_two {fn : Func} {p q : Tmp} (h : fn.results = #[.cell p 24, .cell q 24]) {tmps : Array Value} {w : World} {b c : Nat} {n m : Int} {S R T U : ByteArray} (hp : tmps.getD p undef = .pointer (some ⟨b, 0, none⟩)) (hb : SBlk w b n S R) (hq : tmps.getD q undef = .pointer (some ⟨c, 0, none⟩)) (hc : SBlk w c m T U) :
    (results fn tmps).run Tryz.prog w = .ok (.tuple #[strV n S R, strV m T U]) w := by
  have hl := run_loadVar_row (P := Tryz.prog) w b 24 24 #[.int .i64 n, .string S, .string R] (0, 0) _ hb Tryz.underlying24 rfl strInfo
  have hl2 := run_loadVar_row (P := Tryz.prog) w c 24 24 #[.int .i64 m, .string T, .string U] (0, 0) _ hc Tryz.underlying24 rfl strInfo
  have hp' : tmps[p]?.getD undef = .pointer (some ⟨b, 0, none⟩) := by simpa using hp
  have hq' : tmps[q]?.getD undef = .pointer (some ⟨c, 0, none⟩) := by simpa using hq
  simp [results, h, hp', hq', asAddr, Sem.run_bind, Result.andThen, hl, hl2, strV]
theorem Pr.fin {w wr : World} {b K K' x : Nat} {n : Int} {S R : ByteArray} {n1 n2 : Nat} {S1 R1 S2 R2 : ByteArray} (h : Pr w b K x n S R (n1 : Int) S1 R1 (n2 : Int) S2 R2 wr) (hK : K ≤ K')
    (hn : 1 ≤ n1 ∧ n1 ≤ 5) (hm : 1 ≤ n2 ∧ n2 ≤ 5) (hS : S1.size = n1) (hR : R1.size = n1 * n1) (hT : S2.size = n2) (hU : R2.size = n2 * n2) :
    PairO b K' w (.returned (.tuple #[strV (n1 : Int) S1 R1, strV (n2 : Int) S2 R2])) wr := ⟨n1, n2, S1, R1, S2, R2, hn.1, hn.2, hm.1, hm.2, hS, hR, hT, hU, rfl, h.rd.mono hK, h.old⟩
theorem l1Part_n (n : Nat) (S R : ByteArray) (L : List Nat) (v : Value) (w : World) (hn : n ≤ 8) (hS : S.size = n) (hR : R.size = n * n) (hl : L.length = n) (hL : ∀ z ∈ L, z < n) (hv : NumsAt w v L) :
    Calls Tryz.prog 77 #[strV n S R, v] w fun e w' => (∃ T U : ByteArray, T.size = n ∧ U.size = n * n ∧ e = .returned (strV n T U)) ∧ Below w.heap.size w w' := by
  refine (l1Part_any n S R L v w hn hS hR (by omega) (fun j hj => hL _ (by rw [List.getD_eq_getElem?_getD, List.getElem?_eq_getElem hj]; exact List.getElem_mem hj)) hv).mono fun e w' h => ⟨?_, h.2⟩
  refine ⟨_, _, ?_, ?_, by rw [h.1]; unfold partV; rw [hl]⟩
  · exact bitsOf_size _ _
  · exact bitsOf_size _ _
set_option maxHeartbeats 4000000 in
theorem l1Pair_any (b K : Nat) (w : World) (h : RdB w b K) (hk : K < 1000000000) :
    Calls Tryz.prog 76 #[.pointer (some ⟨b, 0, none⟩)] w (PairO b (K + 200) w) := by
  have hb := h.block
  obtain ⟨W, hW⟩ : ∃ W, (w.alloc (.cells #[.int .i64 0, .string ⟨#[]⟩, .string ⟨#[]⟩] 24)).alloc (.cells #[.int .i64 0, .string ⟨#[]⟩, .string ⟨#[]⟩] 24) = W := ⟨_, rfl⟩
  have HB0 : Hid (Below w.heap.size w W ∧ SBlk W w.heap.size 0 ⟨#[]⟩ ⟨#[]⟩ ∧ SBlk W (w.heap.size + 1) 0 ⟨#[]⟩ ⟨#[]⟩ ∧ W.heap.size = w.heap.size + 2) := by
    subst hW
    have h1 : Below w.heap.size w (w.alloc (.cells #[.int .i64 0, .string ⟨#[]⟩, .string ⟨#[]⟩] 24)) := (Below.refl _ _).alloc (Nat.le_refl _) _
    have h2 := SBlk.new (w.alloc (.cells #[.int .i64 0, .string ⟨#[]⟩, .string ⟨#[]⟩] 24)) 0 ⟨#[]⟩ ⟨#[]⟩
    rw [World.size_alloc] at h2
    refine ⟨h1.alloc h1.size _, (SBlk.new w 0 ⟨#[]⟩ ⟨#[]⟩).below ((Below.refl _ _).alloc (Nat.le_refl _) _) (by simp), h2, by simp⟩
  have HR := Lib.hid (rdB_bel h HB0.out.1)
  have HW := Lib.hid hW
  clear h hW
  go_enter Tryz.func76, Tryz.ntmps76
  go_upto_region 1 with fail
  rw [HW.out]
  go_wp2_with fail
  refine (l1Some_any b K W HR.out (by omega)).mono ?_; rintro e w1 ⟨n, n1, n5, S, R, hS, hR, rfl, hr, hg⟩
  have hal : Below w1.heap.size w1 (w1.alloc (.cells #[.int .i64 (n : Int), .string S, .string R] 24)) := (Below.refl _ _).alloc (Nat.le_refl _) _
  obtain ⟨W2, hW2⟩ : ∃ W, w1.alloc (.cells #[.int .i64 (n : Int), .string S, .string R] 24) = W := ⟨_, rfl⟩
  have HP2 : Hid (Pr w b (K + 61) w1.heap.size (n : Int) S R 0 ⟨#[]⟩ ⟨#[]⟩ 0 ⟨#[]⟩ ⟨#[]⟩ W2) := by
    rw [← hW2]
    have hs := hg.size
    have h3 := HB0.out.2.2.2
    refine ⟨rdB_bel hr hal, (HB0.out.2.1.grown hg (by omega)).below hal ?_, (HB0.out.2.2.1.grown hg (by omega)).below hal (by omega), SBlk.new w1 _ S R, ⟨hb, by omega⟩, ((grown_belowS (row := some b) HB0.out.1).trans hg).trans (grown_belowS hal)⟩
    omega
  have HW2 := Lib.hid hW2
  clear hr hg hal hW2
  unfold strV
  go_upto_region 2 with fail
  rw [HW2.out]
  generalize w1.heap.size = x4 at *
  go_wp2_with fail
  refine (pickB _ b _ _ HP2.out.rd (by omega) (by omega) (by omega)).mono ?_; rintro e w3 ⟨v, rfl, v0, v1, hr, hg⟩
  have HP3 := Lib.hid (HP2.out.pick hr hg)
  have hne := HP3.out.ne
  have hx0 : w.heap.size ≠ x4 := by omega
  have hx1 : w.heap.size + 1 ≠ x4 := by omega
  clear hr hg HP2 HW2 HB0 HR HW
  have HSH := Lib.hid (fun W K' hk hr => l1Shuffle_any W b K' n hr hk (by omega))
  have HPT := Lib.hid (fun L v U hl hL hv => l1Part_n n S R L v U (by omega) hS hR hl hL hv)
  by_cases hv0 : v = 0
  · subst hv0
    go_upto_region 4 with fail
    obtain ⟨c0, c1, c2, f0, f1, f2, hl⟩ := HP3.out.a.cells
    obtain ⟨g0, g1, g2, i0, i1, i2, hl1⟩ := HP3.out.r1.cells
    obtain ⟨k0, k1, k2, j0, j1, j2, hl2⟩ := HP3.out.r2.cells
    go_region_held3 (fun w' => w'.cell? ⟨x4, 0, none⟩ = some (.int .i64 (n : Int)) ∧ w'.cell? ⟨x4, 1, none⟩ = some (.string S) ∧ w'.cell? ⟨x4, 2, none⟩ = some (.string R))
      (go_keep)
      (first
        | (go_at_call 133; refine (HSH.out _ (K + 62) (by omega) (by first | exact HP3.out.drew.rd | exact (HP3.out.drew.s1 _ _ _).rd)).mono ?_; rintro e w5 ⟨v, L, rfl, hl, hL, hnv, hr, hg⟩; have HNV := Lib.hid hnv; have HLN := Lib.hid hl; have HLL := Lib.hid hL; (first | have HP5 := Lib.hid (HP3.out.drew.pick hr hg) | have HP5 := Lib.hid ((HP3.out.drew.s1 _ _ _).pick hr hg)); obtain ⟨c0, c1, c2, f0, f1, f2, hl⟩ := HP5.out.a.cells; obtain ⟨g0, g1, g2, i0, i1, i2, hl1⟩ := HP5.out.r1.cells; obtain ⟨k0, k1, k2, j0, j1, j2, hl2⟩ := HP5.out.r2.cells; clear hr hg hnv hl hL)
        | (go_at_call 77; refine (HPT.out L v _ HLN.out HLL.out (by first | exact HNV.out | exact HNV.out.below (Below.refl _ _))).mono ?_; rintro e w6 ⟨⟨T, U, hT, hU, rfl⟩, hb6⟩; (first | have HP6 := Lib.hid (HP5.out.below hb6) | have HP6 := Lib.hid ((HP5.out.s1 _ _ _).below hb6)); obtain ⟨c0, c1, c2, f0, f1, f2, hl⟩ := HP6.out.a.cells; obtain ⟨g0, g1, g2, i0, i1, i2, hl1⟩ := HP6.out.r1.cells; obtain ⟨k0, k1, k2, j0, j1, j2, hl2⟩ := HP6.out.r2.cells; clear hb6; unfold strV))
    all_goals
      have HF := Lib.hid ((HP6.out.s1 (n : Int) S R).s2 (n : Int) T U)
      go_wp2_with fail
      refine bodyPost_ret (v := .tuple #[strV n S R, strV n T U]) ?_ rfl (HF.out.fin (by omega) ⟨n1, n5⟩ ⟨n1, n5⟩ hS hR hT hU)
      exact results_two rfl rfl HF.out.r1 rfl HF.out.r2
  · have hv0B : (v == 0) = false := by simpa using hv0
    by_cases hv1 : v = 1
    · subst hv1
      go_upto_region 6 with fail
      obtain ⟨c0, c1, c2, f0, f1, f2, hl⟩ := HP3.out.a.cells
      have hal : Below w3.heap.size w3 (w3.alloc (.cells #[.int .i64 0, .string ⟨#[]⟩, .string ⟨#[]⟩] 24)).drew := ((Below.refl _ _).alloc (Nat.le_refl _) _).drew
      have HPA := Lib.hid (HP3.out.below hal)
      have hb3 := HP3.out.r2.cells.2.2.2.2.2.2
      have hx3 : w3.heap.size ≠ x4 := by omega
      go_cut [5] (fun v wx => ∃ (x5 : Nat) (T U : ByteArray), v = .pointer (some ⟨x5, 0, none⟩) ∧ T.size = n ∧ U.size = n * n ∧ Hid (SBlk wx x5 (n : Int) T U ∧ Pr w b (K + 62 + n) x4 (n : Int) S R 0 ⟨#[]⟩ ⟨#[]⟩ 0 ⟨#[]⟩ ⟨#[]⟩ wx ∧ w.heap.size + 1 < x5 ∧ x5 ≠ x4))
      case first =>
        go_region_held3 (fun w' => w'.cell? ⟨x4, 0, none⟩ = some (.int .i64 (n : Int)) ∧ w'.cell? ⟨x4, 1, none⟩ = some (.string S) ∧ w'.cell? ⟨x4, 2, none⟩ = some (.string R))
          (go_keep)
          (first
            | (go_at_call 133; refine (HSH.out _ (K + 62) (by omega) (by first | exact HP3.out.drew.rd | exact HPA.out.rd)).mono ?_; rintro e w5 ⟨v, L, rfl, hl, hL, hnv, hr, hg⟩; have HNV := Lib.hid hnv; have HLN := Lib.hid hl; have HLL := Lib.hid hL; (first | have HP5 := Lib.hid (HP3.out.drew.pick hr hg) | have HP5 := Lib.hid (HPA.out.pick hr hg)); (first | have HA5 : Hid (SBlk w5 w3.heap.size 0 ⟨#[]⟩ ⟨#[]⟩) := (hg.block w3.heap.size (by simp) (by intro e; injection e; omega)).trans (SBlk.new w3 0 ⟨#[]⟩ ⟨#[]⟩) | skip); clear hl; obtain ⟨c0, c1, c2, f0, f1, f2, hl⟩ := HP5.out.a.cells; have hx5 : w5.heap.size ≠ x4 := (by omega); clear hr hg hnv hL)
            | (go_at_call 77; refine (HPT.out L v _ HLN.out HLL.out (by first | exact HNV.out | exact HNV.out.below ((Below.refl _ _).alloc (Nat.le_refl _) _))).mono ?_; rintro e w6 ⟨⟨T, U, hT, hU, rfl⟩, hb6⟩; have HT6 : Hid (Below w5.heap.size w5 w6) := (by first | exact hb6 | exact (((Below.refl w5.heap.size w5).alloc (Nat.le_refl _) _).trans (hb6.mono (by simp)))); have HP6 := Lib.hid (HP5.out.below HT6.out); obtain ⟨c0, c1, c2, f0, f1, f2, hl⟩ := HP6.out.a.cells; (first | have HA6 : Hid (SBlk w6 w3.heap.size 0 ⟨#[]⟩ ⟨#[]⟩) := HA5.out.below hb6 HA5.out.cells.2.2.2.2.2.2 | have HA6 : Hid (SBlk w6 w5.heap.size 0 ⟨#[]⟩ ⟨#[]⟩) := (SBlk.new w5 0 ⟨#[]⟩ ⟨#[]⟩).below hb6 (by simp) | skip); (first | obtain ⟨a0, a1, a2, a3, a4, a5, a6⟩ := HA6.out.cells | skip); clear hb6; unfold strV))
        all_goals
          have e5 := HP5.out.r2.cells.2.2.2.2.2.2
          have e6 := HP6.out.r2.cells.2.2.2.2.2.2
          go_wp2_with fail
          go_meet
          first
          | exact ⟨_, T, U, rfl, hT, hU, SBlk.new w6 _ _ _, HP6.out.below ((Below.refl _ _).alloc (Nat.le_refl _) _), e6, by omega⟩
          | exact ⟨_, T, U, rfl, hT, hU, HA6.out.set3, HP6.out.s5 e5 hx5 _ _ _, e5, hx5⟩
          | exact ⟨_, T, U, rfl, hT, hU, HA6.out.set3, HP6.out.s5 hb3 hx3 _ _ _, hb3, hx3⟩
      case rest =>
        obtain ⟨x5, T, U, rfl, hT, hU, HC⟩ := hcut
        clear c0 c1 c2 f0 f1 f2 hl hal HPA hb3 hx3 HP3 HSH HPT
        have hx4 := HC.out.2.2.1
        have hx5 := HC.out.2.2.2
        have hnn : 1 ≤ n * n ∧ n * n ≤ 25 := ⟨Nat.mul_le_mul n1 n1, Nat.mul_le_mul n5 n5⟩
        obtain ⟨N, hN⟩ : ∃ N, n * n = N := ⟨_, rfl⟩
        have HNN := Lib.hid hN
        rw [hN] at hU hnn
        clear hN
        obtain ⟨c0, c1, c2, f0, f1, f2, l7⟩ := HC.out.1.cells
        go_wp2_with fail
        refine (pickB _ b _ _ HC.out.2.1.rd (by omega) (by omega) (by omega)).mono ?_; rintro e w8 ⟨k, rfl, k0, k1, hr, hg⟩
        have HP8 := Lib.hid (HC.out.2.1.pick hr hg)
        have HX8 : Hid (SBlk w8 x5 (n : Int) T U) := HC.out.1.grown hg (by omega)
        clear hr hg c0 c1 c2 f0 f1 f2 l7 HC
        obtain ⟨j, rfl⟩ := Int.eq_ofNat_of_zero_le k0
        have hj : j < N := by omega
        have hw1 : IntKind.i64.wrap ((j : Int) + 1) = (j : Int) + 1 := IntWalk.i64_in _ (by omega)
        have hq1 : (U.extract j (j + 1)).size = 1 := by simp; omega
        have hq0 : (U.extract 0 j).size = j := by simp; omega
        have hq2 : (U.extract (j + 1) N).size = N - (j + 1) := by simp; omega
        have HFL := Lib.hid (fun w => l1Flip_one (U.extract j (j + 1)) hq1 w)
        obtain ⟨c0, c1, c2, f0, f1, f2, l8⟩ := HX8.out.cells
        have hjI : (j : Int) + 1 ≤ (U.size : Int) := by omega
        have hjJ : (j : Int) ≤ (U.size : Int) := by omega
        obtain ⟨u, hu⟩ : ∃ u : ByteArray, (⟨#[flipU (U.extract j (j + 1))]⟩ : ByteArray) = u := ⟨_, rfl⟩
        have huz : u.size = 1 := by rw [← hu]; rfl
        rw [hu] at HFL
        clear hu
        have hc1 : ¬ 9223372036854775807 < (U.extract 0 j).size + u.size := by rw [hq0, huz]; omega
        have hc2 : ¬ 9223372036854775807 < (U.extract 0 j ++ u).size + (U.extract (j + 1) N).size := by rw [ByteArray.size_append, hq0, huz, hq2]; omega
        have HUZ : Hid ((U.extract 0 j ++ u ++ U.extract (j + 1) N).size = N) := by show _ = _; rw [ByteArray.size_append, ByteArray.size_append, hq0, huz, hq2]; omega
        have q2 := fun s => Since.cell c2 s
        go_wp2_with fail
        refine wp_region_since_tail 19 (by kernel_rfl) (by kernel_rfl) ?_
        simp only [List.take_succ_cons, List.take_zero, List.drop_succ_cons, List.drop_zero]
        repeat (go_big_quiet_step (with_reducible exact Since.call (HFL.out _)))
        refine wpQuiet_nil ?_
        intro w9 hb9
        have HX9 : Hid (SBlk w9 x5 (n : Int) T U) := HX8.out.below hb9 l8
        have HP9 := Lib.hid (HP8.out.below hb9)
        obtain ⟨e0, e1, e2, h0, h1, h2, l9⟩ := HX9.out.cells
        obtain ⟨wd, hwd⟩ : ∃ x, w9.setCell ⟨x5, 2, none⟩ (.string (U.extract 0 j ++ u ++ U.extract (j + 1) N)) = x := ⟨_, rfl⟩
        have HC9 : Hid (SBlk wd x5 (n : Int) T (U.extract 0 j ++ u ++ U.extract (j + 1) N) ∧ Pr w b (K + 62 + n + 1) x4 (n : Int) S R 0 ⟨#[]⟩ ⟨#[]⟩ 0 ⟨#[]⟩ ⟨#[]⟩ wd) := by
          rw [← hwd]
          exact ⟨HX9.out.set2, HP9.out.s51 hx4 hx5 _⟩
        have HWD := Lib.hid hwd
        obtain ⟨U', hUe⟩ : ∃ x, (U.extract 0 j ++ u ++ U.extract (j + 1) N) = x := ⟨_, rfl⟩
        rw [hUe] at HC9 HWD HUZ
        have HUE := Lib.hid hUe
        clear hb9 q2 c0 c1 c2 f0 f1 f2 hUe hwd
        go_upto_region 9 with fail
        rw [HUE.out, HWD.out]
        clear e0 e1 e2 h0 h1 h2 l9
        obtain ⟨c0, c1, c2, f0, f1, f2, hl⟩ := HC9.out.2.a.cells
        obtain ⟨e0, e1, e2, _, _, _, l9⟩ := HC9.out.1.cells
        obtain ⟨g0, g1, g2, i0, i1, i2, hl1⟩ := HC9.out.2.r1.cells
        obtain ⟨k0, k1, k2, j0, j1, j2, hl2⟩ := HC9.out.2.r2.cells
        have hy0 : w.heap.size ≠ x5 := by omega
        have hy1 : w.heap.size + 1 ≠ x5 := by omega
        go_region_held3 (fun w' => w'.cell? ⟨x4, 0, none⟩ = some (.int .i64 (n : Int)) ∧ w'.cell? ⟨x4, 1, none⟩ = some (.string S) ∧ w'.cell? ⟨x4, 2, none⟩ = some (.string R) ∧ w'.cell? ⟨x5, 0, none⟩ = some (.int .i64 (n : Int)) ∧ w'.cell? ⟨x5, 1, none⟩ = some (.string T) ∧ w'.cell? ⟨x5, 2, none⟩ = some (.string U'))
          (go_keep)
          (fail)
        all_goals
          have HF := Lib.hid ((HC9.out.2.s1 (n : Int) S R).s2 (n : Int) T U').drew
          have hU' : U'.size = n * n := by rw [HUZ.out, HNN.out]
          go_wp2_with fail
          refine bodyPost_ret (v := .tuple #[strV n S R, strV n T U']) ?_ rfl (HF.out.fin (by omega) ⟨n1, n5⟩ ⟨n1, n5⟩ hS hR hT hU')
          exact results_two rfl rfl HF.out.r1 rfl HF.out.r2
    · have hv1B : (v == 1) = false := by simpa using hv1
      clear HSH HPT
      obtain ⟨c0, c1, c2, f0, f1, f2, hl⟩ := HP3.out.a.cells
      obtain ⟨g0, g1, g2, i0, i1, i2, hl1⟩ := HP3.out.r1.cells
      obtain ⟨k0, k1, k2, j0, j1, j2, hl2⟩ := HP3.out.r2.cells
      by_cases hv2 : v = 2
      · subst hv2
        have HDR := Lib.hid (fun W hr => l1Draw_any b (K + 61 + 1) n n1 n5 W hr (by omega))
        go_upto_region 11 with fail
        go_region_held3 (fun w' => w'.cell? ⟨x4, 0, none⟩ = some (.int .i64 (n : Int)) ∧ w'.cell? ⟨x4, 1, none⟩ = some (.string S) ∧ w'.cell? ⟨x4, 2, none⟩ = some (.string R))
          (go_keep)
          (first
            | (go_at_call 135; refine (HDR.out _ HP3.out.drew.rd).mono ?_; rintro e w6 ⟨T, U, hT, hU, rfl, hr, hg⟩; have HP6 := Lib.hid (HP3.out.drew.pick hr hg); clear hl hl1 hl2 c0 c1 c2 f0 f1 f2 g0 g1 g2 i0 i1 i2 k0 k1 k2 j0 j1 j2; obtain ⟨c0, c1, c2, f0, f1, f2, hl⟩ := HP6.out.a.cells; obtain ⟨g0, g1, g2, i0, i1, i2, hl1⟩ := HP6.out.r1.cells; obtain ⟨k0, k1, k2, j0, j1, j2, hl2⟩ := HP6.out.r2.cells; clear hr hg; unfold strV))
        all_goals
          have HF := Lib.hid ((HP6.out.s1 (n : Int) S R).s2 (n : Int) T U)
          go_wp2_with fail
          refine bodyPost_ret (v := .tuple #[strV n S R, strV n T U]) ?_ rfl (HF.out.fin (by omega) ⟨n1, n5⟩ ⟨n1, n5⟩ hS hR hT hU)
          exact results_two rfl rfl HF.out.r1 rfl HF.out.r2
      · have hv2B : (v == 2) = false := by simpa using hv2
        have HDR := Lib.hid (fun W hr => l1Some_any b (K + 61 + 1) W hr (by omega))
        go_upto_region 12 with fail
        go_region_held3 (fun w' => w'.cell? ⟨x4, 0, none⟩ = some (.int .i64 (n : Int)) ∧ w'.cell? ⟨x4, 1, none⟩ = some (.string S) ∧ w'.cell? ⟨x4, 2, none⟩ = some (.string R))
          (go_keep)
          (first
            | (go_at_call 105; refine (HDR.out _ HP3.out.drew.rd).mono ?_; rintro e w6 ⟨m, m1, m5, T, U, hT, hU, rfl, hr, hg⟩; have HP6 := Lib.hid (HP3.out.drew.pick hr hg); clear hl hl1 hl2 c0 c1 c2 f0 f1 f2 g0 g1 g2 i0 i1 i2 k0 k1 k2 j0 j1 j2; obtain ⟨c0, c1, c2, f0, f1, f2, hl⟩ := HP6.out.a.cells; obtain ⟨g0, g1, g2, i0, i1, i2, hl1⟩ := HP6.out.r1.cells; obtain ⟨k0, k1, k2, j0, j1, j2, hl2⟩ := HP6.out.r2.cells; clear hr hg; unfold strV))
        all_goals
          have HF := Lib.hid ((HP6.out.s1 (n : Int) S R).s2 (m : Int) T U)
          go_wp2_with fail
          refine bodyPost_ret (v := .tuple #[strV n S R, strV m T U]) ?_ rfl (HF.out.fin (by omega) ⟨n1, n5⟩ ⟨m1, m5⟩ hS hR hT hU)
          exact results_two rfl rfl HF.out.r1 rfl HF.out.r2
end Go.Proofs.YtjepegkbbbebkaaGreatDoor
/- Lists of numbers that a call builds; the draw of a list of elements. Condition: the reader lies in memory and has not drawn much. -/
namespace Go.Proofs.YtjepegkbbbebkaaGreatDoor
open Go.RowKit
set_option linter.unusedVariables false
set_option maxRecDepth 100000

/-- The slice v of the world w is the call's own since block B, and holds the numbers L. -/
structure OwnI (B : Nat) (w : World) (v : Value) (L : List Int) : Prop where
  own : w.ownsRow B 3 1 v L.length (L.map (Value.int .i64))
  ne : v ≠ .slice none 0 0
  low : B ≤ w.heap.size
theorem OwnI.cells {B : Nat} {w : World} {v : Value} {L : List Int} (h : OwnI B w v L) :
    ∃ g cap, v = .slice (some ⟨g, 0, none⟩) L.length cap ∧ B ≤ g ∧ g < w.heap.size ∧ L.length ≤ cap ∧ cap ≤ maxLen ∧ ∀ j, j < L.length → w.cell? ⟨g, j, none⟩ = some (.int .i64 (L.getD j 0)) := by
  rcases h.own.2 with ⟨h1, h2⟩ | ⟨g, cap, cur, rfl, hb, hg, hnc, hcm, hcs, htake⟩
  · exact absurd h1 h.ne
  · refine ⟨g, cap, rfl, hb, (h.own.lt g rfl).2, hnc, hcm, fun j hj => ?_⟩
    rw [h.own.cellAt j (by omega)]
    simp [hj]
theorem OwnI.ints {B : Nat} {w : World} {v : Value} {L : List Int} (h : OwnI B w v L) : IntsAt w v L := by
  obtain ⟨g, cap, rfl, h1, h2, h3, h4, h5⟩ := h.cells
  exact .inr ⟨g, 0, cap, rfl, h3, h4, h2, fun j hj => by rw [Nat.zero_add]; exact h5 j hj⟩
theorem OwnI.lit0 (B : Nat) (w : World) (hB : B ≤ w.heap.size) : OwnI B (w.alloc (.cells #[] 3)) (.slice (some ⟨w.heap.size, 0, none⟩) 0 0) [] :=
  ⟨World.ownsRow_made w #[] 0 hB (by decide) rfl, by simp, by simp; omega⟩
theorem OwnI.kept {B : Nat} {w w' : World} {v : Value} {L : List Int} (h : OwnI B w v L) (hb : ∀ k, v.ownBlock = some k → k < w.heap.size → w'.heap[k]? = w.heap[k]?) (hs : w.heap.size ≤ w'.heap.size) : OwnI B w' v L := by
  refine ⟨⟨h.own.1, ?_⟩, h.ne, Nat.le_trans h.low hs⟩
  rcases h.own.2 with hn | ⟨g, cap, cur, rfl, hb', hgg, rest⟩
  · exact .inl hn
  · exact .inr ⟨g, cap, cur, rfl, hb', by rw [hb g rfl (Array.getElem?_eq_some_iff.1 hgg).1]; exact hgg, rest⟩
theorem OwnI.below {B : Nat} {w w' : World} {v : Value} {L : List Int} (h : OwnI B w v L) (hb : Below w.heap.size w w') : OwnI B w' v L := h.kept (fun k _ hk => hb.block k hk) hb.size
theorem OwnI.mono {B B' : Nat} {w : World} {v : Value} {L : List Int} (h : OwnI B w v L) (hB : B' ≤ B) : OwnI B' w v L := by
  refine ⟨⟨h.own.1, ?_⟩, h.ne, Nat.le_trans hB h.low⟩
  rcases h.own.2 with hn | ⟨g, cap, cur, rfl, hb', rest⟩
  · exact .inl hn
  · exact .inr ⟨g, cap, cur, rfl, Nat.le_trans hB hb', rest⟩
theorem OwnI.block {B : Nat} {w : World} {v : Value} {L : List Int} (h : OwnI B w v L) : ∃ k, v.ownBlock = some k ∧ B ≤ k ∧ k < w.heap.size := by
  obtain ⟨g, cap, rfl, h1, h2, _⟩ := h.cells
  exact ⟨g, rfl, h1, h2⟩
theorem OwnI.grown {B b : Nat} {w w' : World} {v : Value} {L : List Int} (h : OwnI B w v L) (hg : w.grownBy w' (some b)) (hb : b < B) : OwnI B w' v L :=
  h.kept (fun k hk hl => hg.block k hl (by
    obtain ⟨j, hj, h1, _⟩ := h.block
    rw [hk] at hj; injection hj with hj
    intro e; injection e with e; omega)) hg.size
/-- One number is appended to a slice of the call's own. -/
theorem wpList_ownI1 {ops : Array Oper} {rest : List Oper} {o : Oper} {a : Act} {Q : Exit → Act → World → Prop} {B : Nat} {w : World} {v : Value} {L : List Int}
    (hown : OwnI B w v L) (hL : L.length ≤ 2000000) (hgd : o.guard = none) (s x : Operand)
    (ho : o.op = .call { callee := .builtin .append, args := #[s, x], argTypes := #[25, 25] }) (y : Int) (b : Nat) (hb : w.heap.size = b)
    (hs : a.eval s = v) (hx : a.eval x = .slice (some ⟨b, 0, none⟩) 1 1)
    (h : ∀ v' w', OwnI B w' v' (L ++ [y]) → w.grownBy w' v.ownBlock → wpList Tryz.prog ops Q rest (a.put o.dst v') w') :
    wpList Tryz.prog ops Q (o :: rest) a (w.alloc (.cells #[.int .i64 y] 3)) := by
  subst hb
  obtain ⟨i, hi, hz, h1, h2⟩ := info_parts natInfo3
  have hbase : B ≤ w.heap.size := hown.low
  have hown' : (w.alloc (.cells #[.int .i64 y] 3)).ownsRow B 3 1 v L.length (L.map (Value.int .i64)) := (hown.below ((Below.refl _ _).alloc (Nat.le_refl _) _)).own
  refine wpList_append_own _ hgd s x 25 ho B 3 i (.int .i64 0) 1 8 Tryz.underlying25 hi hz h1 h2 rfl (by decide) v L.length _ hs hown' ⟨w.heap.size, 0, none⟩ 1 1 [.int .i64 y] hx rfl ?_ ?_ ?_ ?_ ?_ ?_
  · intro j u hj
    match j, hj with
    | 0, hj => simp at hj; subst hj; simp [Addr.add]
  · intro u hu
    simp at hu; subst hu; rfl
  · unfold maxLen; omega
  · omega
  · simp; omega
  · intro v' w' h2 h3 h4
    refine h v' w' ⟨?_, ?_, ?_⟩ ?_
    · simpa using h2
    · intro e
      exact hown.ne (h4.1 e).1
    · have := h3.size
      simp at this
      omega
    · refine ⟨h3.os, h3.tape, h3.output, ?_, fun k hk hne => ?_⟩
      · have := h3.size
        simp at this
        omega
      · rw [h3.block k (by simp; omega) hne]
        exact Below.heap_alloc _ _ _ hk
theorem RdAt.farI {w w' : World} {b k : Nat} {row : Option Nat} (h : RdAt w b k) (hg : w.grownBy w' row) (hr : ∀ k, row = some k → b < k) : RdAt w' b k := by
  have hb := h.block
  obtain ⟨a, len, cap, f, c0, c1, fr, short, room, hrow⟩ := h
  have hne : ∀ k, k ≤ b → some k ≠ row := fun k hk e => by have := hr k e.symm; omega
  refine ⟨a, len, cap, f, hg.cell c0 (hne _ (Nat.le_refl _)), hg.cell c1 (hne _ (Nat.le_refl _)), ?_, short, room, ?_⟩
  · exact (World.frozen?_of_block (hg.block b hb (hne _ (Nat.le_refl _)))).trans fr
  · rcases hrow with h | ⟨b', off, rfl, hb', hc, hf⟩
    · exact .inl h
    · exact .inr ⟨b', off, rfl, hb', fun j hj => hg.cell (hc j hj) (hne _ (by show b' ≤ b; omega)), hf⟩
theorem RdB.farI {w w' : World} {b K : Nat} {row : Option Nat} (h : RdB w b K) (hg : w.grownBy w' row) (hr : ∀ k, row = some k → b < k) : RdB w' b K := by
  obtain ⟨k, h1, h2⟩ := h
  exact ⟨k, h1, h2.farI hg hr⟩
theorem grown_far {w0 w w' : World} {b : Nat} {row : Option Nat} (h : w0.grownBy w (some b)) (hg : w.grownBy w' row) (hr : ∀ k, row = some k → w0.heap.size ≤ k) : w0.grownBy w' (some b) :=
  ⟨hg.os.trans h.os, hg.tape.trans h.tape, hg.output.trans h.output, Nat.le_trans h.size hg.size, fun k hk hne => (hg.block k (Nat.lt_of_lt_of_le hk h.size) (fun e => by have := hr k e.symm; omega)).trans (h.block k hk hne)⟩
/-- A list of elements that is drawn. -/
structure Sl (w : World) (b K : Nat) (n : Int) (S R : ByteArray) (v : Value) (L : List Int) (wr : World) : Prop where
  rd : RdB wr b K
  a : SBlk wr w.heap.size n S R
  own : OwnI (w.heap.size + 1) wr v L
  lo : b < w.heap.size
  old : w.grownBy wr (some b)
section
variable {w wr w' : World} {b K K' : Nat} {n : Int} {S R : ByteArray} {v v' : Value} {L L' : List Int}
theorem Sl.pick (h : Sl w b K n S R v L wr) (hr : RdB w' b K') (hg : wr.grownBy w' (some b)) : Sl w b K' n S R v L w' :=
  ⟨hr, h.a.grown hg (by have := h.lo; omega), h.own.grown hg (by have := h.lo; omega), h.lo, h.old.trans hg⟩
theorem Sl.push (h : Sl w b K n S R v L wr) (ho : OwnI (w.heap.size + 1) w' v' L') (hg : wr.grownBy w' v.ownBlock) : Sl w b K n S R v' L' w' := by
  obtain ⟨g, hv, h1, h2⟩ := h.own.block
  have hlo := h.lo
  have hr : ∀ k, v.ownBlock = some k → w.heap.size < k := fun k hk => by rw [hv] at hk; injection hk with hk; omega
  exact ⟨h.rd.farI hg (fun k hk => by have := hr k hk; omega), (hg.block w.heap.size h.a.cells.2.2.2.2.2.2 (fun e => by have := hr _ e.symm; omega)).trans h.a, ho, hlo, grown_far h.old hg (fun k hk => by have := hr k hk; omega)⟩
end
def SomP (b K c : Nat) (w : World) (e : Ending) (w' : World) : Prop := ∃ v L, e = .returned v ∧ L.length = c ∧ OwnI w.heap.size w' v L ∧ RdB w' b K ∧ w.grownBy w' (some b)
set_option maxHeartbeats 1000000 in
theorem l4Some_any (b K n c : Nat) (S R : ByteArray) (hn : 1 ≤ n ∧ n ≤ 5) (hc : c ≤ 4) (w : World) (h : RdB w b K) (hk : K < 1000000000) :
    Calls Tryz.prog 166 #[.pointer (some ⟨b, 0, none⟩), strV n S R, .int .i64 (c : Int)] w (SomP b (K + 4) c w) := by
  have hb := h.block
  have hB : Below w.heap.size w (boxS w n S R) := boxS_below _ _ _ _
  have hX : SBlk (boxS w n S R) w.heap.size n S R := boxS_SBlk _ _ _ _
  have hz : (boxS w n S R).heap.size = w.heap.size + 1 := boxS_size _ _ _ _
  obtain ⟨W, hW⟩ : ∃ W, boxS w n S R = W := ⟨_, rfl⟩
  rw [hW] at hB hX hz
  unfold boxS at hW
  have HW := Lib.hid hW
  have HP0 : Hid (Sl w b K n S R (.slice (some ⟨W.heap.size, 0, none⟩) 0 0) [] (W.alloc (.cells #[] 3))) := by
    have al : Below W.heap.size W (W.alloc (.cells #[] 3)) := (Below.refl _ _).alloc (Nat.le_refl _) _
    exact ⟨rdB_bel (rdB_bel h hB) al, hX.below al (by omega), OwnI.lit0 _ W (by omega), hb, (grown_belowS hB).trans (grown_belowS al)⟩
  rw [hz] at HP0
  clear hW hB hX h
  unfold strV
  have hm1 : (n : Int) ≤ 8 := by omega
  have hm2 : (1 : Int) ≤ (n : Int) := by omega
  have hm3 : min (n : Int) 8 = (n : Int) := by omega
  have hm4 : max (n : Int) 1 = (n : Int) := by omega
  go_enter Tryz.func166, Tryz.ntmps166
  go_upto_region 1 with fail
  rw [HW.out]
  go_wp2_with fail
  go_loopw [8, 7] (fun i o wr => ∃ (k : Nat) (L : List Int), k ≤ c ∧ i = .int .i64 (k : Int) ∧ L.length = k ∧ Hid (Sl w b (K + k) n S R o L wr)) (fun i _ _ => c - (intOf i).toNat)
  case atStart => exact ⟨0, [], by omega, rfl, rfl, HP0.out⟩
  case round =>
    obtain ⟨k, L, hk2, rfl, hL, HP⟩ := hrel
    by_cases hlt : k < c
    · have hkI : (k : Int) < (c : Int) := by omega
      obtain ⟨c0, c1, c2, f0, f1, f2, hl⟩ := HP.out.a.cells
      go_wp2_with fail
      refine (pickB _ b _ _ HP.out.rd (by omega) (by omega) (by omega)).mono ?_; rintro e w2 ⟨z, rfl, z0, z1, hr, hg⟩
      have HP2 := Lib.hid (HP.out.pick hr hg)
      have HLL : Hid (L.length ≤ 2000000) := by show _ ≤ _; omega
      clear hr hg c0 c1 c2 f0 f1 f2 hl
      go_wp2_with (first | (at_builtin; refine wpList_ownI1 HP2.out.own HLL.out rfl (.tmp 15) (.tmp 22) rfl z _ rfl rfl rfl ?_; intro v' w' ho hg; have HP3 := Lib.hid (HP2.out.push ho hg); clear ho hg) | fail)
      go_roundw
      case rel => exact ⟨k + 1, L ++ [z], by omega, by go_num, by simp [hL], HP3.out⟩
      case measure => simp [intOf]; omega
    · have hkc : L.length = c := by omega
      have HF : Hid (SomP b (K + 4) c w (.returned u7) wr) := ⟨_, L, rfl, hkc, HP.out.own.mono (by omega), HP.out.rd.mono (by omega), HP.out.old⟩
      go_wp2_with fail
      go_ret
      exact HF.out
end Go.Proofs.YtjepegkbbbebkaaGreatDoor
/- The draw of two structures with lists of their elements. Condition: the reader lies in memory and has not drawn much. -/
namespace Go.Proofs.YtjepegkbbbebkaaGreatDoor
open Go.RowKit
set_option linter.unusedVariables false
set_option maxRecDepth 100000

theorem OwnI.set {B g i : Nat} {w : World} {v u : Value} {L : List Int} (h : OwnI B w v L) (hg : g < B) : OwnI B (w.setCell ⟨g, i, none⟩ u) v L :=
  h.kept (fun k hk _ => by
    obtain ⟨j, hj, h1, _⟩ := h.block
    rw [hk] at hj; injection hj with hj
    exact Below.heap_setCell _ _ _ _ (by simp; omega)) (by simp [World.setCell])
/-- Two structures, their results' boxes and the reader. -/
structure Qr (w : World) (b K x : Nat) (n : Int) (S R : ByteArray) (m : Int) (T U : ByteArray) (n1 : Int) (S1 R1 : ByteArray) (n2 : Int) (S2 R2 : ByteArray) (wr : World) : Prop where
  p : Pr w b K x n S R n1 S1 R1 n2 S2 R2 wr
  c : SBlk wr (x + 1) m T U
section
variable {w wr w' : World} {b K K' x : Nat} {n m n1 n2 k : Int} {S R T U S1 R1 S2 R2 V X : ByteArray}
theorem Qr.pick (h : Qr w b K x n S R m T U n1 S1 R1 n2 S2 R2 wr) (hr : RdB w' b K') (hg : wr.grownBy w' (some b)) : Qr w b K' x n S R m T U n1 S1 R1 n2 S2 R2 w' :=
  ⟨h.p.pick hr hg, h.c.grown hg (by have := h.p.ne; omega)⟩
theorem Qr.below (h : Qr w b K x n S R m T U n1 S1 R1 n2 S2 R2 wr) (hb : Below wr.heap.size wr w') : Qr w b K x n S R m T U n1 S1 R1 n2 S2 R2 w' := h.pick (h.p.rd.grown (grown_belowS hb)) (grown_belowS hb)
theorem Qr.drew (h : Qr w b K x n S R m T U n1 S1 R1 n2 S2 R2 wr) : Qr w b K x n S R m T U n1 S1 R1 n2 S2 R2 wr.drew := h.below (Below.refl _ _).drew
theorem Qr.mono (h : Qr w b K x n S R m T U n1 S1 R1 n2 S2 R2 wr) (hK : K ≤ K') : Qr w b K' x n S R m T U n1 S1 R1 n2 S2 R2 wr := ⟨h.p.mono hK, h.c⟩
theorem Qr.far (h : Qr w b K x n S R m T U n1 S1 R1 n2 S2 R2 wr) {B : Nat} (hB : x + 2 ≤ B) (hb : Below B wr w') : Qr w b K x n S R m T U n1 S1 R1 n2 S2 R2 w' := by
  have hne := h.p.ne
  have l1 := h.p.r1.cells.2.2.2.2.2.2
  refine ⟨⟨?_, h.p.r1.below hb (by omega), h.p.r2.below hb (by omega), h.p.a.below hb (by omega), hne, ?_⟩, h.c.below hb (by omega)⟩
  · obtain ⟨k, h1, h2⟩ := h.p.rd
    refine ⟨k, h1, ?_⟩
    have hbk := h2.block
    obtain ⟨a, len, cap, f, c0, c1, fr, short, room, hrow⟩ := h2
    have cell : ∀ (p : Addr) v, p.block ≤ b → wr.cell? p = some v → w'.cell? p = some v := fun p v hp hc => by
      rw [hb.cell (by omega)]; exact hc
    refine ⟨a, len, cap, f, cell _ _ (Nat.le_refl _) c0, cell _ _ (Nat.le_refl _) c1, ?_, short, room, ?_⟩
    · exact (World.frozen?_of_block (hb.block b (by omega))).trans fr
    · rcases hrow with h | ⟨b', off, rfl, hb', hc, hf⟩
      · exact .inl h
      · exact .inr ⟨b', off, rfl, hb', fun j hj => cell _ _ (by show b' ≤ b; omega) (hc j hj), hf⟩
  · exact ⟨hb.os.trans h.p.old.os, hb.tape.trans h.p.old.tape, hb.output.trans h.p.old.output, Nat.le_trans h.p.old.size hb.size, fun k hk hn => (hb.block k (by omega)).trans (h.p.old.block k hk hn)⟩
theorem Qr.s1 (h : Qr w b K x n S R m T U n1 S1 R1 n2 S2 R2 wr) (k : Int) (V X : ByteArray) : Qr w b K x n S R m T U k V X n2 S2 R2 (((wr.setCell ⟨w.heap.size, 0, none⟩ (.int .i64 k)).setCell ⟨w.heap.size, 1, none⟩ (.string V)).setCell ⟨w.heap.size, 2, none⟩ (.string X)) := by
  have hne := h.p.ne
  exact ⟨h.p.s1 k V X, ((h.c.far (by simp; omega) _).far (by simp; omega) _).far (by simp; omega) _⟩
theorem Qr.s2 (h : Qr w b K x n S R m T U n1 S1 R1 n2 S2 R2 wr) (k : Int) (V X : ByteArray) : Qr w b K x n S R m T U n1 S1 R1 k V X (((wr.setCell ⟨w.heap.size + 1, 0, none⟩ (.int .i64 k)).setCell ⟨w.heap.size + 1, 1, none⟩ (.string V)).setCell ⟨w.heap.size + 1, 2, none⟩ (.string X)) := by
  have hne := h.p.ne
  exact ⟨h.p.s2 k V X, ((h.c.far (by simp; omega) _).far (by simp; omega) _).far (by simp; omega) _⟩
/-- The first structure is stored anew. -/
theorem Qr.sa (h : Qr w b K x n S R m T U n1 S1 R1 n2 S2 R2 wr) (k : Int) (V X : ByteArray) : Qr w b K x k V X m T U n1 S1 R1 n2 S2 R2 (((wr.setCell ⟨x, 0, none⟩ (.int .i64 k)).setCell ⟨x, 1, none⟩ (.string V)).setCell ⟨x, 2, none⟩ (.string X)) := by
  have hne := h.p.ne
  have hl : b < x := by omega
  have hle : w.heap.size ≤ x := by omega
  exact ⟨⟨rdB_set (rdB_set (rdB_set h.p.rd hl) hl) hl, ((h.p.r1.far (by simp; omega) _).far (by simp; omega) _).far (by simp; omega) _, ((h.p.r2.far (by simp; omega) _).far (by simp; omega) _).far (by simp; omega) _, h.p.a.set3, hne, grown_setS (grown_setS (grown_setS h.p.old hle) hle) hle⟩, ((h.c.far (by simp) _).far (by simp) _).far (by simp) _⟩
theorem OwnI.set3 {B g : Nat} {v : Value} {L : List Int} (h : OwnI B wr v L) (hg : g < B) (k : Int) (V X : ByteArray) : OwnI B (((wr.setCell ⟨g, 0, none⟩ (.int .i64 k)).setCell ⟨g, 1, none⟩ (.string V)).setCell ⟨g, 2, none⟩ (.string X)) v L := ((h.set hg).set hg).set hg
end
/-- Two structures with lists of numbers. -/
def PairLO (b K : Nat) (w : World) (e : Ending) (w' : World) : Prop := ∃ (n m : Int) (S R T U : ByteArray) (v u : Value) (L M : List Int), (-1 ≤ n ∧ n ≤ 9223372036854775807) ∧ (-1 ≤ m ∧ m ≤ 9223372036854775807) ∧ S.size ≤ 10 ∧ R.size ≤ 100 ∧ T.size ≤ 10 ∧ U.size ≤ 100 ∧ L.length ≤ 40 ∧ M.length ≤ 40 ∧
  e = .returned (.tuple #[strV n S R, v, strV m T U, u]) ∧ IntsAt w' v L ∧ IntsAt w' u M ∧ (∀ k, v.ownBlock = some k → w.heap.size ≤ k) ∧ (∀ k, u.ownBlock = some k → w.heap.size ≤ k) ∧ RdB w' b K ∧ w.grownBy w' (some b)
theorem results_c4 {fn : Func} {p q r s : Tmp} (h : fn.results = #[.cell p 24, .tmp q, .cell r 24, .tmp s]) {tmps : Array Value} {w : World} {b c : Nat} {n m : Int} {S R T U : ByteArray} {v u : Value} (hp : tmps.getD p undef = .pointer (some ⟨b, 0, none⟩)) (hb : SBlk w b n S R) (hq : tmps.getD q undef = v) (hr : tmps.getD r undef = .pointer (some ⟨c, 0, none⟩)) (hc : SBlk w c m T U) (hs : tmps.getD s undef = u) :
    (results fn tmps).run Tryz.prog w = .ok (.tuple #[strV n S R, v, strV m T U, u]) w := by
  have hl := run_loadVar_row (P := Tryz.prog) w b 24 24 #[.int .i64 n, .string S, .string R] (0, 0) _ hb Tryz.underlying24 rfl strInfo
  have hl2 := run_loadVar_row (P := Tryz.prog) w c 24 24 #[.int .i64 m, .string T, .string U] (0, 0) _ hc Tryz.underlying24 rfl strInfo
  have hp' : tmps[p]?.getD undef = .pointer (some ⟨b, 0, none⟩) := by simpa using hp
  have hq' : tmps[q]?.getD undef = v := by simpa using hq
  have hr' : tmps[r]?.getD undef = .pointer (some ⟨c, 0, none⟩) := by simpa using hr
  have hs' : tmps[s]?.getD undef = u := by simpa using hs
  simp [results, h, hp', hq', hr', hs', asAddr, Sem.run_bind, Result.andThen, hl, hl2, strV]
theorem OwnI.from_ {B B' : Nat} {w : World} {v : Value} {L : List Int} (h : OwnI B w v L) (hB : B' ≤ B) : ∀ k, v.ownBlock = some k → B' ≤ k := fun k hk => by
  obtain ⟨j, hj, h1, _⟩ := h.block
  rw [hk] at hj; injection hj with hj
  omega
theorem pairL_fin {w wr : World} {b K K' x : Nat} {n m : Int} {S R T U : ByteArray} {B1 B2 : Nat} {v u : Value} {L M : List Int}
    (h : Qr w b K x n S R m T U n S R m T U wr) (hK : K ≤ K') (hn : -1 ≤ n ∧ n ≤ 9223372036854775807) (hm : -1 ≤ m ∧ m ≤ 9223372036854775807) (hS : S.size ≤ 10) (hR : R.size ≤ 100) (hT : T.size ≤ 10) (hU : U.size ≤ 100) (hL : L.length ≤ 40) (hM : M.length ≤ 40) (h1 : w.heap.size ≤ B1) (h2 : w.heap.size ≤ B2) (o1 : OwnI B1 wr v L) (o2 : OwnI B2 wr u M) :
    PairLO b K' w (.returned (.tuple #[strV n S R, v, strV m T U, u])) wr := ⟨n, m, S, R, T, U, v, u, L, M, hn, hm, hS, hR, hT, hU, hL, hM, rfl, o1.ints, o2.ints, o1.from_ h1, o2.from_ h2, h.p.rd.mono hK, h.p.old⟩
/-- The draw behind the lists: where the last numbers are drawn. -/
structure Ql (w : World) (b K x : Nat) (n : Int) (S R : ByteArray) (m : Int) (T U : ByteArray) (v u : Value) (L M : List Int) (Bb : Nat) (wr : World) : Prop where
  q : Qr w b K x n S R m T U 0 ⟨#[]⟩ ⟨#[]⟩ 0 ⟨#[]⟩ ⟨#[]⟩ wr
  a : OwnI (x + 2) wr v L
  b : OwnI Bb wr u M
  lo : ∀ k, v.ownBlock = some k → k < Bb
  xb : x + 2 ≤ Bb
section
variable {w wr w' : World} {b K K' x : Nat} {n m k : Int} {S R T U V X : ByteArray} {v u v' u' : Value} {L M L' M' : List Int} {Bb : Nat}
theorem Ql.pick (h : Ql w b K x n S R m T U v u L M Bb wr) (hr : RdB w' b K') (hg : wr.grownBy w' (some b)) : Ql w b K' x n S R m T U v u L M Bb w' :=
  ⟨h.q.pick hr hg, h.a.grown hg (by have := h.q.p.ne; omega), h.b.grown hg (by have := h.q.p.ne; have := h.xb; omega), h.lo, h.xb⟩
theorem Ql.below (h : Ql w b K x n S R m T U v u L M Bb wr) (hb : Below wr.heap.size wr w') : Ql w b K x n S R m T U v u L M Bb w' := h.pick (h.q.p.rd.grown (grown_belowS hb)) (grown_belowS hb)
theorem Ql.drew (h : Ql w b K x n S R m T U v u L M Bb wr) : Ql w b K x n S R m T U v u L M Bb wr.drew := h.below (Below.refl _ _).drew
theorem grown_to_below {B : Nat} {row : Option Nat} (hg : wr.grownBy w' row) (hB : B ≤ wr.heap.size) (hr : ∀ k, row = some k → B ≤ k) : Below B wr w' := (Below.refl B wr).grown hg hB hr
/-- A number behind the first list. -/
theorem Ql.pushA (h : Ql w b K x n S R m T U v u L M Bb wr) (ho : OwnI (x + 2) w' v' L') (hg : wr.grownBy w' v.ownBlock) : Qr w b K x n S R m T U 0 ⟨#[]⟩ ⟨#[]⟩ 0 ⟨#[]⟩ ⟨#[]⟩ w' ∧ OwnI (x + 2) w' v' L' ∧ OwnI Bb w' u M := by
  obtain ⟨g, hv, h1, h2⟩ := h.a.block
  have hlo := h.lo g hv
  refine ⟨h.q.far (B := x + 2) (Nat.le_refl _) (grown_to_below hg (by have := h.a.low; omega) (fun k hk => by rw [hv] at hk; injection hk with hk; omega)), ho, h.b.kept (fun k hk hl => hg.block k hl (fun e => ?_)) hg.size⟩
  obtain ⟨j, hj, h3, _⟩ := h.b.block
  rw [hk] at hj; injection hj with hj
  rw [hv] at e; injection e with e; omega
/-- A number behind the second list. -/
theorem Ql.pushB (h : Ql w b K x n S R m T U v u L M Bb wr) (ho : OwnI Bb w' u' M') (hg : wr.grownBy w' u.ownBlock) : Qr w b K x n S R m T U 0 ⟨#[]⟩ ⟨#[]⟩ 0 ⟨#[]⟩ ⟨#[]⟩ w' ∧ OwnI (x + 2) w' v L ∧ OwnI Bb w' u' M' := by
  obtain ⟨g, hu, h1, h2⟩ := h.b.block
  have hxb := h.xb
  refine ⟨h.q.far (B := x + 2) (Nat.le_refl _) (grown_to_below hg (by have := h.a.low; omega) (fun k hk => by rw [hu] at hk; injection hk with hk; omega)), h.a.kept (fun k hk hl => hg.block k hl (fun e => ?_)) hg.size, ho⟩
  have := h.lo k hk
  rw [hu] at e; injection e with e; omega
end
end Go.Proofs.YtjepegkbbbebkaaGreatDoor
/- The draw of two structures with lists of their elements: l4Pair. Condition: the reader lies in memory and has not drawn much. -/
namespace Go.Proofs.YtjepegkbbbebkaaGreatDoor
open Go.RowKit
set_option linter.unusedVariables false
set_option maxRecDepth 100000

set_option maxHeartbeats 4000000 in
theorem l4Pair_any (b K : Nat) (w : World) (h : RdB w b K) (hk : K < 100000000) :
    Calls Tryz.prog 102 #[.pointer (some ⟨b, 0, none⟩)] w (PairLO b (K + 300) w) := by
  have hb := h.block
  obtain ⟨W, hW⟩ : ∃ W, (w.alloc (.cells #[.int .i64 0, .string ⟨#[]⟩, .string ⟨#[]⟩] 24)).alloc (.cells #[.int .i64 0, .string ⟨#[]⟩, .string ⟨#[]⟩] 24) = W := ⟨_, rfl⟩
  have HB0 : Hid (Below w.heap.size w W ∧ SBlk W w.heap.size 0 ⟨#[]⟩ ⟨#[]⟩ ∧ SBlk W (w.heap.size + 1) 0 ⟨#[]⟩ ⟨#[]⟩ ∧ W.heap.size = w.heap.size + 2) := by
    subst hW
    have h1 : Below w.heap.size w (w.alloc (.cells #[.int .i64 0, .string ⟨#[]⟩, .string ⟨#[]⟩] 24)) := (Below.refl _ _).alloc (Nat.le_refl _) _
    have h2 := SBlk.new (w.alloc (.cells #[.int .i64 0, .string ⟨#[]⟩, .string ⟨#[]⟩] 24)) 0 ⟨#[]⟩ ⟨#[]⟩
    rw [World.size_alloc] at h2
    refine ⟨h1.alloc h1.size _, (SBlk.new w 0 ⟨#[]⟩ ⟨#[]⟩).below ((Below.refl _ _).alloc (Nat.le_refl _) _) (by simp), h2, by simp⟩
  have HR := Lib.hid (rdB_bel h HB0.out.1)
  have HW := Lib.hid hW
  clear h hW
  go_enter Tryz.func102, Tryz.ntmps102
  go_upto_region 1 with fail
  rw [HW.out]
  go_wp2_with fail
  refine (l1Pair_any b K W HR.out (by omega)).mono ?_; rintro e w1 ⟨n, m, S, R, T, U, n1, n5, m1, m5, hS, hR, hT, hU, rfl, hr, hg⟩
  have hal : Below w1.heap.size w1 (w1.alloc (.cells #[.int .i64 (n : Int), .string S, .string R] 24)) := (Below.refl _ _).alloc (Nat.le_refl _) _
  obtain ⟨W2, hW2⟩ : ∃ W, (w1.alloc (.cells #[.int .i64 (n : Int), .string S, .string R] 24)).alloc (.cells #[.int .i64 (m : Int), .string T, .string U] 24) = W := ⟨_, rfl⟩
  have HQ2 : Hid (Qr w b (K + 200) w1.heap.size (n : Int) S R (m : Int) T U 0 ⟨#[]⟩ ⟨#[]⟩ 0 ⟨#[]⟩ ⟨#[]⟩ W2) := by
    rw [← hW2]
    have hs := hg.size
    have h3 := HB0.out.2.2.2
    have hal2 : Below (w1.alloc (.cells #[.int .i64 (n : Int), .string S, .string R] 24)).heap.size (w1.alloc (.cells #[.int .i64 (n : Int), .string S, .string R] 24)) ((w1.alloc (.cells #[.int .i64 (n : Int), .string S, .string R] 24)).alloc (.cells #[.int .i64 (m : Int), .string T, .string U] 24)) := (Below.refl _ _).alloc (Nat.le_refl _) _
    have hp : Pr w b (K + 200) w1.heap.size (n : Int) S R 0 ⟨#[]⟩ ⟨#[]⟩ 0 ⟨#[]⟩ ⟨#[]⟩ (w1.alloc (.cells #[.int .i64 (n : Int), .string S, .string R] 24)) :=
      ⟨rdB_bel hr hal, (HB0.out.2.1.grown hg (by omega)).below hal (by omega), (HB0.out.2.2.1.grown hg (by omega)).below hal (by omega), SBlk.new w1 _ S R, ⟨hb, by omega⟩, ((grown_belowS (row := some b) HB0.out.1).trans hg).trans (grown_belowS hal)⟩
    have hn := SBlk.new (w1.alloc (.cells #[.int .i64 (n : Int), .string S, .string R] 24)) (m : Int) T U
    rw [World.size_alloc] at hn
    exact ⟨hp.below hal2, hn⟩
  have HW2 := Lib.hid hW2
  have hnn : n * n ≤ 25 := Nat.mul_le_mul n5 n5
  have hmm : m * m ≤ 25 := Nat.mul_le_mul m5 m5
  clear hr hg hal hW2
  unfold strV
  go_upto_region 2 with fail
  rw [HW2.out]
  generalize w1.heap.size = x6 at *
  have HN := Lib.hid (fun T => num_list W2 b (K + 200) [1, 2, 0, 3, 2, 1, 4] T HQ2.out.p.rd (by omega) (by decide) (by decide))
  clear HW2 HB0 HR HW
  go_wp2_with fail
  refine (HN.out _).mono ?_; rintro e w3 ⟨c, hc, rfl, hr, hg⟩
  have HQ3 := Lib.hid (HQ2.out.pick hr hg)
  have hc' : ∃ k : Nat, c = (k : Int) ∧ k ≤ 4 := by
    simp at hc
    rcases hc with rfl | rfl | rfl | rfl | rfl | rfl | rfl
    · exact ⟨1, rfl, by omega⟩
    · exact ⟨2, rfl, by omega⟩
    · exact ⟨0, rfl, by omega⟩
    · exact ⟨3, rfl, by omega⟩
    · exact ⟨2, rfl, by omega⟩
    · exact ⟨1, rfl, by omega⟩
    · exact ⟨4, rfl, by omega⟩
  obtain ⟨c, rfl, hc4⟩ := hc'
  clear hr hg hc HN HQ2
  have HS1 := Lib.hid (fun w h => l4Some_any b (K + 200 + 1) n c S R ⟨n1, n5⟩ hc4 w h (by omega))
  have HS2 := Lib.hid (fun w h => l4Some_any b (K + 200 + 1 + 4) m c T U ⟨m1, m5⟩ hc4 w h (by omega))
  unfold strV at HS1 HS2
  obtain ⟨c0, c1, c2, f0, f1, f2, hl⟩ := HQ3.out.p.a.cells
  go_wp2_with fail
  refine (HS1.out _ HQ3.out.p.rd).mono ?_; rintro e w4 ⟨v, L, rfl, hL, ho, hr, hg⟩
  have l3 := HQ3.out.c.cells.2.2.2.2.2.2
  have HQ4 := Lib.hid (HQ3.out.pick hr hg)
  have HA4 : Hid (OwnI (x6 + 2) w4 v L) := ho.mono (by omega)
  clear hr hg ho c0 c1 c2 f0 f1 f2 hl HS1
  obtain ⟨c0, c1, c2, f0, f1, f2, hl⟩ := HQ4.out.c.cells
  go_wp2_with fail
  refine (HS2.out _ HQ4.out.p.rd).mono ?_; rintro e w5 ⟨u, M, rfl, hM, ho, hr, hg⟩
  have hqne := HQ4.out.p.ne
  have HQ5 : Hid (Ql w b (K + 200 + 1 + 4 + 4) x6 (n : Int) S R (m : Int) T U v u L M w4.heap.size w5) := by
    obtain ⟨ga, hva, h1, h2⟩ := HA4.out.block
    exact ⟨HQ4.out.pick hr hg, HA4.out.grown hg (by omega), ho, fun k hk => by rw [hva] at hk; injection hk with hk; omega, by omega⟩
  clear hr hg ho c0 c1 c2 f0 f1 f2 hl HS2 HQ4 HA4 l3 HQ3
  have HSS := Lib.hid (fun w => specSameShape_list (n : Int) S R (m : Int) T U (by omega) (by omega) (by omega) (by omega) w)
  generalize ssB (m : Int) T U (n : Int) S R = sb at *
  unfold strV at HSS
  obtain ⟨c0, c1, c2, f0, f1, f2, hl⟩ := HQ5.out.q.p.a.cells
  obtain ⟨e0, e1, e2, _, _, _, l9⟩ := HQ5.out.q.c.cells
  go_wp2_with fail
  refine (HSS.out _).mono ?_; rintro e w6 ⟨⟨o3, L3, hl3, hn3, ho3, rfl⟩, hb6⟩
  have HQ6 := Lib.hid (HQ5.out.below hb6)
  have HN6 := Lib.hid hn3
  have HO3 : Hid (∀ k, o3.ownBlock = some k → b < k) := fun k hk => by have := ho3 k hk; have := HQ5.out.q.p.rd.block; omega
  clear hb6 hn3 ho3 c0 c1 c2 f0 f1 f2 hl e0 e1 e2 l9 HQ5 HSS
  generalize w4.heap.size = Bb at *
  cases sb with
  | false =>
    have HT := HQ6
    have hxb := HT.out.xb
    go_wp2_with fail
    refine (pickB _ b _ _ HT.out.q.p.rd (by omega) (by omega) (by omega)).mono ?_; rintro e wp ⟨z, rfl, z0, z1, hr, hg⟩
    have HU := Lib.hid (HT.out.pick hr hg)
    clear hr hg HT
    by_cases hz0 : z = 0
    · subst hz0
      have HN := Lib.hid (fun T => num_list wp b _ [-1, 8, 0] T HU.out.q.p.rd (by omega) (by decide) (by decide))
      have HLL : Hid (L.length ≤ 2000000) := by show _ ≤ _; omega
      go_wp2_with fail
      refine (HN.out _).mono ?_; rintro e wq ⟨y, hy, rfl, hr, hg⟩
      have HU2 := Lib.hid (HU.out.pick hr hg)
      clear hr hg hy
      go_wp2_with (first | (at_builtin; refine wpList_ownI1 HU2.out.a HLL.out rfl (.tmp 72) (.tmp 76) rfl y _ rfl rfl rfl ?_; intro v' w' ho hg; have HV := Lib.hid (HU2.out.pushA ho hg); clear ho hg) | fail)
      have hL2 : (L ++ [y]).length ≤ 40 := by rw [List.length_append, List.length_singleton]; omega
      have hqne := HV.out.1.p.ne
      obtain ⟨c0, c1, c2, f0, f1, f2, hl⟩ := HV.out.1.p.a.cells
      obtain ⟨e0, e1, e2, _, _, _, l9⟩ := HV.out.1.c.cells
      obtain ⟨g0, g1, g2, i0, i1, i2, hl1⟩ := HV.out.1.p.r1.cells
      obtain ⟨k0, k1, k2, j0, j1, j2, hl2⟩ := HV.out.1.p.r2.cells
      have hy0 : w.heap.size ≠ x6 := by omega
      have hy1 : w.heap.size + 1 ≠ x6 := by omega
      have hy2 : w.heap.size ≠ x6 + 1 := by omega
      have hy3 : w.heap.size + 1 ≠ x6 + 1 := by omega
      go_wp2_with fail
      go_region_held3 (fun w' => w'.cell? ⟨x6, 0, none⟩ = some (.int .i64 (n : Int)) ∧ w'.cell? ⟨x6, 1, none⟩ = some (.string S) ∧ w'.cell? ⟨x6, 2, none⟩ = some (.string R) ∧ w'.cell? ⟨x6 + 1, 0, none⟩ = some (.int .i64 (m : Int)) ∧ w'.cell? ⟨x6 + 1, 1, none⟩ = some (.string T) ∧ w'.cell? ⟨x6 + 1, 2, none⟩ = some (.string U))
        (go_keep)
        (fail)
      all_goals
        have HF := Lib.hid (((HV.out.1.s1 (n : Int) S R).s2 (m : Int) T U).drew)
        have HO1 := Lib.hid ((((HV.out.2.1).set3 (show w.heap.size < x6 + 2 by omega) (n : Int) S R).set3 (show w.heap.size + 1 < x6 + 2 by omega) (m : Int) T U).below (Below.refl _ _).drew)
        have HO2 := Lib.hid ((((HV.out.2.2).set3 (show w.heap.size < Bb by omega) (n : Int) S R).set3 (show w.heap.size + 1 < Bb by omega) (m : Int) T U).below (Below.refl _ _).drew)
        go_wp2_with fail
        refine bodyPost_ret (v := .tuple #[strV (n : Int) S R, v', strV (m : Int) T U, u]) ?_ rfl (pairL_fin HF.out (by omega) ⟨by omega, by omega⟩ ⟨by omega, by omega⟩ (by omega) (by omega) (by omega) (by omega) hL2 (by omega) (by omega) (by omega) HO1.out HO2.out)
        exact results_c4 rfl rfl HF.out.p.r1 rfl rfl HF.out.p.r2 rfl
    · have hz0B : (z == 0) = false := by simpa using hz0
      by_cases hz1 : z = 1
      · subst hz1
        have HLL : Hid (M.length ≤ 2000000) := by show _ ≤ _; omega
        go_wp2_with (first | (at_builtin; refine wpList_ownI1 HU.out.b HLL.out rfl (.tmp 80) (.tmp 81) rfl 0 _ rfl rfl rfl ?_; intro v' w' ho hg; have HV := Lib.hid (HU.out.pushB ho hg); clear ho hg) | fail)
        have hM2 : (M ++ [(0 : Int)]).length ≤ 40 := by rw [List.length_append, List.length_singleton]; omega
        have hqne := HV.out.1.p.ne
        obtain ⟨c0, c1, c2, f0, f1, f2, hl⟩ := HV.out.1.p.a.cells
        obtain ⟨e0, e1, e2, _, _, _, l9⟩ := HV.out.1.c.cells
        obtain ⟨g0, g1, g2, i0, i1, i2, hl1⟩ := HV.out.1.p.r1.cells
        obtain ⟨k0, k1, k2, j0, j1, j2, hl2⟩ := HV.out.1.p.r2.cells
        have hy0 : w.heap.size ≠ x6 := by omega
        have hy1 : w.heap.size + 1 ≠ x6 := by omega
        have hy2 : w.heap.size ≠ x6 + 1 := by omega
        have hy3 : w.heap.size + 1 ≠ x6 + 1 := by omega
        go_wp2_with fail
        go_region_held3 (fun w' => w'.cell? ⟨x6, 0, none⟩ = some (.int .i64 (n : Int)) ∧ w'.cell? ⟨x6, 1, none⟩ = some (.string S) ∧ w'.cell? ⟨x6, 2, none⟩ = some (.string R) ∧ w'.cell? ⟨x6 + 1, 0, none⟩ = some (.int .i64 (m : Int)) ∧ w'.cell? ⟨x6 + 1, 1, none⟩ = some (.string T) ∧ w'.cell? ⟨x6 + 1, 2, none⟩ = some (.string U))
          (go_keep)
          (fail)
        all_goals
          have HF := Lib.hid (((HV.out.1.s1 (n : Int) S R).s2 (m : Int) T U).drew)
          have HO1 := Lib.hid ((((HV.out.2.1).set3 (show w.heap.size < x6 + 2 by omega) (n : Int) S R).set3 (show w.heap.size + 1 < x6 + 2 by omega) (m : Int) T U).below (Below.refl _ _).drew)
          have HO2 := Lib.hid ((((HV.out.2.2).set3 (show w.heap.size < Bb by omega) (n : Int) S R).set3 (show w.heap.size + 1 < Bb by omega) (m : Int) T U).below (Below.refl _ _).drew)
          go_wp2_with fail
          refine bodyPost_ret (v := .tuple #[strV (n : Int) S R, v, strV (m : Int) T U, v']) ?_ rfl (pairL_fin HF.out (by omega) ⟨by omega, by omega⟩ ⟨by omega, by omega⟩ (by omega) (by omega) (by omega) (by omega) (by omega) hM2 (by omega) (by omega) HO1.out HO2.out)
          exact results_c4 rfl rfl HF.out.p.r1 rfl rfl HF.out.p.r2 rfl
      · have hz1B : (z == 1) = false := by simpa using hz1
        by_cases hz2 : z = 2
        · subst hz2
          have HBD := Lib.hid (l1Bad_any b _ n S R n1 n5 hS hR wp HU.out.q.p.rd (by omega))
          unfold strV at HBD
          obtain ⟨c0, c1, c2, f0, f1, f2, hl⟩ := HU.out.q.p.a.cells
          go_wp2_with fail
          refine HBD.out.mono ?_; rintro e wq ⟨n', S', R', n0, n9, hS', hR', rfl, hr, hg⟩
          have HU2 := Lib.hid (HU.out.pick hr hg)
          have HV : Hid (_ ∧ _ ∧ _) := ⟨HU2.out.q.sa n' S' R', HU2.out.a.set3 (show x6 < x6 + 2 by omega) n' S' R', HU2.out.b.set3 (show x6 < Bb by omega) n' S' R'⟩
          clear hr hg c0 c1 c2 f0 f1 f2 hl HBD
          obtain ⟨c0, c1, c2, f0, f1, f2, hl⟩ := HU2.out.q.p.a.cells
          unfold strV
          go_upto_region 23 with fail
          obtain ⟨wd, hwd⟩ : ∃ x, (((wq.setCell ⟨x6, 0, none⟩ (.int .i64 n')).setCell ⟨x6, 1, none⟩ (.string S')).setCell ⟨x6, 2, none⟩ (.string R')) = x := ⟨_, rfl⟩
          rw [hwd] at HV ⊢
          clear hwd c0 c1 c2 f0 f1 f2 hl
          have hqne := HV.out.1.p.ne
          obtain ⟨c0, c1, c2, f0, f1, f2, hl⟩ := HV.out.1.p.a.cells
          obtain ⟨e0, e1, e2, _, _, _, l9⟩ := HV.out.1.c.cells
          obtain ⟨g0, g1, g2, i0, i1, i2, hl1⟩ := HV.out.1.p.r1.cells
          obtain ⟨k0, k1, k2, j0, j1, j2, hl2⟩ := HV.out.1.p.r2.cells
          have hy0 : w.heap.size ≠ x6 := by omega
          have hy1 : w.heap.size + 1 ≠ x6 := by omega
          have hy2 : w.heap.size ≠ x6 + 1 := by omega
          have hy3 : w.heap.size + 1 ≠ x6 + 1 := by omega
          go_wp2_with fail
          go_region_held3 (fun w' => w'.cell? ⟨x6, 0, none⟩ = some (.int .i64 n') ∧ w'.cell? ⟨x6, 1, none⟩ = some (.string S') ∧ w'.cell? ⟨x6, 2, none⟩ = some (.string R') ∧ w'.cell? ⟨x6 + 1, 0, none⟩ = some (.int .i64 (m : Int)) ∧ w'.cell? ⟨x6 + 1, 1, none⟩ = some (.string T) ∧ w'.cell? ⟨x6 + 1, 2, none⟩ = some (.string U))
            (go_keep)
            (fail)
          all_goals
            have HF := Lib.hid (((HV.out.1.s1 n' S' R').s2 (m : Int) T U).drew)
            have HO1 := Lib.hid ((((HV.out.2.1).set3 (show w.heap.size < x6 + 2 by omega) n' S' R').set3 (show w.heap.size + 1 < x6 + 2 by omega) (m : Int) T U).below (Below.refl _ _).drew)
            have HO2 := Lib.hid ((((HV.out.2.2).set3 (show w.heap.size < Bb by omega) n' S' R').set3 (show w.heap.size + 1 < Bb by omega) (m : Int) T U).below (Below.refl _ _).drew)
            go_wp2_with fail
            refine bodyPost_ret (v := .tuple #[strV n' S' R', v, strV (m : Int) T U, u]) ?_ rfl (pairL_fin HF.out (by omega) ⟨n0, n9⟩ ⟨by omega, by omega⟩ hS' hR' (by omega) (by omega) (by omega) (by omega) (by omega) (by omega) HO1.out HO2.out)
            exact results_c4 rfl rfl HF.out.p.r1 rfl rfl HF.out.p.r2 rfl
        · have hz2B : (z == 2) = false := by simpa using hz2
          have HV : Hid (_ ∧ _ ∧ _) := ⟨HU.out.q, HU.out.a, HU.out.b⟩
          have hqne := HV.out.1.p.ne
          obtain ⟨c0, c1, c2, f0, f1, f2, hl⟩ := HV.out.1.p.a.cells
          obtain ⟨e0, e1, e2, _, _, _, l9⟩ := HV.out.1.c.cells
          obtain ⟨g0, g1, g2, i0, i1, i2, hl1⟩ := HV.out.1.p.r1.cells
          obtain ⟨k0, k1, k2, j0, j1, j2, hl2⟩ := HV.out.1.p.r2.cells
          have hy0 : w.heap.size ≠ x6 := by omega
          have hy1 : w.heap.size + 1 ≠ x6 := by omega
          have hy2 : w.heap.size ≠ x6 + 1 := by omega
          have hy3 : w.heap.size + 1 ≠ x6 + 1 := by omega
          go_wp2_with fail
          go_region_held3 (fun w' => w'.cell? ⟨x6, 0, none⟩ = some (.int .i64 (n : Int)) ∧ w'.cell? ⟨x6, 1, none⟩ = some (.string S) ∧ w'.cell? ⟨x6, 2, none⟩ = some (.string R) ∧ w'.cell? ⟨x6 + 1, 0, none⟩ = some (.int .i64 (m : Int)) ∧ w'.cell? ⟨x6 + 1, 1, none⟩ = some (.string T) ∧ w'.cell? ⟨x6 + 1, 2, none⟩ = some (.string U))
            (go_keep)
            (fail)
          all_goals
            have HF := Lib.hid (((HV.out.1.s1 (n : Int) S R).s2 (m : Int) T U).drew)
            have HO1 := Lib.hid ((((HV.out.2.1).set3 (show w.heap.size < x6 + 2 by omega) (n : Int) S R).set3 (show w.heap.size + 1 < x6 + 2 by omega) (m : Int) T U).below (Below.refl _ _).drew)
            have HO2 := Lib.hid ((((HV.out.2.2).set3 (show w.heap.size < Bb by omega) (n : Int) S R).set3 (show w.heap.size + 1 < Bb by omega) (m : Int) T U).below (Below.refl _ _).drew)
            go_wp2_with fail
            refine bodyPost_ret (v := .tuple #[strV (n : Int) S R, v, strV (m : Int) T U, u]) ?_ rfl (pairL_fin HF.out (by omega) ⟨by omega, by omega⟩ ⟨by omega, by omega⟩ (by omega) (by omega) (by omega) (by omega) (by omega) (by omega) (by omega) (by omega) HO1.out HO2.out)
            exact results_c4 rfl rfl HF.out.p.r1 rfl rfl HF.out.p.r2 rfl
  | true =>
    go_wp2_with fail
    refine (pickB _ b _ _ HQ6.out.q.p.rd (by omega) (by omega) (by omega)).mono ?_; rintro e w7 ⟨z, rfl, z0, z1, hr, hg⟩
    have HQ7 := Lib.hid (HQ6.out.pick hr hg)
    have HN7 : Hid (NumsAt w7 o3 L3) := HN6.out.kept (fun k hk hl => hg.block k hl (by intro e; injection e with e; have := HO3.out k hk; omega)) hg.size
    clear hr hg HQ6 HN6 HO3
    by_cases hz : 0 < z
    · have hzB : decide (0 < z) = true := decide_eq_true hz
      have hxb7 := HQ7.out.xb
      have hBb7 := HQ7.out.b.low
      have HLO7 := Lib.hid HQ7.out.lo
      obtain ⟨a3, cap3, rfl, q1, q2, q3⟩ := HN7.out.view
      have HC3 := Lib.hid q3
      obtain ⟨ga, capa, rfl, ga1, ga2, ga3, ga4, ga5⟩ := HQ7.out.a.cells
      have HC1 := Lib.hid ga5
      replace HQ7 : Hid (Ql w b (K + 200 + 1 + 4 + 4 + 1) x6 (n : Int) S R (m : Int) T U (.slice (some ⟨ga, 0, none⟩) c capa) u L M Bb w7) := by
        have h := HQ7.out
        rw [hL] at h
        exact h
      have HOB : Hid (OwnI w7.heap.size (w7.alloc (.cells #[] 3)) (.slice (some ⟨w7.heap.size, 0, none⟩) 0 0) [] ∧ Below w7.heap.size w7 (w7.alloc (.cells #[] 3))) := ⟨OwnI.lit0 _ _ (Nat.le_refl _), (Below.refl _ _).alloc (Nat.le_refl _) _⟩
      unfold maxLen at q2 ga4
      clear HN7 q3 ga5
      go_wp2_with fail
      go_loopw [13, 10, 14] (fun q o p wr => ∃ (i : Nat) (M' : List Int), i ≤ c ∧ q = .int .i64 (i : Int) ∧ M'.length ≤ 8 * i ∧ Hid (OwnI w7.heap.size wr o M' ∧ Below w7.heap.size w7 wr)) (fun q _ _ _ => c - (intOf q).toNat)
      case atStart => exact ⟨0, [], by omega, rfl, by simp, HOB.out⟩
      case round =>
        obtain ⟨i, M', hi, rfl, hM', HI⟩ := hrel
        clear HOB
        by_cases hic : i < c
        · have hicI : (i : Int) < (c : Int) := by omega
          generalize wr = wo at *
          go_wp2_with fail
          go_loopw [14, 10] (fun q o wr => ∃ (k : Nat) (M'' : List Int), k ≤ L3.length ∧ q = .int .i64 (k : Int) ∧ M''.length ≤ 8 * i + k ∧ Hid (OwnI w7.heap.size wr o M'' ∧ Below w7.heap.size w7 wr)) (fun q _ _ => L3.length - (intOf q).toNat)
          case atStart => exact ⟨0, M', by omega, rfl, by omega, HI.out⟩
          case round =>
            obtain ⟨k, M'', hk2, rfl, hM'', HK⟩ := hrel
            by_cases hkl : k < L3.length
            · obtain ⟨g3, p3, rfl, hg3, hc3⟩ := HC3.out (by omega)
              have d1 := (HK.out.2.cell (p := ⟨g3, p3 + k, none⟩) hg3).trans (hc3 k hkl)
              have d2 := (HK.out.2.cell (p := ⟨ga, i, none⟩) ga2).trans (HC1.out i (by omega))
              have hklI : (k : Int) < (L3.length : Int) := by omega
              have hiL : (i : Int) < (L.length : Int) := by omega
              have HLL : Hid (M''.length ≤ 2000000) := by show _ ≤ _; omega
              generalize ((L3.getD k 0 : Nat) : Int) = y1 at *
              generalize L.getD i 0 = y2 at *
              clear hc3
              by_cases heq : y1 = y2
              · have heqB : (y1 == y2) = true := by simpa using heq
                go_wp2_with fail
                have t1 := fun s => Since.cell d1 s
                have t2 := fun s => Since.cell d2 s
                refine wp_region_since (by kernel_rfl) (by kernel_rfl) ?_
                repeat (go_big_quiet_step (fail))
                refine wpQuiet_nil ?_
                intro w8 hb8
                have HK8 : Hid (OwnI w7.heap.size w8 u10 M'' ∧ Below w7.heap.size w7 w8) := ⟨HK.out.1.below hb8, HK.out.2.trans (hb8.mono HK.out.2.size)⟩
                clear hb8 t1 t2 d1 d2
                go_wp2_with (first | (at_builtin; refine wpList_ownI1 HK8.out.1 HLL.out rfl (.tmp 64) (.tmp 66) rfl (k : Int) _ rfl rfl rfl ?_; intro v' w' ho hg; have HK9 : Hid (OwnI w7.heap.size w' v' (M'' ++ [(k : Int)]) ∧ Below w7.heap.size w7 w') := ⟨ho, HK8.out.2.grown hg HK8.out.2.size (fun j hj => (HK8.out.1.own.lt j hj).1)⟩; clear ho hg) | fail)
                go_roundw
                case rel => exact ⟨k + 1, M'' ++ [(k : Int)], by omega, by go_num, by rw [List.length_append, List.length_singleton]; omega, HK9.out⟩
                case measure => simp [intOf]; omega
              · have heqB : (y1 == y2) = false := by simpa using heq
                go_wp2_with fail
                have t1 := fun s => Since.cell d1 s
                have t2 := fun s => Since.cell d2 s
                refine wp_region_since (by kernel_rfl) (by kernel_rfl) ?_
                repeat (go_big_quiet_step (fail))
                refine wpQuiet_nil ?_
                intro w8 hb8
                have HK8 : Hid (OwnI w7.heap.size w8 u10 M'' ∧ Below w7.heap.size w7 w8) := ⟨HK.out.1.below hb8, HK.out.2.trans (hb8.mono HK.out.2.size)⟩
                clear hb8 t1 t2 d1 d2
                go_wp2_with fail
                go_roundw
                case rel => exact ⟨k + 1, M'', by omega, by go_num, by omega, HK8.out⟩
                case measure => simp [intOf]; omega
            · have hklI : ¬ (k : Int) < (L3.length : Int) := by omega
              go_wp2_with fail
              go_roundw
              case rel => exact ⟨i + 1, M'', by omega, by go_num, by omega, HK.out⟩
              case measure => simp [intOf]; omega
        · have hicI : ¬ (i : Int) < (c : Int) := by omega
          have HT : Hid (Ql w b (K + 200 + 1 + 4 + 4 + 1) x6 (n : Int) S R (m : Int) T U (.slice (some ⟨ga, 0, none⟩) c capa) u10 L M' w7.heap.size wr) :=
            ⟨HQ7.out.q.far (B := w7.heap.size) (by omega) HI.out.2, HQ7.out.a.kept (fun k hk hl => HI.out.2.block k hl) HI.out.2.size, HI.out.1, fun k hk => by have := HLO7.out k hk; omega, by omega⟩
          have hM9 : M'.length ≤ 32 := by omega
          have hB9 : x6 + 2 ≤ w7.heap.size := by omega
          clear HI HQ7 HC3 HC1 HLO7
          generalize w7.heap.size = B7 at *
          have hxb := HT.out.xb
          go_wp2_with fail
          refine (pickB _ b _ _ HT.out.q.p.rd (by omega) (by omega) (by omega)).mono ?_; rintro e wp ⟨z, rfl, z0, z1, hr, hg⟩
          have HU := Lib.hid (HT.out.pick hr hg)
          clear hr hg HT
          by_cases hz0 : z = 0
          · subst hz0
            have HN := Lib.hid (fun T => num_list wp b _ [-1, 8, 0] T HU.out.q.p.rd (by omega) (by decide) (by decide))
            have HLL : Hid (L.length ≤ 2000000) := by show _ ≤ _; omega
            go_wp2_with fail
            refine (HN.out _).mono ?_; rintro e wq ⟨y, hy, rfl, hr, hg⟩
            have HU2 := Lib.hid (HU.out.pick hr hg)
            clear hr hg hy
            go_wp2_with (first | (at_builtin; refine wpList_ownI1 HU2.out.a HLL.out rfl (.tmp 72) (.tmp 76) rfl y _ rfl rfl rfl ?_; intro v' w' ho hg; have HV := Lib.hid (HU2.out.pushA ho hg); clear ho hg) | fail)
            have hL2 : (L ++ [y]).length ≤ 40 := by rw [List.length_append, List.length_singleton]; omega
            have hqne := HV.out.1.p.ne
            obtain ⟨c0, c1, c2, f0, f1, f2, hl⟩ := HV.out.1.p.a.cells
            obtain ⟨e0, e1, e2, _, _, _, l9⟩ := HV.out.1.c.cells
            obtain ⟨g0, g1, g2, i0, i1, i2, hl1⟩ := HV.out.1.p.r1.cells
            obtain ⟨k0, k1, k2, j0, j1, j2, hl2⟩ := HV.out.1.p.r2.cells
            have hy0 : w.heap.size ≠ x6 := by omega
            have hy1 : w.heap.size + 1 ≠ x6 := by omega
            have hy2 : w.heap.size ≠ x6 + 1 := by omega
            have hy3 : w.heap.size + 1 ≠ x6 + 1 := by omega
            go_wp2_with fail
            go_region_held3 (fun w' => w'.cell? ⟨x6, 0, none⟩ = some (.int .i64 (n : Int)) ∧ w'.cell? ⟨x6, 1, none⟩ = some (.string S) ∧ w'.cell? ⟨x6, 2, none⟩ = some (.string R) ∧ w'.cell? ⟨x6 + 1, 0, none⟩ = some (.int .i64 (m : Int)) ∧ w'.cell? ⟨x6 + 1, 1, none⟩ = some (.string T) ∧ w'.cell? ⟨x6 + 1, 2, none⟩ = some (.string U))
              (go_keep)
              (fail)
            all_goals
              have HF := Lib.hid (((HV.out.1.s1 (n : Int) S R).s2 (m : Int) T U).drew)
              have HO1 := Lib.hid ((((HV.out.2.1).set3 (show w.heap.size < x6 + 2 by omega) (n : Int) S R).set3 (show w.heap.size + 1 < x6 + 2 by omega) (m : Int) T U).below (Below.refl _ _).drew)
              have HO2 := Lib.hid ((((HV.out.2.2).set3 (show w.heap.size < B7 by omega) (n : Int) S R).set3 (show w.heap.size + 1 < B7 by omega) (m : Int) T U).below (Below.refl _ _).drew)
              go_wp2_with fail
              refine bodyPost_ret (v := .tuple #[strV (n : Int) S R, v', strV (m : Int) T U, u10]) ?_ rfl (pairL_fin HF.out (by omega) ⟨by omega, by omega⟩ ⟨by omega, by omega⟩ (by omega) (by omega) (by omega) (by omega) hL2 (by omega) (by omega) (by omega) HO1.out HO2.out)
              exact results_c4 rfl rfl HF.out.p.r1 rfl rfl HF.out.p.r2 rfl
          · have hz0B : (z == 0) = false := by simpa using hz0
            by_cases hz1 : z = 1
            · subst hz1
              have HLL : Hid (M'.length ≤ 2000000) := by show _ ≤ _; omega
              go_wp2_with (first | (at_builtin; refine wpList_ownI1 HU.out.b HLL.out rfl (.tmp 80) (.tmp 81) rfl 0 _ rfl rfl rfl ?_; intro v' w' ho hg; have HV := Lib.hid (HU.out.pushB ho hg); clear ho hg) | fail)
              have hM2 : (M' ++ [(0 : Int)]).length ≤ 40 := by rw [List.length_append, List.length_singleton]; omega
              have hqne := HV.out.1.p.ne
              obtain ⟨c0, c1, c2, f0, f1, f2, hl⟩ := HV.out.1.p.a.cells
              obtain ⟨e0, e1, e2, _, _, _, l9⟩ := HV.out.1.c.cells
              obtain ⟨g0, g1, g2, i0, i1, i2, hl1⟩ := HV.out.1.p.r1.cells
              obtain ⟨k0, k1, k2, j0, j1, j2, hl2⟩ := HV.out.1.p.r2.cells
              have hy0 : w.heap.size ≠ x6 := by omega
              have hy1 : w.heap.size + 1 ≠ x6 := by omega
              have hy2 : w.heap.size ≠ x6 + 1 := by omega
              have hy3 : w.heap.size + 1 ≠ x6 + 1 := by omega
              go_wp2_with fail
              go_region_held3 (fun w' => w'.cell? ⟨x6, 0, none⟩ = some (.int .i64 (n : Int)) ∧ w'.cell? ⟨x6, 1, none⟩ = some (.string S) ∧ w'.cell? ⟨x6, 2, none⟩ = some (.string R) ∧ w'.cell? ⟨x6 + 1, 0, none⟩ = some (.int .i64 (m : Int)) ∧ w'.cell? ⟨x6 + 1, 1, none⟩ = some (.string T) ∧ w'.cell? ⟨x6 + 1, 2, none⟩ = some (.string U))
                (go_keep)
                (fail)
              all_goals
                have HF := Lib.hid (((HV.out.1.s1 (n : Int) S R).s2 (m : Int) T U).drew)
                have HO1 := Lib.hid ((((HV.out.2.1).set3 (show w.heap.size < x6 + 2 by omega) (n : Int) S R).set3 (show w.heap.size + 1 < x6 + 2 by omega) (m : Int) T U).below (Below.refl _ _).drew)
                have HO2 := Lib.hid ((((HV.out.2.2).set3 (show w.heap.size < B7 by omega) (n : Int) S R).set3 (show w.heap.size + 1 < B7 by omega) (m : Int) T U).below (Below.refl _ _).drew)
                go_wp2_with fail
                refine bodyPost_ret (v := .tuple #[strV (n : Int) S R, (.slice (some ⟨ga, 0, none⟩) c capa), strV (m : Int) T U, v']) ?_ rfl (pairL_fin HF.out (by omega) ⟨by omega, by omega⟩ ⟨by omega, by omega⟩ (by omega) (by omega) (by omega) (by omega) (by omega) hM2 (by omega) (by omega) HO1.out HO2.out)
                exact results_c4 rfl rfl HF.out.p.r1 rfl rfl HF.out.p.r2 rfl
            · have hz1B : (z == 1) = false := by simpa using hz1
              by_cases hz2 : z = 2
              · subst hz2
                have HBD := Lib.hid (l1Bad_any b _ n S R n1 n5 hS hR wp HU.out.q.p.rd (by omega))
                unfold strV at HBD
                obtain ⟨c0, c1, c2, f0, f1, f2, hl⟩ := HU.out.q.p.a.cells
                go_wp2_with fail
                refine HBD.out.mono ?_; rintro e wq ⟨n', S', R', n0, n9, hS', hR', rfl, hr, hg⟩
                have HU2 := Lib.hid (HU.out.pick hr hg)
                have HV : Hid (_ ∧ _ ∧ _) := ⟨HU2.out.q.sa n' S' R', HU2.out.a.set3 (show x6 < x6 + 2 by omega) n' S' R', HU2.out.b.set3 (show x6 < B7 by omega) n' S' R'⟩
                clear hr hg c0 c1 c2 f0 f1 f2 hl HBD
                obtain ⟨c0, c1, c2, f0, f1, f2, hl⟩ := HU2.out.q.p.a.cells
                unfold strV
                go_upto_region 23 with fail
                obtain ⟨wd, hwd⟩ : ∃ x, (((wq.setCell ⟨x6, 0, none⟩ (.int .i64 n')).setCell ⟨x6, 1, none⟩ (.string S')).setCell ⟨x6, 2, none⟩ (.string R')) = x := ⟨_, rfl⟩
                rw [hwd] at HV ⊢
                clear hwd c0 c1 c2 f0 f1 f2 hl
                have hqne := HV.out.1.p.ne
                obtain ⟨c0, c1, c2, f0, f1, f2, hl⟩ := HV.out.1.p.a.cells
                obtain ⟨e0, e1, e2, _, _, _, l9⟩ := HV.out.1.c.cells
                obtain ⟨g0, g1, g2, i0, i1, i2, hl1⟩ := HV.out.1.p.r1.cells
                obtain ⟨k0, k1, k2, j0, j1, j2, hl2⟩ := HV.out.1.p.r2.cells
                have hy0 : w.heap.size ≠ x6 := by omega
                have hy1 : w.heap.size + 1 ≠ x6 := by omega
                have hy2 : w.heap.size ≠ x6 + 1 := by omega
                have hy3 : w.heap.size + 1 ≠ x6 + 1 := by omega
                go_wp2_with fail
                go_region_held3 (fun w' => w'.cell? ⟨x6, 0, none⟩ = some (.int .i64 n') ∧ w'.cell? ⟨x6, 1, none⟩ = some (.string S') ∧ w'.cell? ⟨x6, 2, none⟩ = some (.string R') ∧ w'.cell? ⟨x6 + 1, 0, none⟩ = some (.int .i64 (m : Int)) ∧ w'.cell? ⟨x6 + 1, 1, none⟩ = some (.string T) ∧ w'.cell? ⟨x6 + 1, 2, none⟩ = some (.string U))
                  (go_keep)
                  (fail)
                all_goals
                  have HF := Lib.hid (((HV.out.1.s1 n' S' R').s2 (m : Int) T U).drew)
                  have HO1 := Lib.hid ((((HV.out.2.1).set3 (show w.heap.size < x6 + 2 by omega) n' S' R').set3 (show w.heap.size + 1 < x6 + 2 by omega) (m : Int) T U).below (Below.refl _ _).drew)
                  have HO2 := Lib.hid ((((HV.out.2.2).set3 (show w.heap.size < B7 by omega) n' S' R').set3 (show w.heap.size + 1 < B7 by omega) (m : Int) T U).below (Below.refl _ _).drew)
                  go_wp2_with fail
                  refine bodyPost_ret (v := .tuple #[strV n' S' R', (.slice (some ⟨ga, 0, none⟩) c capa), strV (m : Int) T U, u10]) ?_ rfl (pairL_fin HF.out (by omega) ⟨n0, n9⟩ ⟨by omega, by omega⟩ hS' hR' (by omega) (by omega) (by omega) (by omega) (by omega) (by omega) HO1.out HO2.out)
                  exact results_c4 rfl rfl HF.out.p.r1 rfl rfl HF.out.p.r2 rfl
              · have hz2B : (z == 2) = false := by simpa using hz2
                have HV : Hid (_ ∧ _ ∧ _) := ⟨HU.out.q, HU.out.a, HU.out.b⟩
                have hqne := HV.out.1.p.ne
                obtain ⟨c0, c1, c2, f0, f1, f2, hl⟩ := HV.out.1.p.a.cells
                obtain ⟨e0, e1, e2, _, _, _, l9⟩ := HV.out.1.c.cells
                obtain ⟨g0, g1, g2, i0, i1, i2, hl1⟩ := HV.out.1.p.r1.cells
                obtain ⟨k0, k1, k2, j0, j1, j2, hl2⟩ := HV.out.1.p.r2.cells
                have hy0 : w.heap.size ≠ x6 := by omega
                have hy1 : w.heap.size + 1 ≠ x6 := by omega
                have hy2 : w.heap.size ≠ x6 + 1 := by omega
                have hy3 : w.heap.size + 1 ≠ x6 + 1 := by omega
                go_wp2_with fail
                go_region_held3 (fun w' => w'.cell? ⟨x6, 0, none⟩ = some (.int .i64 (n : Int)) ∧ w'.cell? ⟨x6, 1, none⟩ = some (.string S) ∧ w'.cell? ⟨x6, 2, none⟩ = some (.string R) ∧ w'.cell? ⟨x6 + 1, 0, none⟩ = some (.int .i64 (m : Int)) ∧ w'.cell? ⟨x6 + 1, 1, none⟩ = some (.string T) ∧ w'.cell? ⟨x6 + 1, 2, none⟩ = some (.string U))
                  (go_keep)
                  (fail)
                all_goals
                  have HF := Lib.hid (((HV.out.1.s1 (n : Int) S R).s2 (m : Int) T U).drew)
                  have HO1 := Lib.hid ((((HV.out.2.1).set3 (show w.heap.size < x6 + 2 by omega) (n : Int) S R).set3 (show w.heap.size + 1 < x6 + 2 by omega) (m : Int) T U).below (Below.refl _ _).drew)
                  have HO2 := Lib.hid ((((HV.out.2.2).set3 (show w.heap.size < B7 by omega) (n : Int) S R).set3 (show w.heap.size + 1 < B7 by omega) (m : Int) T U).below (Below.refl _ _).drew)
                  go_wp2_with fail
                  refine bodyPost_ret (v := .tuple #[strV (n : Int) S R, (.slice (some ⟨ga, 0, none⟩) c capa), strV (m : Int) T U, u10]) ?_ rfl (pairL_fin HF.out (by omega) ⟨by omega, by omega⟩ ⟨by omega, by omega⟩ (by omega) (by omega) (by omega) (by omega) (by omega) (by omega) (by omega) (by omega) HO1.out HO2.out)
                  exact results_c4 rfl rfl HF.out.p.r1 rfl rfl HF.out.p.r2 rfl
    · have hzB : decide (0 < z) = false := decide_eq_false hz
      have HT := HQ7
      have hxb := HT.out.xb
      go_wp2_with fail
      refine (pickB _ b _ _ HT.out.q.p.rd (by omega) (by omega) (by omega)).mono ?_; rintro e wp ⟨z, rfl, z0, z1, hr, hg⟩
      have HU := Lib.hid (HT.out.pick hr hg)
      clear hr hg HT
      by_cases hz0 : z = 0
      · subst hz0
        have HN := Lib.hid (fun T => num_list wp b _ [-1, 8, 0] T HU.out.q.p.rd (by omega) (by decide) (by decide))
        have HLL : Hid (L.length ≤ 2000000) := by show _ ≤ _; omega
        go_wp2_with fail
        refine (HN.out _).mono ?_; rintro e wq ⟨y, hy, rfl, hr, hg⟩
        have HU2 := Lib.hid (HU.out.pick hr hg)
        clear hr hg hy
        go_wp2_with (first | (at_builtin; refine wpList_ownI1 HU2.out.a HLL.out rfl (.tmp 72) (.tmp 76) rfl y _ rfl rfl rfl ?_; intro v' w' ho hg; have HV := Lib.hid (HU2.out.pushA ho hg); clear ho hg) | fail)
        have hL2 : (L ++ [y]).length ≤ 40 := by rw [List.length_append, List.length_singleton]; omega
        have hqne := HV.out.1.p.ne
        obtain ⟨c0, c1, c2, f0, f1, f2, hl⟩ := HV.out.1.p.a.cells
        obtain ⟨e0, e1, e2, _, _, _, l9⟩ := HV.out.1.c.cells
        obtain ⟨g0, g1, g2, i0, i1, i2, hl1⟩ := HV.out.1.p.r1.cells
        obtain ⟨k0, k1, k2, j0, j1, j2, hl2⟩ := HV.out.1.p.r2.cells
        have hy0 : w.heap.size ≠ x6 := by omega
        have hy1 : w.heap.size + 1 ≠ x6 := by omega
        have hy2 : w.heap.size ≠ x6 + 1 := by omega
        have hy3 : w.heap.size + 1 ≠ x6 + 1 := by omega
        go_wp2_with fail
        go_region_held3 (fun w' => w'.cell? ⟨x6, 0, none⟩ = some (.int .i64 (n : Int)) ∧ w'.cell? ⟨x6, 1, none⟩ = some (.string S) ∧ w'.cell? ⟨x6, 2, none⟩ = some (.string R) ∧ w'.cell? ⟨x6 + 1, 0, none⟩ = some (.int .i64 (m : Int)) ∧ w'.cell? ⟨x6 + 1, 1, none⟩ = some (.string T) ∧ w'.cell? ⟨x6 + 1, 2, none⟩ = some (.string U))
          (go_keep)
          (fail)
        all_goals
          have HF := Lib.hid (((HV.out.1.s1 (n : Int) S R).s2 (m : Int) T U).drew)
          have HO1 := Lib.hid ((((HV.out.2.1).set3 (show w.heap.size < x6 + 2 by omega) (n : Int) S R).set3 (show w.heap.size + 1 < x6 + 2 by omega) (m : Int) T U).below (Below.refl _ _).drew)
          have HO2 := Lib.hid ((((HV.out.2.2).set3 (show w.heap.size < Bb by omega) (n : Int) S R).set3 (show w.heap.size + 1 < Bb by omega) (m : Int) T U).below (Below.refl _ _).drew)
          go_wp2_with fail
          refine bodyPost_ret (v := .tuple #[strV (n : Int) S R, v', strV (m : Int) T U, u]) ?_ rfl (pairL_fin HF.out (by omega) ⟨by omega, by omega⟩ ⟨by omega, by omega⟩ (by omega) (by omega) (by omega) (by omega) hL2 (by omega) (by omega) (by omega) HO1.out HO2.out)
          exact results_c4 rfl rfl HF.out.p.r1 rfl rfl HF.out.p.r2 rfl
      · have hz0B : (z == 0) = false := by simpa using hz0
        by_cases hz1 : z = 1
        · subst hz1
          have HLL : Hid (M.length ≤ 2000000) := by show _ ≤ _; omega
          go_wp2_with (first | (at_builtin; refine wpList_ownI1 HU.out.b HLL.out rfl (.tmp 80) (.tmp 81) rfl 0 _ rfl rfl rfl ?_; intro v' w' ho hg; have HV := Lib.hid (HU.out.pushB ho hg); clear ho hg) | fail)
          have hM2 : (M ++ [(0 : Int)]).length ≤ 40 := by rw [List.length_append, List.length_singleton]; omega
          have hqne := HV.out.1.p.ne
          obtain ⟨c0, c1, c2, f0, f1, f2, hl⟩ := HV.out.1.p.a.cells
          obtain ⟨e0, e1, e2, _, _, _, l9⟩ := HV.out.1.c.cells
          obtain ⟨g0, g1, g2, i0, i1, i2, hl1⟩ := HV.out.1.p.r1.cells
          obtain ⟨k0, k1, k2, j0, j1, j2, hl2⟩ := HV.out.1.p.r2.cells
          have hy0 : w.heap.size ≠ x6 := by omega
          have hy1 : w.heap.size + 1 ≠ x6 := by omega
          have hy2 : w.heap.size ≠ x6 + 1 := by omega
          have hy3 : w.heap.size + 1 ≠ x6 + 1 := by omega
          go_wp2_with fail
          go_region_held3 (fun w' => w'.cell? ⟨x6, 0, none⟩ = some (.int .i64 (n : Int)) ∧ w'.cell? ⟨x6, 1, none⟩ = some (.string S) ∧ w'.cell? ⟨x6, 2, none⟩ = some (.string R) ∧ w'.cell? ⟨x6 + 1, 0, none⟩ = some (.int .i64 (m : Int)) ∧ w'.cell? ⟨x6 + 1, 1, none⟩ = some (.string T) ∧ w'.cell? ⟨x6 + 1, 2, none⟩ = some (.string U))
            (go_keep)
            (fail)
          all_goals
            have HF := Lib.hid (((HV.out.1.s1 (n : Int) S R).s2 (m : Int) T U).drew)
            have HO1 := Lib.hid ((((HV.out.2.1).set3 (show w.heap.size < x6 + 2 by omega) (n : Int) S R).set3 (show w.heap.size + 1 < x6 + 2 by omega) (m : Int) T U).below (Below.refl _ _).drew)
            have HO2 := Lib.hid ((((HV.out.2.2).set3 (show w.heap.size < Bb by omega) (n : Int) S R).set3 (show w.heap.size + 1 < Bb by omega) (m : Int) T U).below (Below.refl _ _).drew)
            go_wp2_with fail
            refine bodyPost_ret (v := .tuple #[strV (n : Int) S R, v, strV (m : Int) T U, v']) ?_ rfl (pairL_fin HF.out (by omega) ⟨by omega, by omega⟩ ⟨by omega, by omega⟩ (by omega) (by omega) (by omega) (by omega) (by omega) hM2 (by omega) (by omega) HO1.out HO2.out)
            exact results_c4 rfl rfl HF.out.p.r1 rfl rfl HF.out.p.r2 rfl
        · have hz1B : (z == 1) = false := by simpa using hz1
          by_cases hz2 : z = 2
          · subst hz2
            have HBD := Lib.hid (l1Bad_any b _ n S R n1 n5 hS hR wp HU.out.q.p.rd (by omega))
            unfold strV at HBD
            obtain ⟨c0, c1, c2, f0, f1, f2, hl⟩ := HU.out.q.p.a.cells
            go_wp2_with fail
            refine HBD.out.mono ?_; rintro e wq ⟨n', S', R', n0, n9, hS', hR', rfl, hr, hg⟩
            have HU2 := Lib.hid (HU.out.pick hr hg)
            have HV : Hid (_ ∧ _ ∧ _) := ⟨HU2.out.q.sa n' S' R', HU2.out.a.set3 (show x6 < x6 + 2 by omega) n' S' R', HU2.out.b.set3 (show x6 < Bb by omega) n' S' R'⟩
            clear hr hg c0 c1 c2 f0 f1 f2 hl HBD
            obtain ⟨c0, c1, c2, f0, f1, f2, hl⟩ := HU2.out.q.p.a.cells
            unfold strV
            go_upto_region 23 with fail
            obtain ⟨wd, hwd⟩ : ∃ x, (((wq.setCell ⟨x6, 0, none⟩ (.int .i64 n')).setCell ⟨x6, 1, none⟩ (.string S')).setCell ⟨x6, 2, none⟩ (.string R')) = x := ⟨_, rfl⟩
            rw [hwd] at HV ⊢
            clear hwd c0 c1 c2 f0 f1 f2 hl
            have hqne := HV.out.1.p.ne
            obtain ⟨c0, c1, c2, f0, f1, f2, hl⟩ := HV.out.1.p.a.cells
            obtain ⟨e0, e1, e2, _, _, _, l9⟩ := HV.out.1.c.cells
            obtain ⟨g0, g1, g2, i0, i1, i2, hl1⟩ := HV.out.1.p.r1.cells
            obtain ⟨k0, k1, k2, j0, j1, j2, hl2⟩ := HV.out.1.p.r2.cells
            have hy0 : w.heap.size ≠ x6 := by omega
            have hy1 : w.heap.size + 1 ≠ x6 := by omega
            have hy2 : w.heap.size ≠ x6 + 1 := by omega
            have hy3 : w.heap.size + 1 ≠ x6 + 1 := by omega
            go_wp2_with fail
            go_region_held3 (fun w' => w'.cell? ⟨x6, 0, none⟩ = some (.int .i64 n') ∧ w'.cell? ⟨x6, 1, none⟩ = some (.string S') ∧ w'.cell? ⟨x6, 2, none⟩ = some (.string R') ∧ w'.cell? ⟨x6 + 1, 0, none⟩ = some (.int .i64 (m : Int)) ∧ w'.cell? ⟨x6 + 1, 1, none⟩ = some (.string T) ∧ w'.cell? ⟨x6 + 1, 2, none⟩ = some (.string U))
              (go_keep)
              (fail)
            all_goals
              have HF := Lib.hid (((HV.out.1.s1 n' S' R').s2 (m : Int) T U).drew)
              have HO1 := Lib.hid ((((HV.out.2.1).set3 (show w.heap.size < x6 + 2 by omega) n' S' R').set3 (show w.heap.size + 1 < x6 + 2 by omega) (m : Int) T U).below (Below.refl _ _).drew)
              have HO2 := Lib.hid ((((HV.out.2.2).set3 (show w.heap.size < Bb by omega) n' S' R').set3 (show w.heap.size + 1 < Bb by omega) (m : Int) T U).below (Below.refl _ _).drew)
              go_wp2_with fail
              refine bodyPost_ret (v := .tuple #[strV n' S' R', v, strV (m : Int) T U, u]) ?_ rfl (pairL_fin HF.out (by omega) ⟨n0, n9⟩ ⟨by omega, by omega⟩ hS' hR' (by omega) (by omega) (by omega) (by omega) (by omega) (by omega) HO1.out HO2.out)
              exact results_c4 rfl rfl HF.out.p.r1 rfl rfl HF.out.p.r2 rfl
          · have hz2B : (z == 2) = false := by simpa using hz2
            have HV : Hid (_ ∧ _ ∧ _) := ⟨HU.out.q, HU.out.a, HU.out.b⟩
            have hqne := HV.out.1.p.ne
            obtain ⟨c0, c1, c2, f0, f1, f2, hl⟩ := HV.out.1.p.a.cells
            obtain ⟨e0, e1, e2, _, _, _, l9⟩ := HV.out.1.c.cells
            obtain ⟨g0, g1, g2, i0, i1, i2, hl1⟩ := HV.out.1.p.r1.cells
            obtain ⟨k0, k1, k2, j0, j1, j2, hl2⟩ := HV.out.1.p.r2.cells
            have hy0 : w.heap.size ≠ x6 := by omega
            have hy1 : w.heap.size + 1 ≠ x6 := by omega
            have hy2 : w.heap.size ≠ x6 + 1 := by omega
            have hy3 : w.heap.size + 1 ≠ x6 + 1 := by omega
            go_wp2_with fail
            go_region_held3 (fun w' => w'.cell? ⟨x6, 0, none⟩ = some (.int .i64 (n : Int)) ∧ w'.cell? ⟨x6, 1, none⟩ = some (.string S) ∧ w'.cell? ⟨x6, 2, none⟩ = some (.string R) ∧ w'.cell? ⟨x6 + 1, 0, none⟩ = some (.int .i64 (m : Int)) ∧ w'.cell? ⟨x6 + 1, 1, none⟩ = some (.string T) ∧ w'.cell? ⟨x6 + 1, 2, none⟩ = some (.string U))
              (go_keep)
              (fail)
            all_goals
              have HF := Lib.hid (((HV.out.1.s1 (n : Int) S R).s2 (m : Int) T U).drew)
              have HO1 := Lib.hid ((((HV.out.2.1).set3 (show w.heap.size < x6 + 2 by omega) (n : Int) S R).set3 (show w.heap.size + 1 < x6 + 2 by omega) (m : Int) T U).below (Below.refl _ _).drew)
              have HO2 := Lib.hid ((((HV.out.2.2).set3 (show w.heap.size < Bb by omega) (n : Int) S R).set3 (show w.heap.size + 1 < Bb by omega) (m : Int) T U).below (Below.refl _ _).drew)
              go_wp2_with fail
              refine bodyPost_ret (v := .tuple #[strV (n : Int) S R, v, strV (m : Int) T U, u]) ?_ rfl (pairL_fin HF.out (by omega) ⟨by omega, by omega⟩ ⟨by omega, by omega⟩ (by omega) (by omega) (by omega) (by omega) (by omega) (by omega) (by omega) (by omega) HO1.out HO2.out)
              exact results_c4 rfl rfl HF.out.p.r1 rfl rfl HF.out.p.r2 rfl
end Go.Proofs.YtjepegkbbbebkaaGreatDoor
/- The draw of SecondWins: two structures, lists of numbers, rounds. Condition: the bytes are readable. -/
namespace Go.Proofs.YtjepegkbbbebkaaGreatDoor
open Go.RowKit
set_option linter.unusedVariables false
set_option maxRecDepth 100000

theorem IntsAt.take2 {w : World} {a : Option Addr} {cap : Nat} {L : List Int} (h : IntsAt w (.slice a L.length cap) L) (h2 : 2 ≤ L.length) : IntsAt w (.slice a 2 cap) (L.take 2) := by
  have hl : (L.take 2).length = 2 := by rw [List.length_take]; omega
  rcases h with ⟨_, rfl⟩ | ⟨g, o, cap', he, h1, hm, hg, hc⟩
  · simp at h2
  · injection he with e1 e2 e3
    subst e1; subst e3
    refine .inr ⟨g, o, cap, by rw [hl], by omega, hm, hg, fun j hj => ?_⟩
    rw [hl] at hj
    rw [hc j (by omega)]
    have : j < L.length := by omega
    simp [this, hj]
theorem IntsAt.keptI {w w' : World} {v : Value} {L : List Int} (h : IntsAt w v L) (hb : ∀ k, v.ownBlock = some k → k < w.heap.size → w'.heap[k]? = w.heap[k]?) (hs : w.heap.size ≤ w'.heap.size) : IntsAt w' v L := by
  rcases h with h | ⟨g, o, cap, rfl, h1, h2, hg, hc⟩
  · exact .inl h
  · refine .inr ⟨g, o, cap, rfl, h1, h2, Nat.lt_of_lt_of_le hg hs, fun j hj => ?_⟩
    have e := hb g rfl hg
    rw [← hc j hj]
    simp [World.cell?, e]
theorem ownBlock_len (a : Option Addr) (l l' c : Nat) : (Value.slice a l c).ownBlock = (Value.slice a l' c).ownBlock := by
  cases a <;> rfl
/-- The draw of a game. -/
def SwO (b K : Nat) (w : World) (e : Ending) (w' : World) : Prop := ∃ (n m r : Int) (S R T U : ByteArray) (v u : Value) (L M : List Int), (-1 ≤ n ∧ n ≤ 9223372036854775807) ∧ (-1 ≤ m ∧ m ≤ 9223372036854775807) ∧ S.size ≤ 10 ∧ R.size ≤ 100 ∧ T.size ≤ 10 ∧ U.size ≤ 100 ∧ (-1 ≤ r ∧ r ≤ 4) ∧
  e = .returned (.tuple #[strV n S R, v, strV m T U, u, .int .i64 r]) ∧ IntsAt w' v L ∧ IntsAt w' u M ∧ (∀ k, v.ownBlock = some k → w.heap.size ≤ k) ∧ (∀ k, u.ownBlock = some k → w.heap.size ≤ k) ∧ RdB w' b K ∧ w.grownBy w' (some b)
theorem results_c5 {fn : Func} {p q r s t : Tmp} (h : fn.results = #[.cell p 24, .tmp q, .cell r 24, .tmp s, .tmp t]) {tmps : Array Value} {w : World} {b c : Nat} {n m : Int} {S R T U : ByteArray} {v u z : Value} (hp : tmps.getD p undef = .pointer (some ⟨b, 0, none⟩)) (hb : SBlk w b n S R) (hq : tmps.getD q undef = v) (hr : tmps.getD r undef = .pointer (some ⟨c, 0, none⟩)) (hc : SBlk w c m T U) (hs : tmps.getD s undef = u) (ht : tmps.getD t undef = z) :
    (results fn tmps).run Tryz.prog w = .ok (.tuple #[strV n S R, v, strV m T U, u, z]) w := by
  have hl := run_loadVar_row (P := Tryz.prog) w b 24 24 #[.int .i64 n, .string S, .string R] (0, 0) _ hb Tryz.underlying24 rfl strInfo
  have hl2 := run_loadVar_row (P := Tryz.prog) w c 24 24 #[.int .i64 m, .string T, .string U] (0, 0) _ hc Tryz.underlying24 rfl strInfo
  have hp' : tmps[p]?.getD undef = .pointer (some ⟨b, 0, none⟩) := by simpa using hp
  have hq' : tmps[q]?.getD undef = v := by simpa using hq
  have hr' : tmps[r]?.getD undef = .pointer (some ⟨c, 0, none⟩) := by simpa using hr
  have hs' : tmps[s]?.getD undef = u := by simpa using hs
  have ht' : tmps[t]?.getD undef = z := by simpa using ht
  simp [results, h, hp', hq', hr', hs', ht', asAddr, Sem.run_bind, Result.andThen, hl, hl2, strV]
/-- The structures' boxes, the reader, the lists. -/
structure Sw (w : World) (b K x : Nat) (n : Int) (S R : ByteArray) (m : Int) (T U : ByteArray) (n1 : Int) (S1 R1 : ByteArray) (n2 : Int) (S2 R2 : ByteArray) (v u : Value) (L M : List Int) (wr : World) : Prop where
  q : Qr w b K x n S R m T U n1 S1 R1 n2 S2 R2 wr
  a : IntsAt wr v L
  b : IntsAt wr u M
  la : ∀ k, v.ownBlock = some k → w.heap.size + 2 ≤ k
  lb : ∀ k, u.ownBlock = some k → w.heap.size + 2 ≤ k
section
variable {w wr w' : World} {b K K' x : Nat} {n m n1 n2 k : Int} {S R T U S1 R1 S2 R2 V X : ByteArray} {v u : Value} {L M : List Int}
theorem Sw.pick (h : Sw w b K x n S R m T U n1 S1 R1 n2 S2 R2 v u L M wr) (hr : RdB w' b K') (hg : wr.grownBy w' (some b)) : Sw w b K' x n S R m T U n1 S1 R1 n2 S2 R2 v u L M w' := by
  have hne := h.q.p.ne
  exact ⟨h.q.pick hr hg, h.a.keptI (fun k hk hl => hg.block k hl (by intro e; injection e with e; have := h.la k hk; omega)) hg.size, h.b.keptI (fun k hk hl => hg.block k hl (by intro e; injection e with e; have := h.lb k hk; omega)) hg.size, h.la, h.lb⟩
theorem Sw.below (h : Sw w b K x n S R m T U n1 S1 R1 n2 S2 R2 v u L M wr) (hb : Below wr.heap.size wr w') : Sw w b K x n S R m T U n1 S1 R1 n2 S2 R2 v u L M w' := h.pick (h.q.p.rd.grown (grown_belowS hb)) (grown_belowS hb)
theorem Sw.drew (h : Sw w b K x n S R m T U n1 S1 R1 n2 S2 R2 v u L M wr) : Sw w b K x n S R m T U n1 S1 R1 n2 S2 R2 v u L M wr.drew := h.below (Below.refl _ _).drew
theorem set3_heap (wr : World) (g k : Nat) (hg : k ≠ g) (n : Int) (V X : ByteArray) : (((wr.setCell ⟨g, 0, none⟩ (.int .i64 n)).setCell ⟨g, 1, none⟩ (.string V)).setCell ⟨g, 2, none⟩ (.string X)).heap[k]? = wr.heap[k]? := by
  rw [Below.heap_setCell _ _ _ _ (by simp; omega), Below.heap_setCell _ _ _ _ (by simp; omega), Below.heap_setCell _ _ _ _ (by simp; omega)]
theorem set3_size (wr : World) (g : Nat) (n : Int) (V X : ByteArray) : wr.heap.size ≤ (((wr.setCell ⟨g, 0, none⟩ (.int .i64 n)).setCell ⟨g, 1, none⟩ (.string V)).setCell ⟨g, 2, none⟩ (.string X)).heap.size := by simp [World.setCell]
theorem Sw.s1 (h : Sw w b K x n S R m T U n1 S1 R1 n2 S2 R2 v u L M wr) (k : Int) (V X : ByteArray) : Sw w b K x n S R m T U k V X n2 S2 R2 v u L M (((wr.setCell ⟨w.heap.size, 0, none⟩ (.int .i64 k)).setCell ⟨w.heap.size, 1, none⟩ (.string V)).setCell ⟨w.heap.size, 2, none⟩ (.string X)) :=
  ⟨h.q.s1 k V X, h.a.keptI (fun j hj _ => set3_heap _ _ _ (by have := h.la j hj; omega) _ _ _) (set3_size _ _ _ _ _), h.b.keptI (fun j hj _ => set3_heap _ _ _ (by have := h.lb j hj; omega) _ _ _) (set3_size _ _ _ _ _), h.la, h.lb⟩
theorem Sw.s2 (h : Sw w b K x n S R m T U n1 S1 R1 n2 S2 R2 v u L M wr) (k : Int) (V X : ByteArray) : Sw w b K x n S R m T U n1 S1 R1 k V X v u L M (((wr.setCell ⟨w.heap.size + 1, 0, none⟩ (.int .i64 k)).setCell ⟨w.heap.size + 1, 1, none⟩ (.string V)).setCell ⟨w.heap.size + 1, 2, none⟩ (.string X)) :=
  ⟨h.q.s2 k V X, h.a.keptI (fun j hj _ => set3_heap _ _ _ (by have := h.la j hj; omega) _ _ _) (set3_size _ _ _ _ _), h.b.keptI (fun j hj _ => set3_heap _ _ _ (by have := h.lb j hj; omega) _ _ _) (set3_size _ _ _ _ _), h.la, h.lb⟩
theorem Sw.fin (h : Sw w b K x n S R m T U n S R m T U v u L M wr) (hK : K ≤ K') (hn : -1 ≤ n ∧ n ≤ 9223372036854775807) (hm : -1 ≤ m ∧ m ≤ 9223372036854775807) (hS : S.size ≤ 10) (hR : R.size ≤ 100) (hT : T.size ≤ 10) (hU : U.size ≤ 100) {r : Int} (hr : -1 ≤ r ∧ r ≤ 4) :
    SwO b K' w (.returned (.tuple #[strV n S R, v, strV m T U, u, .int .i64 r])) wr :=
  ⟨n, m, r, S, R, T, U, v, u, L, M, hn, hm, hS, hR, hT, hU, hr, rfl, h.a, h.b, fun k hk => by have := h.la k hk; omega, fun k hk => by have := h.lb k hk; omega, h.q.p.rd.mono hK, h.q.p.old⟩
end
set_option maxHeartbeats 4000000 in
theorem l5Draw_any (b K : Nat) (w : World) (h : RdB w b K) (hk : K < 10000000) :
    Calls Tryz.prog 47 #[.pointer (some ⟨b, 0, none⟩)] w (SwO b (K + 400) w) := by
  have hb := h.block
  obtain ⟨W, hW⟩ : ∃ W, (w.alloc (.cells #[.int .i64 0, .string ⟨#[]⟩, .string ⟨#[]⟩] 24)).alloc (.cells #[.int .i64 0, .string ⟨#[]⟩, .string ⟨#[]⟩] 24) = W := ⟨_, rfl⟩
  have HB0 : Hid (Below w.heap.size w W ∧ SBlk W w.heap.size 0 ⟨#[]⟩ ⟨#[]⟩ ∧ SBlk W (w.heap.size + 1) 0 ⟨#[]⟩ ⟨#[]⟩ ∧ W.heap.size = w.heap.size + 2) := by
    subst hW
    have h1 : Below w.heap.size w (w.alloc (.cells #[.int .i64 0, .string ⟨#[]⟩, .string ⟨#[]⟩] 24)) := (Below.refl _ _).alloc (Nat.le_refl _) _
    have h2 := SBlk.new (w.alloc (.cells #[.int .i64 0, .string ⟨#[]⟩, .string ⟨#[]⟩] 24)) 0 ⟨#[]⟩ ⟨#[]⟩
    rw [World.size_alloc] at h2
    refine ⟨h1.alloc h1.size _, (SBlk.new w 0 ⟨#[]⟩ ⟨#[]⟩).below ((Below.refl _ _).alloc (Nat.le_refl _) _) (by simp), h2, by simp⟩
  have HR := Lib.hid (rdB_bel h HB0.out.1)
  have HW := Lib.hid hW
  clear h hW
  go_enter Tryz.func47, Tryz.ntmps47
  go_upto_region 1 with fail
  rw [HW.out]
  go_wp2_with fail
  refine (l4Pair_any b K W HR.out (by omega)).mono ?_; rintro e w1 ⟨n, m, S, R, T, U, v, u, L, M, hn, hm, hS, hR, hT, hU, hL, hM, rfl, ha, hc, la, lb, hr, hg⟩
  have h3 := HB0.out.2.2.2
  have hal : Below w1.heap.size w1 (w1.alloc (.cells #[.int .i64 n, .string S, .string R] 24)) := (Below.refl _ _).alloc (Nat.le_refl _) _
  obtain ⟨W2, hW2⟩ : ∃ W, (w1.alloc (.cells #[.int .i64 n, .string S, .string R] 24)).alloc (.cells #[.int .i64 m, .string T, .string U] 24) = W := ⟨_, rfl⟩
  have HQ2 : Hid (Sw w b (K + 300) w1.heap.size n S R m T U 0 ⟨#[]⟩ ⟨#[]⟩ 0 ⟨#[]⟩ ⟨#[]⟩ v u L M W2) := by
    rw [← hW2]
    have hs := hg.size
    have hal2 : Below (w1.alloc (.cells #[.int .i64 n, .string S, .string R] 24)).heap.size (w1.alloc (.cells #[.int .i64 n, .string S, .string R] 24)) ((w1.alloc (.cells #[.int .i64 n, .string S, .string R] 24)).alloc (.cells #[.int .i64 m, .string T, .string U] 24)) := (Below.refl _ _).alloc (Nat.le_refl _) _
    have hp : Pr w b (K + 300) w1.heap.size n S R 0 ⟨#[]⟩ ⟨#[]⟩ 0 ⟨#[]⟩ ⟨#[]⟩ (w1.alloc (.cells #[.int .i64 n, .string S, .string R] 24)) :=
      ⟨rdB_bel hr hal, (HB0.out.2.1.grown hg (by omega)).below hal (by omega), (HB0.out.2.2.1.grown hg (by omega)).below hal (by omega), SBlk.new w1 _ S R, ⟨hb, by omega⟩, ((grown_belowS (row := some b) HB0.out.1).trans hg).trans (grown_belowS hal)⟩
    have hnw := SBlk.new (w1.alloc (.cells #[.int .i64 n, .string S, .string R] 24)) m T U
    rw [World.size_alloc] at hnw
    exact ⟨⟨hp.below hal2, hnw⟩, (ha.below hal).below hal2, (hc.below hal).below hal2, fun k hk => by have := la k hk; omega, fun k hk => by have := lb k hk; omega⟩
  have HW2 := Lib.hid hW2
  clear hr hg hal hW2 la lb h3
  obtain ⟨a1, cap1, rfl, l1, m1, _⟩ := ha.view
  obtain ⟨a2, cap2, rfl, l2, m2, _⟩ := hc.view
  unfold maxLen at m1 m2
  clear ha hc
  unfold strV
  go_upto_region 2 with fail
  rw [HW2.out]
  generalize w1.heap.size = x6 at *
  clear HW2 HB0 HR HW
  by_cases h2 : 2 < L.length
  · have h2I : (2 : Int) < (L.length : Int) := by omega
    by_cases hlm : L.length = M.length
    · have hlmB : ((L.length : Int) == (M.length : Int)) = true := by rw [beq_iff_eq]; omega
      have h2M : (2 : Int) ≤ (cap1 : Int) := by omega
      have h2N : (2 : Int) ≤ (cap2 : Int) := by omega
      have HQ3 : Hid (Sw w b (K + 300) x6 n S R m T U 0 ⟨#[]⟩ ⟨#[]⟩ 0 ⟨#[]⟩ ⟨#[]⟩ (.slice a1 2 cap1) (.slice a2 2 cap2) (L.take 2) (M.take 2) W2) := ⟨HQ2.out.q, HQ2.out.a.take2 (by omega), HQ2.out.b.take2 (by omega), fun k hk => HQ2.out.la k (by rw [ownBlock_len _ _ 2]; exact hk), fun k hk => HQ2.out.lb k (by rw [ownBlock_len _ _ 2]; exact hk)⟩
      generalize M.length = lm at *
      generalize L.length = ll at *
      subst hlm
      go_wp2_with fail
      refine (pickB _ b _ _ HQ3.out.q.p.rd (by omega) (by omega) (by omega)).mono ?_; rintro e w4 ⟨z, rfl, z0, z1, hr, hg⟩
      have HQ4 := Lib.hid (HQ3.out.pick hr hg)
      clear hr hg HQ3 HQ2
      have hqne := HQ4.out.q.p.ne
      obtain ⟨c0, c1, c2, f0, f1, f2, hl⟩ := HQ4.out.q.p.a.cells
      obtain ⟨e0, e1, e2, _, _, _, l9⟩ := HQ4.out.q.c.cells
      obtain ⟨g0, g1, g2, i0, i1, i2, hl1⟩ := HQ4.out.q.p.r1.cells
      obtain ⟨k0, k1, k2, j0, j1, j2, hl2⟩ := HQ4.out.q.p.r2.cells
      have hy0 : w.heap.size ≠ x6 := by omega
      have hy1 : w.heap.size + 1 ≠ x6 := by omega
      have hy2 : w.heap.size ≠ x6 + 1 := by omega
      have hy3 : w.heap.size + 1 ≠ x6 + 1 := by omega
      by_cases hz0 : z = 0
      · subst hz0
        have HN := Lib.hid (fun T => num_list w4.drew b _ [-1, 4] T HQ4.out.drew.q.p.rd (by omega) (by decide) (by decide))
        go_wp2_with fail
        go_region_held3 (fun w' => w'.cell? ⟨x6, 0, none⟩ = some (.int .i64 n) ∧ w'.cell? ⟨x6, 1, none⟩ = some (.string S) ∧ w'.cell? ⟨x6, 2, none⟩ = some (.string R) ∧ w'.cell? ⟨x6 + 1, 0, none⟩ = some (.int .i64 m) ∧ w'.cell? ⟨x6 + 1, 1, none⟩ = some (.string T) ∧ w'.cell? ⟨x6 + 1, 2, none⟩ = some (.string U))
          (go_keep)
          (first
            | (go_at_call 31; refine (HN.out _).mono ?_; rintro e wq ⟨r, hr0, rfl, hr, hg⟩; have HQ5 := Lib.hid (HQ4.out.drew.pick hr hg); clear hr hg; obtain ⟨c0, c1, c2, f0, f1, f2, hl⟩ := HQ5.out.q.p.a.cells; obtain ⟨e0, e1, e2, _, _, _, l9⟩ := HQ5.out.q.c.cells; obtain ⟨g0, g1, g2, i0, i1, i2, hl1⟩ := HQ5.out.q.p.r1.cells; obtain ⟨k0, k1, k2, j0, j1, j2, hl2⟩ := HQ5.out.q.p.r2.cells))
        all_goals
          have HF := Lib.hid ((HQ5.out.s1 n S R).s2 m T U)
          have hr9 : -1 ≤ r ∧ r ≤ 4 := by
            simp at hr0
            omega
          go_wp2_with fail
          refine bodyPost_ret (v := .tuple #[strV n S R, (.slice a1 2 cap1), strV m T U, (.slice a2 2 cap2), .int .i64 r]) ?_ rfl (HF.out.fin (by omega) hn hm hS hR hT hU hr9)
          exact results_c5 rfl rfl HF.out.q.p.r1 rfl rfl HF.out.q.p.r2 rfl rfl
      · have hz0B : (z == 0) = false := by simpa using hz0
        have HN := Lib.hid (fun T => num_list w4.drew b _ [2, 1, 0, 2, 3, 1] T HQ4.out.drew.q.p.rd (by omega) (by decide) (by decide))
        go_wp2_with fail
        go_region_held3 (fun w' => w'.cell? ⟨x6, 0, none⟩ = some (.int .i64 n) ∧ w'.cell? ⟨x6, 1, none⟩ = some (.string S) ∧ w'.cell? ⟨x6, 2, none⟩ = some (.string R) ∧ w'.cell? ⟨x6 + 1, 0, none⟩ = some (.int .i64 m) ∧ w'.cell? ⟨x6 + 1, 1, none⟩ = some (.string T) ∧ w'.cell? ⟨x6 + 1, 2, none⟩ = some (.string U))
          (go_keep)
          (first
            | (go_at_call 31; refine (HN.out _).mono ?_; rintro e wq ⟨r, hr0, rfl, hr, hg⟩; have HQ5 := Lib.hid (HQ4.out.drew.pick hr hg); clear hr hg; obtain ⟨c0, c1, c2, f0, f1, f2, hl⟩ := HQ5.out.q.p.a.cells; obtain ⟨e0, e1, e2, _, _, _, l9⟩ := HQ5.out.q.c.cells; obtain ⟨g0, g1, g2, i0, i1, i2, hl1⟩ := HQ5.out.q.p.r1.cells; obtain ⟨k0, k1, k2, j0, j1, j2, hl2⟩ := HQ5.out.q.p.r2.cells))
        all_goals
          have HF := Lib.hid ((HQ5.out.s1 n S R).s2 m T U)
          have hr9 : -1 ≤ r ∧ r ≤ 4 := by
            simp at hr0
            omega
          go_wp2_with fail
          refine bodyPost_ret (v := .tuple #[strV n S R, (.slice a1 2 cap1), strV m T U, (.slice a2 2 cap2), .int .i64 r]) ?_ rfl (HF.out.fin (by omega) hn hm hS hR hT hU hr9)
          exact results_c5 rfl rfl HF.out.q.p.r1 rfl rfl HF.out.q.p.r2 rfl rfl
    · have hlmB : ((L.length : Int) == (M.length : Int)) = false := by rw [beq_eq_false_iff_ne]; omega
      have HQ3 := HQ2
      go_wp2_with fail
      refine (pickB _ b _ _ HQ3.out.q.p.rd (by omega) (by omega) (by omega)).mono ?_; rintro e w4 ⟨z, rfl, z0, z1, hr, hg⟩
      have HQ4 := Lib.hid (HQ3.out.pick hr hg)
      clear hr hg HQ3 HQ2
      have hqne := HQ4.out.q.p.ne
      obtain ⟨c0, c1, c2, f0, f1, f2, hl⟩ := HQ4.out.q.p.a.cells
      obtain ⟨e0, e1, e2, _, _, _, l9⟩ := HQ4.out.q.c.cells
      obtain ⟨g0, g1, g2, i0, i1, i2, hl1⟩ := HQ4.out.q.p.r1.cells
      obtain ⟨k0, k1, k2, j0, j1, j2, hl2⟩ := HQ4.out.q.p.r2.cells
      have hy0 : w.heap.size ≠ x6 := by omega
      have hy1 : w.heap.size + 1 ≠ x6 := by omega
      have hy2 : w.heap.size ≠ x6 + 1 := by omega
      have hy3 : w.heap.size + 1 ≠ x6 + 1 := by omega
      by_cases hz0 : z = 0
      · subst hz0
        have HN := Lib.hid (fun T => num_list w4.drew b _ [-1, 4] T HQ4.out.drew.q.p.rd (by omega) (by decide) (by decide))
        go_wp2_with fail
        go_region_held3 (fun w' => w'.cell? ⟨x6, 0, none⟩ = some (.int .i64 n) ∧ w'.cell? ⟨x6, 1, none⟩ = some (.string S) ∧ w'.cell? ⟨x6, 2, none⟩ = some (.string R) ∧ w'.cell? ⟨x6 + 1, 0, none⟩ = some (.int .i64 m) ∧ w'.cell? ⟨x6 + 1, 1, none⟩ = some (.string T) ∧ w'.cell? ⟨x6 + 1, 2, none⟩ = some (.string U))
          (go_keep)
          (first
            | (go_at_call 31; refine (HN.out _).mono ?_; rintro e wq ⟨r, hr0, rfl, hr, hg⟩; have HQ5 := Lib.hid (HQ4.out.drew.pick hr hg); clear hr hg; obtain ⟨c0, c1, c2, f0, f1, f2, hl⟩ := HQ5.out.q.p.a.cells; obtain ⟨e0, e1, e2, _, _, _, l9⟩ := HQ5.out.q.c.cells; obtain ⟨g0, g1, g2, i0, i1, i2, hl1⟩ := HQ5.out.q.p.r1.cells; obtain ⟨k0, k1, k2, j0, j1, j2, hl2⟩ := HQ5.out.q.p.r2.cells))
        all_goals
          have HF := Lib.hid ((HQ5.out.s1 n S R).s2 m T U)
          have hr9 : -1 ≤ r ∧ r ≤ 4 := by
            simp at hr0
            omega
          go_wp2_with fail
          refine bodyPost_ret (v := .tuple #[strV n S R, (.slice a1 L.length cap1), strV m T U, (.slice a2 M.length cap2), .int .i64 r]) ?_ rfl (HF.out.fin (by omega) hn hm hS hR hT hU hr9)
          exact results_c5 rfl rfl HF.out.q.p.r1 rfl rfl HF.out.q.p.r2 rfl rfl
      · have hz0B : (z == 0) = false := by simpa using hz0
        have HN := Lib.hid (fun T => num_list w4.drew b _ [2, 1, 0, 2, 3, 1] T HQ4.out.drew.q.p.rd (by omega) (by decide) (by decide))
        go_wp2_with fail
        go_region_held3 (fun w' => w'.cell? ⟨x6, 0, none⟩ = some (.int .i64 n) ∧ w'.cell? ⟨x6, 1, none⟩ = some (.string S) ∧ w'.cell? ⟨x6, 2, none⟩ = some (.string R) ∧ w'.cell? ⟨x6 + 1, 0, none⟩ = some (.int .i64 m) ∧ w'.cell? ⟨x6 + 1, 1, none⟩ = some (.string T) ∧ w'.cell? ⟨x6 + 1, 2, none⟩ = some (.string U))
          (go_keep)
          (first
            | (go_at_call 31; refine (HN.out _).mono ?_; rintro e wq ⟨r, hr0, rfl, hr, hg⟩; have HQ5 := Lib.hid (HQ4.out.drew.pick hr hg); clear hr hg; obtain ⟨c0, c1, c2, f0, f1, f2, hl⟩ := HQ5.out.q.p.a.cells; obtain ⟨e0, e1, e2, _, _, _, l9⟩ := HQ5.out.q.c.cells; obtain ⟨g0, g1, g2, i0, i1, i2, hl1⟩ := HQ5.out.q.p.r1.cells; obtain ⟨k0, k1, k2, j0, j1, j2, hl2⟩ := HQ5.out.q.p.r2.cells))
        all_goals
          have HF := Lib.hid ((HQ5.out.s1 n S R).s2 m T U)
          have hr9 : -1 ≤ r ∧ r ≤ 4 := by
            simp at hr0
            omega
          go_wp2_with fail
          refine bodyPost_ret (v := .tuple #[strV n S R, (.slice a1 L.length cap1), strV m T U, (.slice a2 M.length cap2), .int .i64 r]) ?_ rfl (HF.out.fin (by omega) hn hm hS hR hT hU hr9)
          exact results_c5 rfl rfl HF.out.q.p.r1 rfl rfl HF.out.q.p.r2 rfl rfl
  · have h2I : ¬ (2 : Int) < (L.length : Int) := by omega
    have HQ3 := HQ2
    go_wp2_with fail
    refine (pickB _ b _ _ HQ3.out.q.p.rd (by omega) (by omega) (by omega)).mono ?_; rintro e w4 ⟨z, rfl, z0, z1, hr, hg⟩
    have HQ4 := Lib.hid (HQ3.out.pick hr hg)
    clear hr hg HQ3 HQ2
    have hqne := HQ4.out.q.p.ne
    obtain ⟨c0, c1, c2, f0, f1, f2, hl⟩ := HQ4.out.q.p.a.cells
    obtain ⟨e0, e1, e2, _, _, _, l9⟩ := HQ4.out.q.c.cells
    obtain ⟨g0, g1, g2, i0, i1, i2, hl1⟩ := HQ4.out.q.p.r1.cells
    obtain ⟨k0, k1, k2, j0, j1, j2, hl2⟩ := HQ4.out.q.p.r2.cells
    have hy0 : w.heap.size ≠ x6 := by omega
    have hy1 : w.heap.size + 1 ≠ x6 := by omega
    have hy2 : w.heap.size ≠ x6 + 1 := by omega
    have hy3 : w.heap.size + 1 ≠ x6 + 1 := by omega
    by_cases hz0 : z = 0
    · subst hz0
      have HN := Lib.hid (fun T => num_list w4.drew b _ [-1, 4] T HQ4.out.drew.q.p.rd (by omega) (by decide) (by decide))
      go_wp2_with fail
      go_region_held3 (fun w' => w'.cell? ⟨x6, 0, none⟩ = some (.int .i64 n) ∧ w'.cell? ⟨x6, 1, none⟩ = some (.string S) ∧ w'.cell? ⟨x6, 2, none⟩ = some (.string R) ∧ w'.cell? ⟨x6 + 1, 0, none⟩ = some (.int .i64 m) ∧ w'.cell? ⟨x6 + 1, 1, none⟩ = some (.string T) ∧ w'.cell? ⟨x6 + 1, 2, none⟩ = some (.string U))
        (go_keep)
        (first
          | (go_at_call 31; refine (HN.out _).mono ?_; rintro e wq ⟨r, hr0, rfl, hr, hg⟩; have HQ5 := Lib.hid (HQ4.out.drew.pick hr hg); clear hr hg; obtain ⟨c0, c1, c2, f0, f1, f2, hl⟩ := HQ5.out.q.p.a.cells; obtain ⟨e0, e1, e2, _, _, _, l9⟩ := HQ5.out.q.c.cells; obtain ⟨g0, g1, g2, i0, i1, i2, hl1⟩ := HQ5.out.q.p.r1.cells; obtain ⟨k0, k1, k2, j0, j1, j2, hl2⟩ := HQ5.out.q.p.r2.cells))
      all_goals
        have HF := Lib.hid ((HQ5.out.s1 n S R).s2 m T U)
        have hr9 : -1 ≤ r ∧ r ≤ 4 := by
          simp at hr0
          omega
        go_wp2_with fail
        refine bodyPost_ret (v := .tuple #[strV n S R, (.slice a1 L.length cap1), strV m T U, (.slice a2 M.length cap2), .int .i64 r]) ?_ rfl (HF.out.fin (by omega) hn hm hS hR hT hU hr9)
        exact results_c5 rfl rfl HF.out.q.p.r1 rfl rfl HF.out.q.p.r2 rfl rfl
    · have hz0B : (z == 0) = false := by simpa using hz0
      have HN := Lib.hid (fun T => num_list w4.drew b _ [2, 1, 0, 2, 3, 1] T HQ4.out.drew.q.p.rd (by omega) (by decide) (by decide))
      go_wp2_with fail
      go_region_held3 (fun w' => w'.cell? ⟨x6, 0, none⟩ = some (.int .i64 n) ∧ w'.cell? ⟨x6, 1, none⟩ = some (.string S) ∧ w'.cell? ⟨x6, 2, none⟩ = some (.string R) ∧ w'.cell? ⟨x6 + 1, 0, none⟩ = some (.int .i64 m) ∧ w'.cell? ⟨x6 + 1, 1, none⟩ = some (.string T) ∧ w'.cell? ⟨x6 + 1, 2, none⟩ = some (.string U))
        (go_keep)
        (first
          | (go_at_call 31; refine (HN.out _).mono ?_; rintro e wq ⟨r, hr0, rfl, hr, hg⟩; have HQ5 := Lib.hid (HQ4.out.drew.pick hr hg); clear hr hg; obtain ⟨c0, c1, c2, f0, f1, f2, hl⟩ := HQ5.out.q.p.a.cells; obtain ⟨e0, e1, e2, _, _, _, l9⟩ := HQ5.out.q.c.cells; obtain ⟨g0, g1, g2, i0, i1, i2, hl1⟩ := HQ5.out.q.p.r1.cells; obtain ⟨k0, k1, k2, j0, j1, j2, hl2⟩ := HQ5.out.q.p.r2.cells))
      all_goals
        have HF := Lib.hid ((HQ5.out.s1 n S R).s2 m T U)
        have hr9 : -1 ≤ r ∧ r ≤ 4 := by
          simp at hr0
          omega
        go_wp2_with fail
        refine bodyPost_ret (v := .tuple #[strV n S R, (.slice a1 L.length cap1), strV m T U, (.slice a2 M.length cap2), .int .i64 r]) ?_ rfl (HF.out.fin (by omega) hn hm hS hR hT hU hr9)
        exact results_c5 rfl rfl HF.out.q.p.r1 rfl rfl HF.out.q.p.r2 rfl rfl
/-- The draw of a game, for the law that opened the bytes. -/
def SwL (w : World) (e : Ending) (w' : World) : Prop := ∃ (n m r : Int) (S R T U : ByteArray) (v u : Value) (L M : List Int), (-1 ≤ n ∧ n ≤ 9223372036854775807) ∧ (-1 ≤ m ∧ m ≤ 9223372036854775807) ∧ S.size ≤ 10 ∧ R.size ≤ 100 ∧ T.size ≤ 10 ∧ U.size ≤ 100 ∧ (-1 ≤ r ∧ r ≤ 4) ∧
  e = .returned (.tuple #[strV n S R, v, strV m T U, u, .int .i64 r]) ∧ IntsAt w' v L ∧ IntsAt w' u M ∧ Below w.heap.size w w'
set_option maxHeartbeats 1000000 in
theorem DrawSecondWins_any (w : World) (a : Option Addr) (len cap : Nat) (zs : List Int) (h : IsRow .u8 w a len cap zs) :
    Calls Tryz.prog 15 #[.slice a len cap] w (SwL w) := by
  obtain ⟨W, hW⟩ : ∃ W, (w.alloc (.cells #[.int .i64 0, .string ⟨#[]⟩, .string ⟨#[]⟩] 24)).alloc (.cells #[.int .i64 0, .string ⟨#[]⟩, .string ⟨#[]⟩] 24) = W := ⟨_, rfl⟩
  have HB0 : Hid (Below w.heap.size w W ∧ SBlk W w.heap.size 0 ⟨#[]⟩ ⟨#[]⟩ ∧ SBlk W (w.heap.size + 1) 0 ⟨#[]⟩ ⟨#[]⟩ ∧ W.heap.size = w.heap.size + 2) := by
    subst hW
    have h1 : Below w.heap.size w (w.alloc (.cells #[.int .i64 0, .string ⟨#[]⟩, .string ⟨#[]⟩] 24)) := (Below.refl _ _).alloc (Nat.le_refl _) _
    have h2 := SBlk.new (w.alloc (.cells #[.int .i64 0, .string ⟨#[]⟩, .string ⟨#[]⟩] 24)) 0 ⟨#[]⟩ ⟨#[]⟩
    rw [World.size_alloc] at h2
    refine ⟨h1.alloc h1.size _, (SBlk.new w 0 ⟨#[]⟩ ⟨#[]⟩).below ((Below.refl _ _).alloc (Nat.le_refl _) _) (by simp), h2, by simp⟩
  have H := Lib.hid (h.below HB0.out.1); clear h
  have HW := Lib.hid hW; clear hW
  go_enter Tryz.func15, Tryz.ntmps15
  go_upto_region 1 with fail
  rw [HW.out]
  go_wp2_with fail
  refine (l15Open_any _ _ _ _ _ H.out).mono ?_; rintro e w1 ⟨rfl, hr, hb, hs⟩
  have HR1 := Lib.hid hr
  have hWz := HB0.out.2.2.2
  have HBL1 := Lib.hid (HB0.out.1.trans (hb.mono HB0.out.1.size))
  have HX1 : Hid (SBlk w1 w.heap.size 0 ⟨#[]⟩ ⟨#[]⟩ ∧ SBlk w1 (w.heap.size + 1) 0 ⟨#[]⟩ ⟨#[]⟩) := ⟨HB0.out.2.1.below hb (by omega), HB0.out.2.2.1.below hb (by omega)⟩
  have hlt : w.heap.size + 1 < W.heap.size := by omega
  clear hr hb hs hWz
  generalize W.heap.size = B at *
  have hB1 := HR1.out.block
  go_wp2_with fail
  refine (l5Draw_any B _ w1 HR1.out (by omega)).mono ?_; rintro e w2 ⟨n, m, r, S, R, T, U, v, u, L, M, hn, hm, hS, hR, hT, hU, hr9, rfl, ha, hc, la, lb, hr, hg⟩
  have HBL2 := Lib.hid (below_of_grown HBL1.out (by omega) hg)
  have HX2 : Hid (SBlk w2 w.heap.size 0 ⟨#[]⟩ ⟨#[]⟩ ∧ SBlk w2 (w.heap.size + 1) 0 ⟨#[]⟩ ⟨#[]⟩) := ⟨HX1.out.1.grown hg (by omega), HX1.out.2.grown hg (by omega)⟩
  obtain ⟨g0, g1, g2, i0, i1, i2, hl1⟩ := HX2.out.1.cells
  obtain ⟨k0, k1, k2, j0, j1, j2, hl2⟩ := HX2.out.2.cells
  have H1 : Hid (SBlk (((w2.setCell ⟨w.heap.size, 0, none⟩ (.int .i64 n)).setCell ⟨w.heap.size, 1, none⟩ (.string S)).setCell ⟨w.heap.size, 2, none⟩ (.string R)) w.heap.size n S R ∧ SBlk (((w2.setCell ⟨w.heap.size, 0, none⟩ (.int .i64 n)).setCell ⟨w.heap.size, 1, none⟩ (.string S)).setCell ⟨w.heap.size, 2, none⟩ (.string R)) (w.heap.size + 1) 0 ⟨#[]⟩ ⟨#[]⟩) :=
    ⟨HX2.out.1.set3, ((HX2.out.2.far (by simp) _).far (by simp) _).far (by simp) _⟩
  have H2 := Lib.hid (And.intro (((H1.out.1.far (p := ⟨w.heap.size + 1, 0, none⟩) (by simp) (.int .i64 m)).far (p := ⟨w.heap.size + 1, 1, none⟩) (by simp) (.string T)).far (p := ⟨w.heap.size + 1, 2, none⟩) (by simp) (.string U)) (H1.out.2.set3 (n' := m) (S' := T) (R' := U)))
  have HP : Hid (SwL w (.returned (.tuple #[strV n S R, v, strV m T U, u, .int .i64 r])) ((((((w2.setCell ⟨w.heap.size, 0, none⟩ (.int .i64 n)).setCell ⟨w.heap.size, 1, none⟩ (.string S)).setCell ⟨w.heap.size, 2, none⟩ (.string R)).setCell ⟨w.heap.size + 1, 0, none⟩ (.int .i64 m)).setCell ⟨w.heap.size + 1, 1, none⟩ (.string T)).setCell ⟨w.heap.size + 1, 2, none⟩ (.string U))) :=
    ⟨n, m, r, S, R, T, U, v, u, L, M, hn, hm, hS, hR, hT, hU, hr9, rfl,
      (ha.keptI (fun j hj _ => set3_heap _ _ _ (by have := la j hj; omega) _ _ _) (set3_size _ _ _ _ _)).keptI (fun j hj _ => set3_heap _ _ _ (by have := la j hj; omega) _ _ _) (set3_size _ _ _ _ _),
      (hc.keptI (fun j hj _ => set3_heap _ _ _ (by have := lb j hj; omega) _ _ _) (set3_size _ _ _ _ _)).keptI (fun j hj _ => set3_heap _ _ _ (by have := lb j hj; omega) _ _ _) (set3_size _ _ _ _ _),
      (((((HBL2.out.setCell (Nat.le_refl _) _).setCell (Nat.le_refl _) _).setCell (Nat.le_refl _) _).setCell (Nat.le_succ _) _).setCell (Nat.le_succ _) _).setCell (Nat.le_succ _) _⟩
  clear hr hg ha hc la lb
  unfold strV
  go_wp2_with fail
  refine bodyPost_ret (v := .tuple #[strV n S R, v, strV m T U, u, .int .i64 r]) ?_ rfl HP.out
  exact results_c5 rfl rfl H2.out.1 rfl rfl H2.out.2 rfl rfl
end Go.Proofs.YtjepegkbbbebkaaGreatDoor
/- Draws of formulas with some first variables, and of structures with them. Conditions: the reader lies in memory and has not drawn much; the bytes are readable. -/
namespace Go.Proofs.YtjepegkbbbebkaaGreatDoor
open Go.RowKit
set_option linter.unusedVariables false
set_option maxRecDepth 100000

set_option maxHeartbeats 1000000 in
theorem l2Some_any (b K : Nat) (w : World) (h : RdB w b K) (hk : K < 1000000000) :
    Calls Tryz.prog 110 #[.pointer (some ⟨b, 0, none⟩)] w (TxtN b (K + 251) 63 w) := by
  have H := Lib.hid h; clear h
  go_enter Tryz.func110, Tryz.ntmps110
  go_wp2_with fail
  refine (pickB _ b K _ H.out (by omega) (by omega) (by omega)).mono ?_; rintro e w1 ⟨d, rfl, d0, d1, hr, hg⟩
  have HR1 := Lib.hid hr; have HG1 := Lib.hid hg; clear hr hg H
  go_wp2_with fail
  refine (of_ne w1 b _ 4 [⟨#[97, 98]⟩, ⟨#[97, 98, 99]⟩, ⟨#[97]⟩, ⟨#[97, 98, 99, 100]⟩] _ HR1.out (by omega) (by decide) (by decide) (by intro x hx; simp at hx; rcases hx with rfl | rfl | rfl | rfl <;> decide)).mono ?_; rintro e w2 ⟨vs, v1, v4, rfl, hr, hg⟩
  have HR2 := Lib.hid hr; have HG2 := Lib.hid (HG1.out.trans hg); clear hr hg HR1 HG1
  go_wp2_with fail
  refine (pickB _ b _ _ HR2.out (by omega) (by omega) (by omega)).mono ?_; rintro e w3 ⟨c, rfl, c0, c1, hr, hg⟩
  have HR3 := Lib.hid hr; have HG3 := Lib.hid (HG2.out.trans hg); clear hr hg HR2 HG2
  obtain ⟨m, rfl⟩ := Int.eq_ofNat_of_zero_le d0
  have hm := nP4 (d := m + 1) (by omega)
  have hm1 : (1 + (m : Int)) = ((m + 1 : Nat) : Int) := by omega
  have HC : Hid (∀ cnt, Calls Tryz.prog 107 #[.pointer (some ⟨b, 0, none⟩), .int .i64 (1 + (m : Int)), .string vs, .bool cnt] w3 (TxtN b (K + 1 + 1 + 1 + nP (m + 1)) (tP (m + 1)) w3)) := by
    intro cnt
    rw [hm1]
    exact l2Draw_any b vs cnt v1 (by omega) (m + 1) (by omega) w3 _ HR3.out (by omega)
  clear hm1
  generalize nP (m + 1) = N at *
  generalize tP (m + 1) = M at *
  go_wp2_with fail
  refine (HC.out _).mono ?_; rintro e w4 ⟨f, f1, f2, rfl, hr, hg⟩
  have HQ : Hid (TxtN b (K + 251) 63 w (.returned (.string f)) w4) := ⟨f, f1, by omega, rfl, hr.mono (by omega), HG3.out.trans hg⟩
  clear hr hg
  go_wp2_with fail
  go_ret
  exact HQ.out
theorem l2Open_any (b K : Nat) (w : World) (h : RdB w b K) (hk : K < 1000000000) :
    Calls Tryz.prog 54 #[.pointer (some ⟨b, 0, none⟩)] w (TxtM b (K + 254) 64 w) := by
  have H := Lib.hid h; clear h
  go_enter Tryz.func54, Tryz.ntmps54
  go_wp2_with fail
  refine (l2Some_any b K _ H.out hk).mono ?_; rintro e w1 ⟨f, f1, f2, rfl, hr, hg⟩
  have HR1 := Lib.hid hr; have HG1 := Lib.hid hg; clear hr hg H
  go_wp2_with fail
  refine (l2Bad_any b 63 f f1 f2 (by omega) w1 _ HR1.out (by omega)).mono ?_; rintro e w2 ⟨g, g2, rfl, hr, hg⟩
  have HQ : Hid (TxtM b (K + 254) 64 w (.returned (.string g)) w2) := ⟨g, g2, rfl, hr.mono (by omega), HG1.out.trans hg⟩
  clear hr hg
  go_wp2_with fail
  go_ret
  exact HQ.out
set_option maxHeartbeats 4000000 in
theorem l11Draw_any (b K wd : Nat) (hwd : 1 ≤ wd ∧ wd ≤ 2) (w : World) (h : RdB w b K) (hk : K < 1000000000) :
    Calls Tryz.prog 52 #[.pointer (some ⟨b, 0, none⟩), .int .i64 (wd : Int)] w (TxtN b (K + 260) 69 w) := by
  have H := Lib.hid h; clear h
  go_enter Tryz.func52, Tryz.ntmps52
  go_wp2_with fail
  refine (pickB _ b K _ H.out (by omega) (by omega) (by omega)).mono ?_; rintro e w1 ⟨d, rfl, d0, d1, hr, hg⟩
  have HR1 := Lib.hid hr; have HG1 := Lib.hid hg; clear hr hg H
  go_wp2_with fail
  refine (pickB _ b _ _ HR1.out (by omega) (by omega) (by omega)).mono ?_; rintro e w3 ⟨c, rfl, c0, c1, hr, hg⟩
  have HR3 := Lib.hid hr; have HG3 := Lib.hid (HG1.out.trans hg); clear hr hg HR1 HG1
  obtain ⟨m, rfl⟩ := Int.eq_ofNat_of_zero_le d0
  have hm := nP4 (d := m + 1) (by omega)
  have hm1 : (1 + (m : Int)) = ((m + 1 : Nat) : Int) := by omega
  have HC : Hid (∀ cnt, Calls Tryz.prog 107 #[.pointer (some ⟨b, 0, none⟩), .int .i64 (1 + (m : Int)), .string ⟨#[97, 98, 99]⟩, .bool cnt] w3 (TxtN b (K + 1 + 1 + nP (m + 1)) (tP (m + 1)) w3)) := by
    intro cnt
    rw [hm1]
    exact l2Draw_any b ⟨#[97, 98, 99]⟩ cnt (by decide) (by decide) (m + 1) (by omega) w3 _ HR3.out (by omega)
  clear hm1
  generalize nP (m + 1) = N at *
  generalize tP (m + 1) = M at *
  go_wp2_with fail
  refine (HC.out _).mono ?_; rintro e w4 ⟨f, f1, f2, rfl, hr, hg⟩
  have HR4 := Lib.hid hr; have HG4 := Lib.hid (HG3.out.trans hg); clear hr hg HR3 HG3 HC
  have HFV := Lib.hid (fun w => FreeVars_any f (by omega) w)
  go_wp2_with fail
  refine (HFV.out _).mono ?_; rintro _ w2 ⟨⟨fr, h4, rfl⟩, hw2⟩; rw [hw2]; clear hw2 w2 HFV
  have HFI := Lib.hid (fun c w => l15FindP_any fr c w (by omega))
  go_wp2_with fail
  go_loopw [8, 6] (fun q v wr => ∃ i : Nat, 1 ≤ i ∧ i ≤ 3 ∧ q = .int .i64 (i : Int) ∧ ∃ t : ByteArray, 1 ≤ t.size ∧ t.size ≤ 63 + 2 * i ∧ v = .string t ∧ Hid (RdB wr b (K + 250 + i) ∧ w.grownBy wr (some b))) (fun q _ _ => 3 - (intOf q).toNat)
  case atStart => exact ⟨wd, by omega, by omega, rfl, f, f1, by omega, rfl, HR4.out.mono (by omega), HG4.out⟩
  case round =>
    obtain ⟨i, hi1, hi, rfl, t, t1, t2, rfl, HI⟩ := hrel
    clear HR4 HG4
    rcases (by omega : i = 1 ∨ i = 2 ∨ i = 3) with rfl | rfl | rfl
    · have HRD := Lib.hid (rdB_bel HI.out.1 (Below.refl wr.heap.size wr).drew)
      have HX : Hid (∀ (o : ByteArray) wz, o.size ≤ 1 → 1 ≤ o.size → RdB wz b (K + 250 + 1 + 1) → wr.drew.grownBy wz (some b) → ∃ j : Nat, 1 ≤ j ∧ j ≤ 3 ∧ Value.int IntKind.i64 2 = .int .i64 (j : Int) ∧ ∃ t' : ByteArray, 1 ≤ t'.size ∧ t'.size ≤ 63 + 2 * j ∧ Value.string (o ++ ⟨#[98]⟩ ++ t) = Value.string t' ∧ Hid (RdB wz b (K + 250 + j) ∧ w.grownBy wz (some b))) :=
        fun o wz h1 h0 h2 h3 => ⟨2, by omega, by omega, rfl, _, by rw [ByteArray.size_append]; have : (⟨#[98]⟩ : ByteArray).size = 1 := rfl; omega, by rw [ByteArray.size_append, ByteArray.size_append]; have : (⟨#[98]⟩ : ByteArray).size = 1 := rfl; omega, rfl, h2, HI.out.2.trans ((grown_drewF wr).trans h3)⟩
      have HF := Lib.hid (fun w => HFI.out 98 w)
      obtain ⟨P, hP⟩ : ∃ P, posB 98 fr.data.toList 0 = P := ⟨_, rfl⟩
      rw [hP] at HF
      clear hP HFI
      go_wp2_with fail
      refine (HF.out _).mono ?_; rintro _ w5 ⟨rfl, hw5⟩; rw [hw5]; clear hw5 w5
      by_cases hc : 0 ≤ P
      · go_wp2_with fail
        go_region_with (first | (go_at_call 106; refine (of_ne wr.drew b _ 1 [⟨#[83]⟩, ⟨#[65]⟩] _ HRD.out (by omega) (by decide) (by decide) (by intro x hx; simp at hx; rcases hx with rfl | rfl <;> decide)).mono ?_; rintro e wz ⟨o, o1, o2, rfl, hr, hg⟩; have HQ := Lib.hid (HX.out o wz o2 o1 hr hg); clear hr hg))
        all_goals
          go_wp2_with fail
          go_roundw
          case rel => exact HQ.out
          case measure => simp [intOf]
      · go_wp2_with fail
        go_roundw
        case rel => exact ⟨2, by omega, by omega, rfl, t, t1, by omega, rfl, HI.out.1.mono (by omega), HI.out.2⟩
        case measure => simp [intOf]
    · have HRD := Lib.hid (rdB_bel HI.out.1 (Below.refl wr.heap.size wr).drew)
      have HX : Hid (∀ (o : ByteArray) wz, o.size ≤ 1 → 1 ≤ o.size → RdB wz b (K + 250 + 2 + 1) → wr.drew.grownBy wz (some b) → ∃ j : Nat, 1 ≤ j ∧ j ≤ 3 ∧ Value.int IntKind.i64 3 = .int .i64 (j : Int) ∧ ∃ t' : ByteArray, 1 ≤ t'.size ∧ t'.size ≤ 63 + 2 * j ∧ Value.string (o ++ ⟨#[99]⟩ ++ t) = Value.string t' ∧ Hid (RdB wz b (K + 250 + j) ∧ w.grownBy wz (some b))) :=
        fun o wz h1 h0 h2 h3 => ⟨3, by omega, by omega, rfl, _, by rw [ByteArray.size_append]; have : (⟨#[99]⟩ : ByteArray).size = 1 := rfl; omega, by rw [ByteArray.size_append, ByteArray.size_append]; have : (⟨#[99]⟩ : ByteArray).size = 1 := rfl; omega, rfl, h2, HI.out.2.trans ((grown_drewF wr).trans h3)⟩
      have HF := Lib.hid (fun w => HFI.out 99 w)
      obtain ⟨P, hP⟩ : ∃ P, posB 99 fr.data.toList 0 = P := ⟨_, rfl⟩
      rw [hP] at HF
      clear hP HFI
      go_wp2_with fail
      refine (HF.out _).mono ?_; rintro _ w5 ⟨rfl, hw5⟩; rw [hw5]; clear hw5 w5
      by_cases hc : 0 ≤ P
      · go_wp2_with fail
        go_region_with (first | (go_at_call 106; refine (of_ne wr.drew b _ 1 [⟨#[83]⟩, ⟨#[65]⟩] _ HRD.out (by omega) (by decide) (by decide) (by intro x hx; simp at hx; rcases hx with rfl | rfl <;> decide)).mono ?_; rintro e wz ⟨o, o1, o2, rfl, hr, hg⟩; have HQ := Lib.hid (HX.out o wz o2 o1 hr hg); clear hr hg))
        all_goals
          go_wp2_with fail
          go_roundw
          case rel => exact HQ.out
          case measure => simp [intOf]
      · go_wp2_with fail
        go_roundw
        case rel => exact ⟨3, by omega, by omega, rfl, t, t1, by omega, rfl, HI.out.1.mono (by omega), HI.out.2⟩
        case measure => simp [intOf]
    · have HQ : Hid (TxtN b (K + 260) 69 w (.returned (.string t)) wr) := ⟨t, t1, by omega, rfl, HI.out.1.mono (by omega), HI.out.2⟩
      clear HI
      go_wp2_with fail
      go_ret
      exact HQ.out

/-- Two texts that are drawn. -/
def DrawTT (n m : Nat) (w : World) (e : Ending) (w' : World) : Prop := ∃ (t u : ByteArray), t.size ≤ n ∧ u.size ≤ m ∧ e = .returned (.tuple #[.string t, .string u]) ∧ Below w.heap.size w w'
/-- A structure and a text that are drawn. -/
def DrawSF (k : Nat) (w : World) (e : Ending) (w' : World) : Prop := ∃ (n : Int) (S R f : ByteArray), -1 ≤ n ∧ n ≤ 9223372036854775807 ∧ S.size ≤ 10 ∧ R.size ≤ 100 ∧ f.size ≤ k ∧ e = .returned (.tuple #[strV n S R, .string f]) ∧ Below w.heap.size w w'
/-- The reader, the result's box and the drawn structure's box. -/
structure Dv (w : World) (b K x : Nat) (n : Int) (S R : ByteArray) (wr : World) : Prop where
  rd : RdB wr b K
  res : SBlk wr w.heap.size 0 ⟨#[]⟩ ⟨#[]⟩
  a : SBlk wr x n S R
  ne : w.heap.size < b ∧ b < x
  old : Below w.heap.size w wr
section
variable {w : World} {b K K' x : Nat} {n : Int} {S R : ByteArray} {wr w' : World}
theorem Dv.pick (h : Dv w b K x n S R wr) (hr : RdB w' b K') (hg : wr.grownBy w' (some b)) : Dv w b K' x n S R w' := by
  have l1 := h.res.cells.2.2.2.2.2.2
  have l2 := h.a.cells.2.2.2.2.2.2
  obtain ⟨n1, n2⟩ := h.ne
  exact ⟨hr, (hg.block w.heap.size l1 (by intro e; injection e; omega)).trans h.res, (hg.block x l2 (by intro e; injection e; omega)).trans h.a, h.ne, below_of_grown h.old (by omega) hg⟩
theorem Dv.drew (h : Dv w b K x n S R wr) : Dv w b K x n S R wr.drew := ⟨rdB_drew h.rd, h.res.drew, h.a.drew, h.ne, h.old.drew⟩
end
/-- The beginning of a draw of a structure and formulas. -/
theorem Dv.first {w w1 w2 : World} {K : Nat} {m : Int} {T U : ByteArray} (hz : w.heap.size + 1 ≤ w1.heap.size) (hw1 : Below w.heap.size w w1) (hx : SBlk w1 w.heap.size 0 ⟨#[]⟩ ⟨#[]⟩) (b : Nat) (hb : w.heap.size < b) (hr : RdB w2 b K) (hg : w1.grownBy w2 (some b)) :
    Dv w b K w2.heap.size m T U (w2.alloc (.cells #[.int .i64 m, .string T, .string U] 24)) := by
  have hal : Below w2.heap.size w2 (w2.alloc (.cells #[.int .i64 m, .string T, .string U] 24)) := (Below.refl _ _).alloc (Nat.le_refl _) _
  have hlt := hx.cells.2.2.2.2.2.2
  have hx2 : SBlk w2 w.heap.size 0 ⟨#[]⟩ ⟨#[]⟩ := (hg.block w.heap.size hlt (by intro e; injection e; omega)).trans hx
  have hb2 := below_of_grown hw1 (by omega) hg
  exact ⟨rdB_bel hr hal, hx2.below hal hx2.cells.2.2.2.2.2.2, SBlk.new w2 m T U, ⟨hb, hr.block⟩, hb2.trans (hal.mono hb2.size)⟩
end Go.Proofs.YtjepegkbbbebkaaGreatDoor
/- The draws of views: DrawInterpret, DrawPullBack, DrawComposeViews. Condition: the bytes are readable. -/
namespace Go.Proofs.YtjepegkbbbebkaaGreatDoor
open Go.RowKit
set_option linter.unusedVariables false
set_option maxRecDepth 100000

theorem results_cell_tmp2 {fn : Func} {p u x : Tmp} {ty : TypeId} (h : fn.results = #[.cell p ty, .tmp u, .tmp x]) (tmps : Array Value) (P : Program) (w : World) :
    (results fn tmps).run P w =
      ((asAddr (tmps.getD p undef)).run P w).andThen fun a w₁ => ((loadVar ty a).run P w₁).andThen fun v w₂ => .ok (.tuple #[v, tmps.getD u undef, tmps.getD x undef]) w₂ := by
  simp only [results, h]
  simp [Sem.run_bind, Result.andThen]
/-- Three results: a structure in a variable, and two others. -/
theorem results_str3 {fn : Func} {p u x : Tmp} (h : fn.results = #[.cell p 24, .tmp u, .tmp x]) {tmps : Array Value} {w : World} {b : Nat} {n : Int} {S R : ByteArray} {v z : Value} (hp : tmps.getD p undef = .pointer (some ⟨b, 0, none⟩)) (hb : SBlk w b n S R) (hu : tmps.getD u undef = v) (hx : tmps.getD x undef = z) :
    (results fn tmps).run Tryz.prog w = .ok (.tuple #[strV n S R, v, z]) w := by
  rw [results_cell_tmp2 h, hp, hu, hx]
  have hl := run_loadVar_row (P := Tryz.prog) w b 24 24 #[.int .i64 n, .string S, .string R] (0, 0) _ hb Tryz.underlying24 rfl strInfo
  simp [asAddr, Result.andThen, hl, strV]
/-- A structure and two texts that are drawn. -/
def DrawSFF (w : World) (e : Ending) (w' : World) : Prop := ∃ (n : Int) (S R f g : ByteArray), -1 ≤ n ∧ n ≤ 9223372036854775807 ∧ S.size ≤ 10 ∧ R.size ≤ 100 ∧ f.size ≤ 70 ∧ g.size ≤ 70 ∧ e = .returned (.tuple #[strV n S R, .string f, .string g]) ∧ Below w.heap.size w w'
set_option maxHeartbeats 4000000 in
theorem DrawInterpret_any (w : World) (a : Option Addr) (len cap : Nat) (zs : List Int) (h : IsRow .u8 w a len cap zs) :
    Calls Tryz.prog 17 #[.slice a len cap] w (DrawSFF w) := by
  have HB0 : Hid (Below w.heap.size w (w.alloc (.cells #[.int .i64 0, .string ⟨#[]⟩, .string ⟨#[]⟩] 24))) := (Below.refl _ _).alloc (Nat.le_refl _) _
  have HB1 : Hid (SBlk (w.alloc (.cells #[.int .i64 0, .string ⟨#[]⟩, .string ⟨#[]⟩] 24)) w.heap.size 0 ⟨#[]⟩ ⟨#[]⟩) := SBlk.new w 0 ⟨#[]⟩ ⟨#[]⟩
  have H := Lib.hid (h.below HB0.out); clear h
  have hz : (w.alloc (.cells #[.int .i64 0, .string ⟨#[]⟩, .string ⟨#[]⟩] 24)).heap.size = w.heap.size + 1 := by simp
  have HZ := Lib.hid hz; clear hz
  obtain ⟨W, hW⟩ : ∃ W, w.alloc (.cells #[.int .i64 0, .string ⟨#[]⟩, .string ⟨#[]⟩] 24) = W := ⟨_, rfl⟩
  rw [hW] at HB0 HB1 H HZ
  have HW := Lib.hid hW; clear hW
  go_enter Tryz.func17, Tryz.ntmps17
  go_upto_region 1 with fail
  rw [HW.out]
  go_wp2_with fail
  refine (l15Open_any _ _ _ _ _ H.out).mono ?_; rintro e w1 ⟨rfl, hr, hb, hs⟩
  have HR1 := Lib.hid hr
  have HBL1 := Lib.hid (HB0.out.trans (hb.mono HB0.out.size))
  have HX1 : Hid (SBlk w1 w.heap.size 0 ⟨#[]⟩ ⟨#[]⟩) := HB1.out.below hb HB1.out.cells.2.2.2.2.2.2
  have hlt : w.heap.size < W.heap.size := by rw [HZ.out]; omega
  have HZ1 : Hid (w.heap.size + 1 ≤ w1.heap.size) := by have := hb.size; have := HZ.out; show _ ≤ _; omega
  clear hr hb hs
  generalize W.heap.size = B at *
  go_wp2_with fail
  refine (l1Open_any B _ w1 HR1.out (by omega)).mono ?_; rintro e w2 ⟨m, T, U, m0, m1, hT, hU, rfl, hr, hg⟩
  have HD := Lib.hid (Dv.first (m := m) (T := T) (U := U) HZ1.out HBL1.out HX1.out B hlt hr hg)
  clear hr hg
  unfold strV
  go_upto_region 3 with fail
  obtain ⟨W3, hW3⟩ : ∃ W3, w2.alloc (.cells #[.int .i64 m, .string T, .string U] 24) = W3 := ⟨_, rfl⟩
  rw [hW3] at HD ⊢
  generalize w2.heap.size = X at *
  clear hW3
  go_wp2_with fail
  refine (l11Draw_any B _ 1 (by omega) W3 HD.out.rd (by omega)).mono ?_; rintro e w4 ⟨f, f1, f2, rfl, hr, hg⟩
  have HD4 := Lib.hid (HD.out.pick hr hg); clear hr hg
  go_wp2_with fail
  refine (l2Bad_any B 69 f f1 f2 (by omega) w4 _ HD4.out.rd (by omega)).mono ?_; rintro e w5 ⟨g, gz, rfl, hr, hg⟩
  have HD5 := Lib.hid (HD4.out.pick hr hg); clear hr hg
  go_wp2_with fail
  refine (pickB _ B _ _ HD5.out.rd (by omega) (by omega) (by omega)).mono ?_; rintro e w6 ⟨d, rfl, d0, d1, hr, hg⟩
  have HD6 := Lib.hid (HD5.out.pick hr hg); clear hr hg HD5 HD4 HD
  obtain ⟨a0, a1, a2, k0, k1, k2, hac⟩ := HD6.out.a.cells
  obtain ⟨b0, b1, b2, g0, g1, g2, hbc⟩ := HD6.out.res.cells
  by_cases hd : d = 0
  · subst hd
    go_wp2_with fail
    go_region_with (first
      | (go_at_call 54; refine (l2Open_any B _ w6.drew HD6.out.drew.rd (by omega)).mono ?_; rintro e w7 ⟨u, uz, rfl, hr, hg⟩; have HD7 := Lib.hid (HD6.out.drew.pick hr hg); clear hr hg; obtain ⟨a0', a1', a2', k0', k1', k2', hac'⟩ := HD7.out.a.cells; obtain ⟨b0', b1', b2', g0', g1', g2', hbc'⟩ := HD7.out.res.cells))
    all_goals
      have HP : Hid (DrawSFF w (.returned (.tuple #[strV m T U, .string u, .string ⟨#[69, 97, 98]⟩])) (((w7.setCell ⟨w.heap.size, 0, none⟩ (.int .i64 m)).setCell ⟨w.heap.size, 1, none⟩ (.string T)).setCell ⟨w.heap.size, 2, none⟩ (.string U))) :=
        ⟨m, T, U, u, _, m0, m1, hT, hU, by omega, by decide, rfl, ((HD7.out.old.setCell (Nat.le_refl _) _).setCell (Nat.le_refl _) _).setCell (Nat.le_refl _) _⟩
      go_wp2_with fail
      refine bodyPost_ret (v := .tuple #[strV m T U, .string u, .string ⟨#[69, 97, 98]⟩]) ?_ rfl HP.out
      exact results_str3 rfl rfl HD7.out.res.set3 rfl rfl
  · have hdB : (d == 0) = false := by simpa using hd
    go_wp2_with fail
    go_region_with (first
      | (go_at_call 52; refine (l11Draw_any B _ 2 (by omega) w6.drew HD6.out.drew.rd (by omega)).mono ?_; rintro e w7 ⟨u, u1, u2, rfl, hr, hg⟩; have HD7 := Lib.hid (HD6.out.drew.pick hr hg); clear hr hg; obtain ⟨a0', a1', a2', k0', k1', k2', hac'⟩ := HD7.out.a.cells; obtain ⟨b0', b1', b2', g0', g1', g2', hbc'⟩ := HD7.out.res.cells)
      | (go_at_call 51; refine (l2Bad_any B 69 u u1 u2 (by omega) w7 _ HD7.out.rd (by omega)).mono ?_; rintro e w8 ⟨x, xz, rfl, hr, hg⟩; have HD8 := Lib.hid (HD7.out.pick hr hg); clear hr hg; obtain ⟨a0'', a1'', a2'', k0'', k1'', k2'', hac''⟩ := HD8.out.a.cells; obtain ⟨b0'', b1'', b2'', g0'', g1'', g2'', hbc''⟩ := HD8.out.res.cells))
    all_goals
      have HP : Hid (DrawSFF w (.returned (.tuple #[strV m T U, .string g, .string x])) (((w8.setCell ⟨w.heap.size, 0, none⟩ (.int .i64 m)).setCell ⟨w.heap.size, 1, none⟩ (.string T)).setCell ⟨w.heap.size, 2, none⟩ (.string U))) :=
        ⟨m, T, U, g, x, m0, m1, hT, hU, gz, xz, rfl, ((HD8.out.old.setCell (Nat.le_refl _) _).setCell (Nat.le_refl _) _).setCell (Nat.le_refl _) _⟩
      go_wp2_with fail
      refine bodyPost_ret (v := .tuple #[strV m T U, .string g, .string x]) ?_ rfl HP.out
      exact results_str3 rfl rfl HD8.out.res.set3 rfl rfl
/-- Three texts that are drawn. -/
def DrawTTT (w : World) (e : Ending) (w' : World) : Prop := ∃ (t u v : ByteArray), t.size ≤ 70 ∧ u.size ≤ 70 ∧ v.size ≤ 70 ∧ e = .returned (.tuple #[.string t, .string u, .string v]) ∧ Below w.heap.size w w'
/-- Four texts that are drawn. -/
def Draw4T (w : World) (e : Ending) (w' : World) : Prop := ∃ (t u v x : ByteArray), t.size ≤ 70 ∧ u.size ≤ 70 ∧ v.size ≤ 70 ∧ x.size ≤ 70 ∧ e = .returned (.tuple #[.string t, .string u, .string v, .string x]) ∧ Below w.heap.size w w'
theorem results_t4 {fn : Func} {t u v x : Tmp} (h : fn.results = #[.tmp t, .tmp u, .tmp v, .tmp x]) (tmps : Array Value) (P : Program) (w : World) :
    (results fn tmps).run P w = .ok (.tuple #[tmps.getD t undef, tmps.getD u undef, tmps.getD v undef, tmps.getD x undef]) w := by
  simp [results, h]
end Go.Proofs.YtjepegkbbbebkaaGreatDoor
namespace Go.Proofs.YtjepegkbbbebkaaGreatDoor
open Go.RowKit
set_option linter.unusedVariables false
set_option maxRecDepth 100000

theorem rowLen49 {k : IntKind} {w : World} {a : Option Addr} {len cap : Nat} {zs : List Int} (h : IsRow k w a len cap zs) : len ≤ maxLen := by
  rcases h with ⟨_, h, _⟩ | ⟨_, _, h1, h2, _⟩
  · rw [h]; decide
  · omega
set_option maxHeartbeats 4000000 in
theorem fnViewGames_walk (a0 : Option Addr) (len0 cap0 : Nat) (z0 : List Int) (a1 : Option Addr) (len1 cap1 : Nat) (z1 : List Int) (w : World) (w0 : IsRow .u8 w a0 len0 cap0 z0) (w1 : IsRow .u8 w a1 len1 cap1 z1) :
    Calls Tryz.prog 4 #[.slice a0 len0 cap0, .slice a1 len1 cap1] w fun e w' => e = .returned (.bool true) ∧ Below w.heap.size w w' := by
  have m0 := rowLen49 w0
  have m1 := rowLen49 w1
  unfold maxLen at m0 m1
  have W0 := Lib.hid w0; have W1 := Lib.hid w1; clear w0 w1
  by_cases l0 : (len0 : Int) ≤ 1048576
  · by_cases l1 : (len1 : Int) ≤ 1048576
    · go_enter Tryz.func4, Tryz.ntmps4
      go_wp2_with fail
      refine (DrawSecondWins_any _ _ _ _ _ W0.out).mono ?_; rintro e w1 ⟨n, m, r, S, R, T, U, v, u, L, M, hn, hm, hS, hR, hT, hU, hr9, rfl, ha, hc, hb⟩
      have hal : Below w1.heap.size w1 (w1.alloc (.cells #[.int .i64 n, .string S, .string R] 24)) := (Below.refl _ _).alloc (Nat.le_refl _) _
      have hal2 : Below (w1.alloc (.cells #[.int .i64 n, .string S, .string R] 24)).heap.size (w1.alloc (.cells #[.int .i64 n, .string S, .string R] 24)) ((w1.alloc (.cells #[.int .i64 n, .string S, .string R] 24)).alloc (.cells #[.int .i64 m, .string T, .string U] 24)) := (Below.refl _ _).alloc (Nat.le_refl _) _
      have hnw := SBlk.new (w1.alloc (.cells #[.int .i64 n, .string S, .string R] 24)) m T U
      rw [World.size_alloc] at hnw
      have hnx := (SBlk.new w1 n S R).below hal2 (by simp)
      have hb2 := (hb.trans (hal.mono hb.size)).trans (hal2.mono (by have := hb.size; simp; omega))
      have hv2 := (ha.below hal).below hal2
      have hu2 := (hc.below hal).below hal2
      obtain ⟨W2, hW2⟩ : ∃ W, (w1.alloc (.cells #[.int .i64 n, .string S, .string R] 24)).alloc (.cells #[.int .i64 m, .string T, .string U] 24) = W := ⟨_, rfl⟩
      rw [hW2] at hnw hnx hb2 hv2 hu2
      have HB2 := Lib.hid hb2
      have HXa2 : Hid (SBlk W2 w1.heap.size n S R) := hnx
      have HXb2 : Hid (SBlk W2 (w1.heap.size + 1) m T U) := hnw
      have HNv2 := Lib.hid hv2
      have HNu2 := Lib.hid hu2
      have HW2 := Lib.hid hW2
      clear ha hc hb hal hal2 hnw hnx hb2 hv2 hu2 hW2
      have HI := Lib.hid (fun w ha hb => implSecond_ints n S R m T U L M v u r w (by omega) (by omega) (by omega) (by omega) ha hb)
      have HS := Lib.hid (fun w ha hb => specSecond_ints n S R m T U L M v u r w hn hm (by omega) (by omega) (by omega) (by omega) ha hb)
      obtain ⟨SB, hsb⟩ : ∃ b, seB n S R m T U L M r = b := ⟨_, rfl⟩
      rw [hsb] at HI HS
      have HSB := Lib.hid hsb
      unfold BoolB at HS
      unfold strV at HI HS ⊢
      clear hsb
      go_upto_region 4 with fail
      rw [HW2.out]
      clear HW2
      generalize w1.heap.size = xa at *
      obtain ⟨ca0, ca1, ca2, fa0, fa1, fa2, ba⟩ := HXa2.out.cells
      obtain ⟨cb0, cb1, cb2, fb0, fb1, fb2, bb⟩ := HXb2.out.cells
      go_wp2_with fail
      refine (HI.out _ HNv2.out HNu2.out).mono ?_; rintro e w3 ⟨rfl, hb⟩
      have HB3 := Lib.hid (HB2.out.trans (hb.mono HB2.out.size))
      have HXa3 := Lib.hid (HXa2.out.below hb HXa2.out.cells.2.2.2.2.2.2)
      have HXb3 := Lib.hid (HXb2.out.below hb HXb2.out.cells.2.2.2.2.2.2)
      have HNv3 := Lib.hid (HNv2.out.below hb)
      have HNu3 := Lib.hid (HNu2.out.below hb)
      clear hb
      clear ca0 ca1 ca2 fa0 fa1 fa2 ba cb0 cb1 cb2 fb0 fb1 fb2 bb
      go_wp2_with fail
      refine (DrawInterpret_any _ _ _ _ _ (W1.out.below HB3.out)).mono ?_; rintro e w4 ⟨n', S', R', f, g, _, _, hS', hR', fz, gz, rfl, hb⟩
      have HB4 := Lib.hid (HB3.out.trans (hb.mono HB3.out.size))
      have HXa4 := Lib.hid (HXa3.out.below hb HXa3.out.cells.2.2.2.2.2.2)
      have HXb4 := Lib.hid (HXb3.out.below hb HXb3.out.cells.2.2.2.2.2.2)
      have HNv4 := Lib.hid (HNv3.out.below hb)
      have HNu4 := Lib.hid (HNu3.out.below hb)
      clear hb HI
      unfold strV
      have hal : Below w4.heap.size w4 (w4.alloc (.cells #[.int .i64 n', .string S', .string R'] 24)) := (Below.refl _ _).alloc (Nat.le_refl _) _
      have HB5 := Lib.hid (HB4.out.trans (hal.mono HB4.out.size))
      have HXa5 := Lib.hid (HXa4.out.below hal HXa4.out.cells.2.2.2.2.2.2)
      have HXb5 := Lib.hid (HXb4.out.below hal HXb4.out.cells.2.2.2.2.2.2)
      have HNv5 := Lib.hid (HNv4.out.below hal)
      have HNu5 := Lib.hid (HNu4.out.below hal)
      have HXc5 : Hid (SBlk (w4.alloc (.cells #[.int .i64 n', .string S', .string R'] 24)) w4.heap.size n' S' R') := SBlk.new w4 n' S' R'
      clear hal
      obtain ⟨ca0, ca1, ca2, fa0, fa1, fa2, ba⟩ := HXa5.out.cells
      obtain ⟨cb0, cb1, cb2, fb0, fb1, fb2, bb⟩ := HXb5.out.cells
      go_wp2_with fail
      cases SB with
      | false =>
        refine (HS.out _ HNv5.out HNu5.out).mono ?_; rintro e w6 ⟨rfl, hb⟩
        have HB6 := Lib.hid (HB5.out.trans (hb.mono HB5.out.size))
        have HXa6 := Lib.hid (HXa5.out.below hb HXa5.out.cells.2.2.2.2.2.2)
        have HXb6 := Lib.hid (HXb5.out.below hb HXb5.out.cells.2.2.2.2.2.2)
        have HXc6 := Lib.hid (HXc5.out.below hb HXc5.out.cells.2.2.2.2.2.2)
        have HNv6 := Lib.hid (HNv5.out.below hb)
        have HNu6 := Lib.hid (HNu5.out.below hb)
        clear hb
        clear ca0 ca1 ca2 fa0 fa1 fa2 ba cb0 cb1 cb2 fb0 fb1 fb2 bb
        obtain ⟨ca0, ca1, ca2, fa0, fa1, fa2, ba⟩ := HXa6.out.cells
        obtain ⟨cb0, cb1, cb2, fb0, fb1, fb2, bb⟩ := HXb6.out.cells
        go_wp2_with fail
        refine (HS.out _ HNv6.out HNu6.out).mono ?_; rintro e w7 ⟨rfl, hb⟩
        have HB7 := Lib.hid (HB6.out.trans (hb.mono HB6.out.size))
        have HXa7 := Lib.hid (HXa6.out.below hb HXa6.out.cells.2.2.2.2.2.2)
        have HXb7 := Lib.hid (HXb6.out.below hb HXb6.out.cells.2.2.2.2.2.2)
        have HXc7 := Lib.hid (HXc6.out.below hb HXc6.out.cells.2.2.2.2.2.2)
        have HNv7 := Lib.hid (HNv6.out.below hb)
        have HNu7 := Lib.hid (HNu6.out.below hb)
        clear hb
        clear ca0 ca1 ca2 fa0 fa1 fa2 ba cb0 cb1 cb2 fb0 fb1 fb2 bb
        go_wp2_with fail
        go_ret
        exact ⟨rfl, HB7.out⟩
      | true =>
        refine (HS.out _ HNv5.out HNu5.out).mono ?_; rintro e w6 ⟨rfl, hb⟩
        have HB6 := Lib.hid (HB5.out.trans (hb.mono HB5.out.size))
        have HXa6 := Lib.hid (HXa5.out.below hb HXa5.out.cells.2.2.2.2.2.2)
        have HXb6 := Lib.hid (HXb5.out.below hb HXb5.out.cells.2.2.2.2.2.2)
        have HXc6 := Lib.hid (HXc5.out.below hb HXc5.out.cells.2.2.2.2.2.2)
        have HNv6 := Lib.hid (HNv5.out.below hb)
        have HNu6 := Lib.hid (HNu5.out.below hb)
        clear hb
        clear ca0 ca1 ca2 fa0 fa1 fa2 ba cb0 cb1 cb2 fb0 fb1 fb2 bb
        obtain ⟨a, b, rfl, rfl, va, vb, r0, r3⟩ := se_valid HSB.out
        have HIA := Lib.hid (fun w => implInterpret_yes f g (by omega) (by omega) a S R va w)
        have HIB := Lib.hid (fun w => implInterpret_yes f g (by omega) (by omega) b T U vb w)
        have HRF := Lib.hid (fun w => RankOf_any f w (by omega))
        have HRG := Lib.hid (fun w => RankOf_any g w (by omega))
        obtain ⟨b5, b6⟩ := rankV_bound f
        obtain ⟨b7, b8⟩ := rankV_bound g
        clear HS
        cases hvw : viewB f g with
        | none =>
          rw [intRes_none hvw] at HIA HIB
          unfold strV at HIA HIB
          generalize rankV f = rf at *
          generalize rankV g = rg at *
          clear hvw HSB
          obtain ⟨ca0, ca1, ca2, fa0, fa1, fa2, ba⟩ := HXa6.out.cells
          obtain ⟨cb0, cb1, cb2, fb0, fb1, fb2, bb⟩ := HXb6.out.cells
          go_wp2_with fail
          refine (HIA.out _).mono ?_; rintro e w7 ⟨rfl, hb⟩
          have HB7 := Lib.hid (HB6.out.trans (hb.mono HB6.out.size))
          have HXa7 := Lib.hid (HXa6.out.below hb HXa6.out.cells.2.2.2.2.2.2)
          have HXb7 := Lib.hid (HXb6.out.below hb HXb6.out.cells.2.2.2.2.2.2)
          have HXc7 := Lib.hid (HXc6.out.below hb HXc6.out.cells.2.2.2.2.2.2)
          have HNv7 := Lib.hid (HNv6.out.below hb)
          have HNu7 := Lib.hid (HNu6.out.below hb)
          clear hb
          clear ca0 ca1 ca2 fa0 fa1 fa2 ba cb0 cb1 cb2 fb0 fb1 fb2 bb
          obtain ⟨ca0, ca1, ca2, fa0, fa1, fa2, ba⟩ := HXa7.out.cells
          obtain ⟨cb0, cb1, cb2, fb0, fb1, fb2, bb⟩ := HXb7.out.cells
          have hal : Below w7.heap.size w7 (w7.alloc (.cells #[.int .i64 0, .string ByteArray.empty, .string ByteArray.empty] 24)) := (Below.refl _ _).alloc (Nat.le_refl _) _
          have HB8 := Lib.hid (HB7.out.trans (hal.mono HB7.out.size))
          have HXa8 := Lib.hid (HXa7.out.below hal HXa7.out.cells.2.2.2.2.2.2)
          have HXb8 := Lib.hid (HXb7.out.below hal HXb7.out.cells.2.2.2.2.2.2)
          have HXc8 := Lib.hid (HXc7.out.below hal HXc7.out.cells.2.2.2.2.2.2)
          have HNv8 := Lib.hid (HNv7.out.below hal)
          have HNu8 := Lib.hid (HNu7.out.below hal)
          have HXd8 : Hid (SBlk (w7.alloc (.cells #[.int .i64 0, .string ByteArray.empty, .string ByteArray.empty] 24)) w7.heap.size 0 ByteArray.empty ByteArray.empty) := SBlk.new w7 0 ByteArray.empty ByteArray.empty
          clear hal
          clear ca0 ca1 ca2 fa0 fa1 fa2 ba cb0 cb1 cb2 fb0 fb1 fb2 bb
          obtain ⟨ca0, ca1, ca2, fa0, fa1, fa2, ba⟩ := HXa8.out.cells
          obtain ⟨cb0, cb1, cb2, fb0, fb1, fb2, bb⟩ := HXb8.out.cells
          go_wp2_with fail
          refine (HIB.out _).mono ?_; rintro e w9 ⟨rfl, hb⟩
          have HB9 := Lib.hid (HB8.out.trans (hb.mono HB8.out.size))
          have HXa9 := Lib.hid (HXa8.out.below hb HXa8.out.cells.2.2.2.2.2.2)
          have HXb9 := Lib.hid (HXb8.out.below hb HXb8.out.cells.2.2.2.2.2.2)
          have HXc9 := Lib.hid (HXc8.out.below hb HXc8.out.cells.2.2.2.2.2.2)
          have HXd9 := Lib.hid (HXd8.out.below hb HXd8.out.cells.2.2.2.2.2.2)
          have HNv9 := Lib.hid (HNv8.out.below hb)
          have HNu9 := Lib.hid (HNu8.out.below hb)
          clear hb
          clear ca0 ca1 ca2 fa0 fa1 fa2 ba cb0 cb1 cb2 fb0 fb1 fb2 bb
          have hal : Below w9.heap.size w9 (w9.alloc (.cells #[.int .i64 0, .string ByteArray.empty, .string ByteArray.empty] 24)) := (Below.refl _ _).alloc (Nat.le_refl _) _
          have HB10 := Lib.hid (HB9.out.trans (hal.mono HB9.out.size))
          have HXa10 := Lib.hid (HXa9.out.below hal HXa9.out.cells.2.2.2.2.2.2)
          have HXb10 := Lib.hid (HXb9.out.below hal HXb9.out.cells.2.2.2.2.2.2)
          have HXc10 := Lib.hid (HXc9.out.below hal HXc9.out.cells.2.2.2.2.2.2)
          have HXd10 := Lib.hid (HXd9.out.below hal HXd9.out.cells.2.2.2.2.2.2)
          have HNv10 := Lib.hid (HNv9.out.below hal)
          have HNu10 := Lib.hid (HNu9.out.below hal)
          have HXe10 : Hid (SBlk (w9.alloc (.cells #[.int .i64 0, .string ByteArray.empty, .string ByteArray.empty] 24)) w9.heap.size 0 ByteArray.empty ByteArray.empty) := SBlk.new w9 0 ByteArray.empty ByteArray.empty
          clear hal
          go_wp2_with fail
          refine (HRF.out _).mono ?_; rintro e w11 ⟨rfl, hb⟩
          have HB11 := Lib.hid (HB10.out.trans (hb.mono HB10.out.size))
          have HXa11 := Lib.hid (HXa10.out.below hb HXa10.out.cells.2.2.2.2.2.2)
          have HXb11 := Lib.hid (HXb10.out.below hb HXb10.out.cells.2.2.2.2.2.2)
          have HXc11 := Lib.hid (HXc10.out.below hb HXc10.out.cells.2.2.2.2.2.2)
          have HXd11 := Lib.hid (HXd10.out.below hb HXd10.out.cells.2.2.2.2.2.2)
          have HXe11 := Lib.hid (HXe10.out.below hb HXe10.out.cells.2.2.2.2.2.2)
          have HNv11 := Lib.hid (HNv10.out.below hb)
          have HNu11 := Lib.hid (HNu10.out.below hb)
          clear hb
          go_wp2_with fail
          refine (HRG.out _).mono ?_; rintro e w12 ⟨rfl, hb⟩
          have HB12 := Lib.hid (HB11.out.trans (hb.mono HB11.out.size))
          have HXa12 := Lib.hid (HXa11.out.below hb HXa11.out.cells.2.2.2.2.2.2)
          have HXb12 := Lib.hid (HXb11.out.below hb HXb11.out.cells.2.2.2.2.2.2)
          have HXc12 := Lib.hid (HXc11.out.below hb HXc11.out.cells.2.2.2.2.2.2)
          have HXd12 := Lib.hid (HXd11.out.below hb HXd11.out.cells.2.2.2.2.2.2)
          have HXe12 := Lib.hid (HXe11.out.below hb HXe11.out.cells.2.2.2.2.2.2)
          have HNv12 := Lib.hid (HNv11.out.below hb)
          have HNu12 := Lib.hid (HNu11.out.below hb)
          clear hb
          obtain ⟨d, hd⟩ : ∃ d, max rf rg = d := ⟨_, rfl⟩
          have hd1 : rf ≤ d ∧ rg ≤ d ∧ -1 ≤ d ∧ d ≤ 16000 := by omega
          have hwr : IntKind.i64.wrap (r - d) = r - d := IntWalk.i64_in _ (by omega)
          go_wp2_with fail
          go_ret
          exact ⟨ret_bool (by simp), HB12.out⟩
        | some p =>
          obtain ⟨φ, ψ⟩ := p
          rw [vwRes_some hvw] at HIA HIB
          have HSE := Lib.hid (fun d h1 h2 h0 => se_view (d := d) HSB.out hvw rfl rfl h1 h2 h0)
          have hz1 : (vwS a S R φ).size ≤ 8 ∧ (vwR a S R ψ).size ≤ 64 := by
            obtain ⟨_, h8, _⟩ := valid_is va
            unfold vwS vwR gridOf
            rw [bitsOf_size, bitsOf_size]
            exact ⟨h8, Nat.mul_le_mul h8 h8⟩
          have hz2 : (vwS b T U φ).size ≤ 8 ∧ (vwR b T U ψ).size ≤ 64 := by
            obtain ⟨_, h8, _⟩ := valid_is vb
            unfold vwS vwR gridOf
            rw [bitsOf_size, bitsOf_size]
            exact ⟨h8, Nat.mul_le_mul h8 h8⟩
          generalize vwS a S R φ = TS at *
          generalize vwR a S R ψ = TR at *
          generalize vwS b T U φ = US at *
          generalize vwR b T U ψ = UR at *
          generalize rankV f = rf at *
          generalize rankV g = rg at *
          have HW := Lib.hid (fun j w ha hb => implSecond_ints (a : Int) TS TR (b : Int) US UR L M v u j w (by omega) (by omega) (by omega) (by omega) ha hb)
          unfold strV at HIA HIB HW
          clear hvw HSB va vb
          obtain ⟨ca0, ca1, ca2, fa0, fa1, fa2, ba⟩ := HXa6.out.cells
          obtain ⟨cb0, cb1, cb2, fb0, fb1, fb2, bb⟩ := HXb6.out.cells
          go_wp2_with fail
          refine (HIA.out _).mono ?_; rintro e w7 ⟨rfl, hb⟩
          have HB7 := Lib.hid (HB6.out.trans (hb.mono HB6.out.size))
          have HXa7 := Lib.hid (HXa6.out.below hb HXa6.out.cells.2.2.2.2.2.2)
          have HXb7 := Lib.hid (HXb6.out.below hb HXb6.out.cells.2.2.2.2.2.2)
          have HXc7 := Lib.hid (HXc6.out.below hb HXc6.out.cells.2.2.2.2.2.2)
          have HNv7 := Lib.hid (HNv6.out.below hb)
          have HNu7 := Lib.hid (HNu6.out.below hb)
          clear hb
          clear ca0 ca1 ca2 fa0 fa1 fa2 ba cb0 cb1 cb2 fb0 fb1 fb2 bb
          obtain ⟨ca0, ca1, ca2, fa0, fa1, fa2, ba⟩ := HXa7.out.cells
          obtain ⟨cb0, cb1, cb2, fb0, fb1, fb2, bb⟩ := HXb7.out.cells
          have hal : Below w7.heap.size w7 (w7.alloc (.cells #[.int .i64 (a : Int), .string TS, .string TR] 24)) := (Below.refl _ _).alloc (Nat.le_refl _) _
          have HB8 := Lib.hid (HB7.out.trans (hal.mono HB7.out.size))
          have HXa8 := Lib.hid (HXa7.out.below hal HXa7.out.cells.2.2.2.2.2.2)
          have HXb8 := Lib.hid (HXb7.out.below hal HXb7.out.cells.2.2.2.2.2.2)
          have HXc8 := Lib.hid (HXc7.out.below hal HXc7.out.cells.2.2.2.2.2.2)
          have HNv8 := Lib.hid (HNv7.out.below hal)
          have HNu8 := Lib.hid (HNu7.out.below hal)
          have HXd8 : Hid (SBlk (w7.alloc (.cells #[.int .i64 (a : Int), .string TS, .string TR] 24)) w7.heap.size (a : Int) TS TR) := SBlk.new w7 (a : Int) TS TR
          clear hal
          clear ca0 ca1 ca2 fa0 fa1 fa2 ba cb0 cb1 cb2 fb0 fb1 fb2 bb
          obtain ⟨ca0, ca1, ca2, fa0, fa1, fa2, ba⟩ := HXa8.out.cells
          obtain ⟨cb0, cb1, cb2, fb0, fb1, fb2, bb⟩ := HXb8.out.cells
          go_wp2_with fail
          refine (HIB.out _).mono ?_; rintro e w9 ⟨rfl, hb⟩
          have HB9 := Lib.hid (HB8.out.trans (hb.mono HB8.out.size))
          have HXa9 := Lib.hid (HXa8.out.below hb HXa8.out.cells.2.2.2.2.2.2)
          have HXb9 := Lib.hid (HXb8.out.below hb HXb8.out.cells.2.2.2.2.2.2)
          have HXc9 := Lib.hid (HXc8.out.below hb HXc8.out.cells.2.2.2.2.2.2)
          have HXd9 := Lib.hid (HXd8.out.below hb HXd8.out.cells.2.2.2.2.2.2)
          have HNv9 := Lib.hid (HNv8.out.below hb)
          have HNu9 := Lib.hid (HNu8.out.below hb)
          clear hb
          clear ca0 ca1 ca2 fa0 fa1 fa2 ba cb0 cb1 cb2 fb0 fb1 fb2 bb
          have hal : Below w9.heap.size w9 (w9.alloc (.cells #[.int .i64 (b : Int), .string US, .string UR] 24)) := (Below.refl _ _).alloc (Nat.le_refl _) _
          have HB10 := Lib.hid (HB9.out.trans (hal.mono HB9.out.size))
          have HXa10 := Lib.hid (HXa9.out.below hal HXa9.out.cells.2.2.2.2.2.2)
          have HXb10 := Lib.hid (HXb9.out.below hal HXb9.out.cells.2.2.2.2.2.2)
          have HXc10 := Lib.hid (HXc9.out.below hal HXc9.out.cells.2.2.2.2.2.2)
          have HXd10 := Lib.hid (HXd9.out.below hal HXd9.out.cells.2.2.2.2.2.2)
          have HNv10 := Lib.hid (HNv9.out.below hal)
          have HNu10 := Lib.hid (HNu9.out.below hal)
          have HXe10 : Hid (SBlk (w9.alloc (.cells #[.int .i64 (b : Int), .string US, .string UR] 24)) w9.heap.size (b : Int) US UR) := SBlk.new w9 (b : Int) US UR
          clear hal
          go_wp2_with fail
          refine (HRF.out _).mono ?_; rintro e w11 ⟨rfl, hb⟩
          have HB11 := Lib.hid (HB10.out.trans (hb.mono HB10.out.size))
          have HXa11 := Lib.hid (HXa10.out.below hb HXa10.out.cells.2.2.2.2.2.2)
          have HXb11 := Lib.hid (HXb10.out.below hb HXb10.out.cells.2.2.2.2.2.2)
          have HXc11 := Lib.hid (HXc10.out.below hb HXc10.out.cells.2.2.2.2.2.2)
          have HXd11 := Lib.hid (HXd10.out.below hb HXd10.out.cells.2.2.2.2.2.2)
          have HXe11 := Lib.hid (HXe10.out.below hb HXe10.out.cells.2.2.2.2.2.2)
          have HNv11 := Lib.hid (HNv10.out.below hb)
          have HNu11 := Lib.hid (HNu10.out.below hb)
          clear hb
          go_wp2_with fail
          refine (HRG.out _).mono ?_; rintro e w12 ⟨rfl, hb⟩
          have HB12 := Lib.hid (HB11.out.trans (hb.mono HB11.out.size))
          have HXa12 := Lib.hid (HXa11.out.below hb HXa11.out.cells.2.2.2.2.2.2)
          have HXb12 := Lib.hid (HXb11.out.below hb HXb11.out.cells.2.2.2.2.2.2)
          have HXc12 := Lib.hid (HXc11.out.below hb HXc11.out.cells.2.2.2.2.2.2)
          have HXd12 := Lib.hid (HXd11.out.below hb HXd11.out.cells.2.2.2.2.2.2)
          have HXe12 := Lib.hid (HXe11.out.below hb HXe11.out.cells.2.2.2.2.2.2)
          have HNv12 := Lib.hid (HNv11.out.below hb)
          have HNu12 := Lib.hid (HNu11.out.below hb)
          clear hb
          obtain ⟨d, hd⟩ : ∃ d, max rf rg = d := ⟨_, rfl⟩
          have hd1 : rf ≤ d ∧ rg ≤ d ∧ -1 ≤ d ∧ d ≤ 16000 := by omega
          have hwr : IntKind.i64.wrap (r - d) = r - d := IntWalk.i64_in _ (by omega)
          by_cases h0 : r - d < 0
          · go_wp2_with fail
            go_ret
            exact ⟨ret_bool (by simp), HB12.out⟩
          · have HE := Lib.hid (HSE.out d hd1.1 hd1.2.1 (by omega))
            have HWJ := Lib.hid (HW.out (r - d))
            rw [HE.out] at HWJ
            obtain ⟨cd0, cd1, cd2, fd0, fd1, fd2, bd⟩ := HXd12.out.cells
            obtain ⟨ce0, ce1, ce2, fe0, fe1, fe2, be⟩ := HXe12.out.cells
            go_wp2_with fail
            refine (HWJ.out _ HNv12.out HNu12.out).mono ?_; rintro e w13 ⟨rfl, hb⟩
            have HB13 := Lib.hid (HB12.out.trans (hb.mono HB12.out.size))
            have HXa13 := Lib.hid (HXa12.out.below hb HXa12.out.cells.2.2.2.2.2.2)
            have HXb13 := Lib.hid (HXb12.out.below hb HXb12.out.cells.2.2.2.2.2.2)
            have HXc13 := Lib.hid (HXc12.out.below hb HXc12.out.cells.2.2.2.2.2.2)
            have HXd13 := Lib.hid (HXd12.out.below hb HXd12.out.cells.2.2.2.2.2.2)
            have HXe13 := Lib.hid (HXe12.out.below hb HXe12.out.cells.2.2.2.2.2.2)
            have HNv13 := Lib.hid (HNv12.out.below hb)
            have HNu13 := Lib.hid (HNu12.out.below hb)
            clear hb
            clear cd0 cd1 cd2 fd0 fd1 fd2 bd ce0 ce1 ce2 fe0 fe1 fe2 be
            go_wp2_with fail
            go_ret
            exact ⟨ret_bool (by simp), HB13.out⟩
    · go_enter Tryz.func4, Tryz.ntmps4
      go_wp2_with fail
      go_ret
      exact ⟨rfl, Below.refl _ _⟩
  · go_enter Tryz.func4, Tryz.ntmps4
    go_wp2_with fail
    go_ret
    exact ⟨rfl, Below.refl _ _⟩
end Go.Proofs.YtjepegkbbbebkaaGreatDoor

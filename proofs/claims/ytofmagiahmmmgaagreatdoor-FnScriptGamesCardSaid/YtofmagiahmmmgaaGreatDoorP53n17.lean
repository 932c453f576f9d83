/- Contracts of the program's functions and what they compute: part 17. Conditions: those that each theorem states. -/
import Derived.Test.YtofmagiahmmmgaaGreatDoorP53n6
import Derived.Test.YtofmagiahmmmgaaGreatDoorP53n4
import Derived.Test.YtofmagiahmmmgaaGreatDoorP53n5
import Derived.Test.YtofmagiahmmmgaaGreatDoorP53n7
import Derived.Test.YtofmagiahmmmgaaGreatDoorP53n9
import Derived.Test.YtofmagiahmmmgaaGreatDoorP53n1
import Derived.Test.YtofmagiahmmmgaaGreatDoorP53n2
import Derived.Test.YtofmagiahmmmgaaGreatDoorP53n16
import Derived.IntWalk
import Derived.Laws.EntriesVeiled
import Derived.Deep.DeepCutAuto
import Derived.Maps.Own
import Derived.LaidEqlPtr
import Derived.Laws.IdiomCopy
import Derived.Deep.AppendLies
import Derived.Deep.RegionLaw
import Derived.Deep.CutBlock
import Derived.Laws.IdiomStrings
import Derived.Deep.RegionHeld3
namespace Go.Proofs.YtofmagiahmmmgaaGreatDoor
open Go.RowKit
set_option linter.unusedVariables false
theorem fmtB_one (z : Int) : fmtB [z] = itoS z := by
  unfold fmtB itoS
  rw [List.map_cons, List.map_nil, Lib.join_one]
/-- What FormatNumbers returns. -/
def fmtRes (zs : List Int) : ByteArray := if zs.length = 0 then ⟨#[45]⟩ else fmtB zs
end Go.Proofs.YtofmagiahmmmgaaGreatDoor

namespace Go.Proofs.YtofmagiahmmmgaaGreatDoor
open Go.RowKit
set_option linter.unusedVariables false
/-- The text of natural numbers. -/
def numsB (L : List Nat) : ByteArray := fmtRes (L.map fun n : Nat => (n : Int))
theorem numsB_one (x : Nat) : numsB [x] = itoS (x : Int) := by
  unfold numsB fmtRes
  rw [if_neg (by simp)]
  exact fmtB_one _
theorem implFmt_nums (v : Value) (L : List Nat) (w : World) (hv : NumsAt w v L) (hl : L.length ≤ 100) (hb : ∀ x ∈ L, x ≤ 1000000) (ht : Tab w) :
    Calls Tryz.prog 13 #[v] w fun e w' => e = .returned (.string (numsB L)) ∧ Below w.heap.size w w' := by
  obtain ⟨a, cap, rfl, l1, l2, l3⟩ := hv.view
  unfold numsB fmtRes
  by_cases h0 : L.length = 0
  · rw [if_pos (by simpa using h0), h0]
    exact implFmt_zero _ _ w
  · obtain ⟨g, o, rfl, hg, hc⟩ := l3 (by omega)
    have hlm : (L.map fun n : Nat => (n : Int)).length = L.length := List.length_map ..
    rw [if_neg (by rw [hlm]; exact h0)]
    have := implFmt_any g o cap (L.map fun n : Nat => (n : Int)) w (by rw [hlm]; exact h0) (by omega) (by
      intro z hz
      obtain ⟨x, hx, rfl⟩ := List.mem_map.1 hz
      have := hb x hx
      omega) ht (by omega) l2 hg (fun j hj => by
      have hj' : j < L.length := by omega
      rw [hc j hj']
      simp [List.getD_eq_getElem?_getD, hj'])
    rw [hlm] at this
    exact this
end Go.Proofs.YtofmagiahmmmgaaGreatDoor

namespace Go.Proofs.YtofmagiahmmmgaaGreatDoor
open Go.RowKit
set_option linter.unusedVariables false
set_option maxRecDepth 100000
/-- Both structures exchanged. -/
def DS.swap (a : DS) : DS := { a with n := a.m, S := a.T, R := a.U, m := a.n, T := a.S, U := a.R }
end Go.Proofs.YtofmagiahmmmgaaGreatDoor

namespace Go.Proofs.YtofmagiahmmmgaaGreatDoor
open Go.RowKit
set_option linter.unusedVariables false
set_option maxRecDepth 100000
/-- The left structure laid anew. -/
def DS.left (a : DS) (n : Nat) (S R : ByteArray) : DS := { a with n := (n : Int), S := S, R := R }
end Go.Proofs.YtofmagiahmmmgaaGreatDoor

namespace Go.Proofs.YtofmagiahmmmgaaGreatDoor
open Go.RowKit
set_option linter.unusedVariables false
set_option maxRecDepth 100000
/-- A slice of the call's own, cut. -/
theorem Own.take {B g cap : Nat} {w : World} {L : List Nat} (h : Own B w (.slice (some ⟨g, 0, none⟩) L.length cap) L) (i : Nat) (hi : i ≤ L.length) : Own B w (.slice (some ⟨g, 0, none⟩) i cap) (L.take i) := by
  have hl : (L.take i).length = i := by rw [List.length_take]; omega
  refine ⟨⟨by simp, ?_⟩, by simp, h.low⟩
  rw [hl]
  rcases h.own.2 with ⟨h1, h2⟩ | ⟨g', cap', cur, he, hb, hg, hnc, hcm, hcs, htake⟩
  · cases h1
  · injection he with e1 e2 e3
    injection e1 with e1
    injection e1 with e1
    subst e1; subst e3
    refine .inr ⟨g, cap, cur, rfl, hb, hg, by omega, hcm, hcs, ?_⟩
    rw [List.map_take, ← htake, List.take_take]
    congr 1
    omega
/-- Two structures in their boxes. -/
structure Bx2 (w wr : World) (n : Int) (S R : ByteArray) (m : Int) (S2 R2 : ByteArray) : Prop where
  a : SBlk wr w.heap.size n S R
  b : SBlk wr (w.heap.size + 1) m S2 R2
  old : Below w.heap.size w wr
theorem Bx2.below {w wr w' : World} {n m : Int} {S R S2 R2 : ByteArray} (h : Bx2 w wr n S R m S2 R2) (hb : Below wr.heap.size wr w') : Bx2 w w' n S R m S2 R2 := by
  have h1 := h.b.cells.2.2.2.2.2.2
  exact ⟨h.a.below hb (by omega), h.b.below hb h1, h.old.trans (hb.mono (by omega))⟩
theorem Bx2.new (w : World) (n : Int) (S R : ByteArray) (m : Int) (S2 R2 : ByteArray) : Bx2 w (boxS (boxS w n S R) m S2 R2) n S R m S2 R2 := by
  refine ⟨(boxS_SBlk w n S R).below (boxS_below (boxS w n S R) m S2 R2) (by rw [boxS_size]; omega), ?_, (boxS_below w n S R).trans ((boxS_below _ _ _ _).mono (by rw [boxS_size]; omega))⟩
  have h := boxS_SBlk (boxS w n S R) m S2 R2
  rw [boxS_size] at h
  exact h
end Go.Proofs.YtofmagiahmmmgaaGreatDoor

namespace Go.Proofs.YtofmagiahmmmgaaGreatDoor
open Go.RowKit
set_option linter.unusedVariables false
set_option maxRecDepth 100000
/-- Whether a text is a formula without free variables that is true, and whether it is such a formula. -/
def hin (f : ByteArray) (a : Gs.St) : Bool × Bool :=
  match readB f with
  | none => (false, false)
  | some φ => if Fm.free φ = 0 then (Fm.holds a φ (fun _ => 0), true) else (false, false)
end Go.Proofs.YtofmagiahmmmgaaGreatDoor

namespace Go.Proofs.YtofmagiahmmmgaaGreatDoor
open Go.RowKit
set_option linter.unusedVariables false
set_option maxRecDepth 100000
/-- The elements x and y for the first two variables. -/
def env2 (x y : Nat) : Fm.Env := fun i => if i = 0 then x else if i = 1 then y else 0
end Go.Proofs.YtofmagiahmmmgaaGreatDoor

namespace Go.Proofs.YtofmagiahmmmgaaGreatDoor
open Go.RowKit
set_option linter.unusedVariables false
set_option maxRecDepth 100000
def truthB (b : Bool) : ByteArray := if b then ⟨#[116, 114, 117, 101]⟩ else ⟨#[102, 97, 108, 115, 101]⟩
theorem formatBool0_any (b : Bool) (w : World) : Calls Tryz.prog 307 #[.bool b] w fun e w' => e = .returned (.string (truthB b)) ∧ Below w.heap.size w w' := by
  cases b
  all_goals
    go_enter Tryz.func307, Tryz.ntmps307
    go_wp2_with fail
    go_ret
    exact ⟨rfl, Below.refl _ _⟩
theorem formatBool_any (b : Bool) (w : World) : Calls Tryz.prog 262 #[.bool b] w fun e w' => e = .returned (.string (truthB b)) ∧ Below w.heap.size w w' := by
  have HF := Lib.hid (fun w => formatBool0_any b w)
  go_enter Tryz.func262, Tryz.ntmps262
  go_wp2_with fail
  refine (HF.out _).mono ?_; rintro e w1 ⟨rfl, hb⟩
  go_wp2_with fail
  go_ret
  exact ⟨rfl, hb⟩
theorem truth_any (b : Bool) (w : World) : Calls Tryz.prog 202 #[.bool b] w fun e w' => e = .returned (.string (truthB b)) ∧ Below w.heap.size w w' := by
  have HF := Lib.hid (fun w => formatBool_any b w)
  go_enter Tryz.func202, Tryz.ntmps202
  go_wp2_with fail
  refine (HF.out _).mono ?_; rintro e w1 ⟨rfl, hb⟩
  go_wp2_with fail
  go_ret
  exact ⟨rfl, hb⟩
end Go.Proofs.YtofmagiahmmmgaaGreatDoor

namespace Go.Proofs.YtofmagiahmmmgaaGreatDoor
open Go.RowKit
set_option linter.unusedVariables false
set_option maxRecDepth 100000
/-- The structure of the elements L. -/
def partV (n : Nat) (S R : ByteArray) (L : List Nat) : Value := strV L.length (bitsOf (fun x => oneAt S (L.getD x 0)) L.length) (gridOf (fun x y => relAt n R (L.getD x 0) (L.getD y 0)) L.length)
end Go.Proofs.YtofmagiahmmmgaaGreatDoor

namespace Go.Proofs.YtofmagiahmmmgaaGreatDoor
open Go.RowKit
set_option linter.unusedVariables false
set_option maxRecDepth 100000
/-- After how many turns more the first player wins, -1 for never. -/
def twAt (n m k : Nat) (F : List Bool) : Nat → Nat → Int
  | 0, _ => -1
  | f + 1, t => if (lev n m k F (t + 1)).getD 0 false = false then ((t + 1 : Nat) : Int) else if turnU n m k F (lev n m k F t) = lev n m k F t then -1 else twAt n m k F f (t + 1)
def twV (a b : Gs.St) (n m k : Nat) : Int := twAt n m k (fitL a b n m k) ((fitL a b n m k).length + 1) 0
theorem twAt_neg {n m k : Nat} {F : List Bool} (h : ∀ t, (lev n m k F t).getD 0 false = true) : ∀ f t, twAt n m k F f t = -1
  | 0, _ => rfl
  | f + 1, t => by
    unfold twAt
    rw [if_neg (by rw [h]; simp)]
    split
    · rfl
    · exact twAt_neg h f (t + 1)
theorem twAt_le {n m k : Nat} {F : List Bool} : ∀ f t, -1 ≤ twAt n m k F f t ∧ twAt n m k F f t ≤ ((t + f : Nat) : Int)
  | 0, t => by unfold twAt; omega
  | f + 1, t => by
    have ih := twAt_le (n := n) (m := m) (k := k) (F := F) f (t + 1)
    unfold twAt
    split
    · omega
    · split
      · omega
      · omega
theorem besides_ready {n m k : Nat} {S R T U : ByteArray} (hv : validB n S R = true) (hu : validB m T U = true) (h1 : 1 ≤ k) (h3 : k ≤ 3) : pebRdB n S R (List.replicate k (-1)) m T U (List.replicate k (-1)) = true := by
  have ha : ∀ n : Nat, pebA n (List.replicate k (-1)) = true := fun n => by
    unfold pebA
    rw [List.all_eq_true]
    intro x hx
    rw [List.eq_of_mem_replicate hx]
    unfold pebR
    simp
    omega
  have hs : sideB (List.replicate k (-1)) (List.replicate k (-1)) = true := by
    unfold sideB
    rw [List.all_eq_true]
    intro j _
    simp
  unfold pebRdB pebsB
  rw [hv, hu, ha, ha, hs]
  simp
  omega
/-- A game after some turns. -/
structure PwT (w : World) (p n : Nat) (S R : ByteArray) (m : Nat) (S2 R2 : ByteArray) (k : Nat) (F : List Bool) (t : Nat) (wr : World) : Prop where
  q : PebQ wr p n S R m S2 R2 k F (lev n m k F t)
  old : Below w.heap.size w wr
  lo : w.heap.size ≤ p
theorem PwT.turn {w wr w' : World} {p n m k t : Nat} {S R S2 R2 : ByteArray} {F : List Bool} {e : Ending} (h : PwT w p n S R m S2 R2 k F t wr) (hl : TurnP wr p n S R m S2 R2 k F (lev n m k F t) e w') : PwT w p n S R m S2 R2 k F (t + 1) w' := by
  obtain ⟨_, h2, h3, _⟩ := hl
  exact ⟨h2, h.old.trans (h3.below h.old.size (fun b hb => by rw [hb]; exact h.lo)), h.lo⟩
set_option maxHeartbeats 4000000 in
theorem TurnsToWin_any (n m k : Nat) (S R T U : ByteArray) (hv : validB n S R = true) (hu : validB m T U = true) (hk1 : 1 ≤ k) (hk3 : k ≤ 3) (w : World) :
    Calls Tryz.prog 9 #[strV n S R, strV m T U, .int .i64 (k : Int)] w fun e w' => e = .returned (.int .i64 (twV (stOf n S R) (stOf m T U) n m k)) ∧ Below w.heap.size w w' := by
  obtain ⟨n1, n8, hS, hR, _, _⟩ := valid_is hv
  obtain ⟨m1, m8, hT, hU, _, _⟩ := valid_is hu
  have hnn : n * n ≤ 64 := Nat.mul_le_mul n8 n8
  have hmm : m * m ≤ 64 := Nat.mul_le_mul m8 m8
  have I1 := Lib.hid (fun w => isStructure_any n S R w (by omega) (by omega))
  have I2 := Lib.hid (fun w => isStructure_any m T U w (by omega) (by omega))
  rw [hv] at I1; rw [hu] at I2
  have HBE := Lib.hid (fun w => besides_any k (by omega) w)
  have HNP : Hid (∀ w v, IntsAt w v (List.replicate k (-1)) → Calls Tryz.prog 27 #[strV n S R, v, strV m T U, v] w (NewP w n S R m T U k)) := fun w v hv' => by
    have := newPebbles_any n m S R T U (List.replicate k (-1)) (List.replicate k (-1)) v v w hv' hv' (besides_ready hv hu hk1 hk3)
    rw [List.length_replicate] at this
    exact this
  have HTN := Lib.hid (fun p F W w hQ hF hW => turn_any p n m k S R T U F W w hQ n8 m8 n1 m1 hk3 hF hW)
  have HFL : Hid ((fitL (stOf n S R) (stOf m T U) n m k).length = (n * m + 1) ^ k) := fitL_len _ _ _ _ _
  have HRS : Hid (twV (stOf n S R) (stOf m T U) n m k = twAt n m k (fitL (stOf n S R) (stOf m T U) n m k) ((fitL (stOf n S R) (stOf m T U) n m k).length + 1) 0) := rfl
  have hpow := pow_le (pairs_le n8 m8) hk3
  have hpos : 0 < (n * m + 1) ^ k := Nat.pow_pos (Nat.succ_pos _)
  generalize twV (stOf n S R) (stOf m T U) n m k = RES at *
  obtain ⟨F, hF⟩ : ∃ F, fitL (stOf n S R) (stOf m T U) n m k = F := ⟨_, rfl⟩
  rw [hF] at HFL HRS
  have HFE := Lib.hid hF
  have HBX := Lib.hid (Bx2.new w n S R m T U)
  unfold boxS at HBX
  obtain ⟨W, hW⟩ : ∃ W, (w.alloc (.cells #[.int .i64 (n : Int), .string S, .string R] 24)).alloc (.cells #[.int .i64 (m : Int), .string T, .string U] 24) = W := ⟨_, rfl⟩
  rw [hW] at HBX
  have HW := Lib.hid hW
  have HFLn : Hid (F.length ≤ 300000 ∧ 0 < F.length) := by show _ ∧ _; rw [HFL.out]; exact ⟨Nat.le_trans hpow (by decide), hpos⟩
  have hk3I : ¬ (3 : Int) < (k : Int) := by omega
  have hk1I : ¬ (k : Int) < 1 := by omega
  have hk3B : decide ((3 : Int) < (k : Int)) = false := decide_eq_false hk3I
  have hk1B : decide ((k : Int) < 1) = false := decide_eq_false hk1I
  clear hW hS hR hT hU hnn hmm hv hu hF hpow hpos
  unfold strV at I1 I2 HNP
  unfold strV
  go_enter Tryz.func9, Tryz.ntmps9
  go_upto_region 1 with fail
  rw [HW.out]
  obtain ⟨s0, s1, s2, _, _, _, hl⟩ := HBX.out.a.cells
  go_wp2_with fail
  refine (I1.out _).mono ?_; rintro e w1 ⟨rfl, hb⟩
  have HX1 := Lib.hid (HBX.out.below hb)
  clear hb s0 s1 s2 hl
  obtain ⟨t0, t1, t2, _, _, _, hl'⟩ := HX1.out.b.cells
  go_wp2_with fail
  refine (I2.out _).mono ?_; rintro e w2 ⟨rfl, hb⟩
  have HX2 := Lib.hid (HX1.out.below hb)
  clear hb t0 t1 t2 hl' HX1
  go_wp2_with fail
  refine (HBE.out _).mono ?_; rintro e w3 ⟨v, rfl, ho, hb⟩
  have HX3 := Lib.hid (HX2.out.below hb)
  have HN3 := Lib.hid (HNP.out w3 v ho.ints)
  clear hb ho HX2
  obtain ⟨s0, s1, s2, _, _, _, hl⟩ := HX3.out.a.cells
  obtain ⟨t0, t1, t2, _, _, _, hl'⟩ := HX3.out.b.cells
  go_wp2_with fail
  refine HN3.out.mono ?_; rintro e w4 ⟨p, rfl, hq, hb, hp⟩
  have HP4 : Hid (PwT w p n S R m T U k F 0 w4) := by
    refine ⟨?_, HX3.out.old.trans (hb.mono HX3.out.old.size), Nat.le_trans HX3.out.old.size hp⟩
    have := hq.q
    rw [HFE.out] at this
    exact this
  clear hq hb hp s0 s1 s2 hl t0 t1 t2 hl' HN3 HX3
  go_wp2_with fail
  go_loopw [9, 10] (fun q _ wr => ∃ t : Nat, q = .int .i64 ((t : Int) + 1) ∧ Hid (PwT w p n S R m T U k F t wr) ∧ cntT (lev n m k F t) + t ≤ F.length ∧ Hid (twAt n m k F (F.length + 1 - t) t = RES)) (fun q _ _ => F.length + 2 - (intOf q).toNat)
  case atStart => exact ⟨0, by rfl, HP4.out, by show cntT F + 0 ≤ _; exact cntT_le F, HRS.out.symm⟩
  case round =>
    clear HP4
    obtain ⟨t, rfl, HP, hct, HTW⟩ := hrel
    have hFb := HFLn.out.1
    have htF : t ≤ F.length := by omega
    obtain ⟨f, hf⟩ : ∃ f, F.length + 1 - t = f + 1 := ⟨F.length - t, by omega⟩
    have HT := Lib.hid (HTN.out p F (lev n m k F t) wr HP.out.q HFL.out (by rw [lev_len]; exact HFL.out))
    have HSTEP : Hid (RES = if (lev n m k F (t + 1)).getD 0 false = false then ((t + 1 : Nat) : Int) else if turnU n m k F (lev n m k F t) = lev n m k F t then -1 else twAt n m k F f (t + 1)) := by
      show _ = _
      rw [← HTW.out, hf]
      rfl
    have HLS : Hid ((lev n m k F (t + 1)).length = F.length) := lev_len _ _ _ _ _
    have hw1 : IntKind.i64.wrap ((t : Int) + 1 + 1) = (t : Int) + 1 + 1 := IntWalk.i64_in _ (by omega)
    go_wp2_with fail
    refine HT.out.mono ?_; rintro e w9 htu
    have HP9 := Lib.hid (HP.out.turn htu)
    obtain ⟨rfl, _⟩ := htu
    obtain ⟨fv, wv, hG, _, hb, _, _⟩ := HP9.out.q
    have d9 := hG.cells.2.2.2.2.2.1
    obtain ⟨wg, wc, rfl, w1', w2', w3', w4'⟩ := hb
    have dst := w4' 0 (by rw [HLS.out]; exact HFLn.out.2)
    have hLB := HLS.out
    obtain ⟨M, hM⟩ : ∃ M, (lev n m k F (t + 1)).length = M := ⟨_, rfl⟩
    rw [hM] at d9 hLB w1'
    have hM0 : (0 : Int) < (M : Int) := by have := HFLn.out.2; omega
    obtain ⟨b0, hb0⟩ : ∃ b0, (lev n m k F (t + 1)).getD 0 false = b0 := ⟨_, rfl⟩
    rw [hb0] at dst HSTEP
    clear hG w4' hM hb0 HT
    by_cases hch : turnU n m k F (lev n m k F t) = lev n m k F t
    · rw [decide_eq_true hch]
      cases b0
      · have HR : Hid (RES = ((t + 1 : Nat) : Int)) := by show _ = _; rw [HSTEP.out, if_pos rfl]
        clear HSTEP hch
        go_wp2_with fail
        go_ret
        exact ⟨by rw [HR.out]; simp, HP9.out.old⟩
      · have HR : Hid (RES = -1) := by show _ = _; rw [HSTEP.out, if_neg (by simp), if_pos hch]
        clear HSTEP hch
        go_wp2_with fail
        go_ret
        exact ⟨ret_int HR.out.symm, HP9.out.old⟩
    · rw [decide_eq_false hch]
      cases b0
      · have HR : Hid (RES = ((t + 1 : Nat) : Int)) := by show _ = _; rw [HSTEP.out, if_pos rfl]
        clear HSTEP hch
        go_wp2_with fail
        go_ret
        exact ⟨by rw [HR.out]; simp, HP9.out.old⟩
      · have HR : Hid (twAt n m k F (F.length + 1 - (t + 1)) (t + 1) = RES) := by
          show _ = _
          rw [HSTEP.out, if_neg (by simp), if_neg hch, show F.length + 1 - (t + 1) = f by omega]
        have hless := turn_less hch
        clear HSTEP hch
        go_wp2_with fail
        go_roundw
        case rel => exact ⟨t + 1, by go_num, HP9.out, by omega, HR.out⟩
        case measure => simp [intOf]; omega
end Go.Proofs.YtofmagiahmmmgaaGreatDoor

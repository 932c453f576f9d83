/- Contracts of the program's functions and what they compute: part 42. Conditions: those that each theorem states. -/
import Derived.Test.YtfhogenjpepfnaaGreatDoorP51n40
import Derived.Test.YtfhogenjpepfnaaGreatDoorP51n41
import Derived.Calls
import Derived.Control
namespace Go.Proofs.YtfhogenjpepfnaaGreatDoor
open Go.RowKit
set_option linter.unusedVariables false
set_option maxRecDepth 100000
theorem isList_all (n : Nat) (S R : ByteArray) (L : List Nat) (v : Value) (w : World) (hv : validB n S R = true) (hl : L.length ≤ 4) (hL : ∀ j, j < L.length → L.getD j 0 < n) (hg : NumsAt w v L) : Calls Tryz.prog 95 #[strV n S R, v] w fun en w' => en = .returned (.bool true) ∧ Below w.heap.size w w' := by
  obtain ⟨h1, h8, hS, hR, _, _⟩ := valid_is hv
  have HIS : Hid (∀ w, Calls Tryz.prog 20 #[strV n S R] w fun e w' => e = .returned (.bool true) ∧ Below w.heap.size w w') := fun w => by
    have := isStructure_any n S R w (by omega) (by rw [hR]; have := Nat.mul_le_mul h8 h8; omega)
    rw [hv] at this
    exact this
  have HAE := Lib.hid (fun w' (hb : Below w.heap.size w w') => areElements_all n S R L v w' (hg.below hb) hL h8)
  obtain ⟨a, cap, rfl, _, _, _⟩ := hg.view
  have HB : Hid (SBlk (boxS w n S R) w.heap.size n S R ∧ Below w.heap.size w (boxS w n S R)) := ⟨boxS_SBlk _ _ _ _, boxS_below _ _ _ _⟩
  unfold boxS at HB
  have hlI : (L.length : Int) ≤ 4 := by omega
  clear hg hL
  unfold strV at HIS HAE
  unfold strV
  go_enter Tryz.func95, Tryz.ntmps95
  go_wp2_with fail
  refine (HIS.out _).mono ?_; rintro _ w1 ⟨rfl, hb1⟩
  have HB1 : Hid (SBlk w1 w.heap.size n S R ∧ Below w.heap.size w w1) := ⟨HB.out.1.below hb1 HB.out.1.cells.2.2.2.2.2.2, HB.out.2.trans (hb1.mono HB.out.2.size)⟩
  clear hb1
  have s0 := HB1.out.1.cells.1
  have s1 := HB1.out.1.cells.2.1
  have s2 := HB1.out.1.cells.2.2.1
  go_wp2_with fail
  refine (HAE.out _ HB1.out.2).mono ?_; rintro _ w2 ⟨rfl, hb2⟩
  have HB2 := Lib.hid (HB1.out.2.trans (hb2.mono HB1.out.2.size))
  clear hb2 s0 s1 s2
  go_wp2_with fail
  go_ret
  exact ⟨rfl, HB2.out⟩
theorem areLists_all (n : Nat) (S R : ByteArray) (m : Nat) (S2 R2 : ByteArray) (L M : List Nat) (v u : Value) (w : World) (hv : validB n S R = true) (hv2 : validB m S2 R2 = true) (hl : L.length ≤ 4) (hlm : L.length = M.length) (hL : ∀ j, j < L.length → L.getD j 0 < n) (hM : ∀ j, j < M.length → M.getD j 0 < m) (hg : NumsAt w v L) (hg2 : NumsAt w u M) :
    Calls Tryz.prog 67 #[strV n S R, v, strV m S2 R2, u] w fun en w' => en = .returned (.bool true) ∧ Below w.heap.size w w' := by
  have HT := Lib.hid (Two.new w n S R m S2 R2)
  unfold boxS at HT
  have HA := Lib.hid (fun w' (h : Below w.heap.size w w') => isList_all n S R L v w' hv hl hL (hg.below h))
  have HB := Lib.hid (fun w' (h : Below w.heap.size w w') => isList_all m S2 R2 M u w' hv2 (by omega) hM (hg2.below h))
  obtain ⟨g, cap, rfl, _, _, _⟩ := hg.view
  obtain ⟨g2, cap2, rfl, _, _, _⟩ := hg2.view
  rw [← hlm] at HB ⊢
  clear hg hg2 hL hM hlm
  unfold strV at HA HB
  obtain ⟨c0, c1, c2, f0, f1, f2, hl1⟩ := HT.out.a.cells
  unfold strV
  go_enter Tryz.func67, Tryz.ntmps67
  go_wp2_with fail
  refine (HA.out _ HT.out.old).mono ?_; rintro e w1 ⟨rfl, hb⟩
  have HT3 := Lib.hid (HT.out.below hb); clear hb c0 c1 c2 f0 f1 f2 hl1
  obtain ⟨d0, d1, d2, g0, g1, g2, hl2⟩ := HT3.out.b.cells
  go_wp2_with fail
  refine (HB.out _ HT3.out.old).mono ?_; rintro e w2 ⟨rfl, hb⟩
  have HT4 := Lib.hid (HT3.out.below hb); clear hb d0 d1 d2 g0 g1 g2 hl2
  go_wp2_with fail
  go_ret
  exact ⟨ret_bool (by simp), HT4.out.old⟩
theorem isGame_all (n : Nat) (S R : ByteArray) (m : Nat) (S2 R2 : ByteArray) (L M : List Nat) (v u : Value) (k : Nat) (w : World) (hk : k ≤ 3) (hv : validB n S R = true) (hv2 : validB m S2 R2 = true) (hl : L.length ≤ 4) (hlm : L.length = M.length) (hL : ∀ j, j < L.length → L.getD j 0 < n) (hM : ∀ j, j < M.length → M.getD j 0 < m) (hg : NumsAt w v L) (hg2 : NumsAt w u M) :
    Calls Tryz.prog 50 #[strV n S R, v, strV m S2 R2, u, .int .i64 (k : Int)] w fun en w' => en = .returned (.bool true) ∧ Below w.heap.size w w' := by
  have HT := Lib.hid (Two.new w n S R m S2 R2)
  unfold boxS at HT
  have HA := Lib.hid (fun w' (h : Below w.heap.size w w') => areLists_all n S R m S2 R2 L M v u w' hv hv2 hl hlm hL hM (hg.below h) (hg2.below h))
  obtain ⟨g, cap, rfl, _, _, _⟩ := hg.view
  obtain ⟨g2, cap2, rfl, _, _, _⟩ := hg2.view
  clear hg hg2 hL hM
  unfold strV at HA
  obtain ⟨c0, c1, c2, f0, f1, f2, hl1⟩ := HT.out.a.cells
  obtain ⟨d0, d1, d2, g0, g1, g2, hl2⟩ := HT.out.b.cells
  rw [← hlm] at HA ⊢
  clear hlm
  unfold strV
  go_enter Tryz.func50, Tryz.ntmps50
  go_wp2_with fail
  refine (HA.out _ HT.out.old).mono ?_; rintro e w1 ⟨rfl, hb⟩
  have HT3 := Lib.hid (HT.out.below hb); clear hb c0 c1 c2 f0 f1 f2 hl1 d0 d1 d2 g0 g1 g2 hl2
  go_wp2_with fail
  go_ret
  exact ⟨ret_bool (by simp; omega), HT3.out.old⟩
theorem SecondWins_all (n : Nat) (S R : ByteArray) (m : Nat) (S2 R2 : ByteArray) (L M : List Nat) (v u : Value) (k : Nat) (w : World) (hk : k ≤ 3) (hv : validB n S R = true) (hv2 : validB m S2 R2 = true) (hl : L.length ≤ 4) (hlm : L.length = M.length) (hL : ∀ j, j < L.length → L.getD j 0 < n) (hM : ∀ j, j < M.length → M.getD j 0 < m) (hg : NumsAt w v L) (hg2 : NumsAt w u M) :
    Calls Tryz.prog 29 #[strV n S R, v, strV m S2 R2, u, .int .i64 (k : Int)] w fun en w' => en = .returned (.bool (Gs.wins k (stOf n S R) L (stOf m S2 R2) M)) ∧ Below w.heap.size w w' := by
  obtain ⟨a1, a8, aS, aR, _, _⟩ := valid_is hv
  obtain ⟨b1, b8, bS, bR, _, _⟩ := valid_is hv2
  have HT := Lib.hid (Two.new w n S R m S2 R2)
  unfold boxS at HT
  have HA := Lib.hid (fun w' (h : Below w.heap.size w w') => isGame_all n S R m S2 R2 L M v u k w' hk hv hv2 hl hlm hL hM (hg.below h) (hg2.below h))
  have mem : ∀ {K : List Nat} {q : Nat}, (∀ j, j < K.length → K.getD j 0 < q) → ∀ z ∈ K, z < q := by
    intro K q h z hz
    obtain ⟨j, hj, rfl⟩ := List.mem_iff_getElem.1 hz
    have := h j hj
    simpa [hj] using this
  have HG := Lib.hid (fun w' (h : Below w.heap.size w w') => secondWins_any n S R m S2 R2 v u L M k w' ⟨aS, aR, a8, bS, bR, b8, hlm, by omega, mem hL, mem hM⟩ (hg.below h) (hg2.below h))
  obtain ⟨g, cap, rfl, _, _, _⟩ := hg.view
  obtain ⟨g2, cap2, rfl, _, _, _⟩ := hg2.view
  clear hg hg2 mem hL hM
  rw [← hlm] at HA HG ⊢
  generalize Gs.wins k (stOf n S R) L (stOf m S2 R2) M = W at *
  clear hlm
  unfold strV at HA HG
  obtain ⟨c0, c1, c2, f0, f1, f2, hl1⟩ := HT.out.a.cells
  obtain ⟨d0, d1, d2, g0, g1, g2, hl2⟩ := HT.out.b.cells
  unfold strV
  go_enter Tryz.func29, Tryz.ntmps29
  go_wp2_with fail
  refine (HA.out _ HT.out.old).mono ?_; rintro e w1 ⟨rfl, hb⟩
  have HT3 := Lib.hid (HT.out.below hb); clear hb c0 c1 c2 f0 f1 f2 hl1 d0 d1 d2 g0 g1 g2 hl2
  obtain ⟨c0, c1, c2, f0, f1, f2, hl1⟩ := HT3.out.a.cells
  obtain ⟨d0, d1, d2, g0, g1, g2, hl2⟩ := HT3.out.b.cells
  go_wp2_with fail
  refine (HG.out _ HT3.out.old).mono ?_; rintro e w2 ⟨rfl, hb⟩
  have HT4 := Lib.hid (HT3.out.below hb); clear hb c0 c1 c2 f0 f1 f2 hl1 d0 d1 d2 g0 g1 g2 hl2
  go_wp2_with fail
  go_ret
  exact ⟨ret_bool (by simp), HT4.out.old⟩
theorem SameRank_any (n : Nat) (S R : ByteArray) (m : Nat) (S2 R2 : ByteArray) (k : Nat) (w : World) (hk : k ≤ 3) (hv : validB n S R = true) (hv2 : validB m S2 R2 = true) :
    Calls Tryz.prog 12 #[strV n S R, strV m S2 R2, .int .i64 (k : Int)] w fun en w' => en = .returned (.bool (Gs.wins k (stOf n S R) [] (stOf m S2 R2) [])) ∧ Below w.heap.size w w' := by
  have HT := Lib.hid (Two.new w n S R m S2 R2)
  unfold boxS at HT
  have HA := Lib.hid (fun w' => SecondWins_all n S R m S2 R2 [] [] (.slice none 0 0) (.slice none 0 0) k w' hk hv hv2 (by decide) rfl (by simp) (by simp) (NumsAt.nil _) (NumsAt.nil _))
  generalize Gs.wins k (stOf n S R) [] (stOf m S2 R2) [] = W at *
  unfold strV at HA
  obtain ⟨c0, c1, c2, f0, f1, f2, hl1⟩ := HT.out.a.cells
  obtain ⟨d0, d1, d2, g0, g1, g2, hl2⟩ := HT.out.b.cells
  unfold strV
  go_enter Tryz.func12, Tryz.ntmps12
  go_wp2_with fail
  refine (HA.out _).mono ?_; rintro e w1 ⟨rfl, hb⟩
  first
  | (have HT3 := Lib.hid (HT.out.old.trans (hb.mono HT.out.old.size)); clear hb; go_wp2_with fail; go_ret; exact ⟨rfl, HT3.out⟩)
  | (have HT3 := Lib.hid hb; clear hb; go_wp2_with fail; go_ret; exact ⟨rfl, HT3.out⟩)
end Go.Proofs.YtfhogenjpepfnaaGreatDoor

namespace Go.Proofs.YtfhogenjpepfnaaGreatDoor
open Go
/-- A frame that goes on nowhere: behind what it waits for stands a test of no truth value. -/
def stuckFrame : Frame := { fn := 0, tmps := #[], todo := [.beginRound, .code (.cond (.const undef) .skip .skip)], defers := [], mode := .run, kind := .normal }
theorem stuck_stays (P : Program) (v : Value) (w m : _) : step P (lone (stuckFrame.finish v) [] w) ≠ .next m := by
  intro h
  have e : step P (lone (stuckFrame.finish v) [] w) = .ended (.stuck "cond: bool expected" ((stuckFrame.finish v).pos P)) w := by
    refine step_lone_ended ?_
    rfl
  rw [e] at h
  cases h
theorem runN_add {P : Program} : ∀ (n k : Nat) {m m1 : Machine}, runN P n m = .next m1 → runN P (n + k) m = runN P k m1
  | 0, k, m, m1, h => by
    have : m = m1 := by
      unfold runN at h
      injection h
    rw [this, Nat.zero_add]
  | n + 1, k, m, m1, h => by
    rw [Nat.succ_add]
    have e1 : runN P (n + 1) m = match step P m with | .next m => runN P n m | e => e := rfl
    have e2 : runN P (n + k + 1) m = match step P m with | .next m => runN P (n + k) m | e => e := rfl
    rw [e1] at h
    rw [show Nat.succ (n + k) = n + k + 1 from rfl, e2]
    cases hs : step P m with
    | next m' =>
      rw [hs] at h
      exact runN_add n k h
    | _ => rw [hs] at h; cases h
theorem leave_last {P : Program} {fr1 fr2 : Frame} {w1 w2 : World} {v1 : Value} (h1 : fr1.leaving P w1 (.returned v1)) : ∀ k, runN P k (lone fr1 [stuckFrame] w1) = .next (lone fr2 [stuckFrame] w2) → fr1 = fr2 ∧ w1 = w2
  | 0, h => by
    unfold runN at h
    injection h with h
    unfold lone at h
    simp at h
    exact ⟨h.2, h.1⟩
  | 1, h => by
    unfold runN at h
    rw [step_leave_returned h1] at h
    unfold runN at h
    injection h with h
    unfold lone at h
    simp at h
  | k + 2, h => by
    unfold runN at h
    rw [step_leave_returned h1] at h
    simp only at h
    unfold runN at h
    cases hs : step P (lone (stuckFrame.finish v1) [] w1) with
    | next m => exact absurd hs (stuck_stays P v1 w1 m)
    | _ => rw [hs] at h; cases h
theorem calls_val {P : Program} {f : FuncId} {args : Array Value} {w : World} {v1 v2 : Value} {R1 R2 : World → Prop} (h1 : Calls P f args w fun e w' => e = .returned v1 ∧ R1 w') (h2 : Calls P f args w fun e w' => e = .returned v2 ∧ R2 w') : v1 = v2 := by
  obtain ⟨e1, w1, fr1, ⟨he1, _⟩, c1, _, l1⟩ := h1 [stuckFrame]
  obtain ⟨e2, w2, fr2, ⟨he2, _⟩, c2, _, l2⟩ := h2 [stuckFrame]
  subst he1; subst he2
  obtain ⟨n, hn⟩ := c1
  obtain ⟨k, hk⟩ := c2
  have same : fr1 = fr2 ∧ w1 = w2 := by
    rcases Nat.le_total n k with h | h
    · obtain ⟨d, rfl⟩ := Nat.exists_eq_add_of_le h
      rw [runN_add n d hn] at hk
      exact leave_last l1 d hk
    · obtain ⟨d, rfl⟩ := Nat.exists_eq_add_of_le h
      rw [runN_add k d hk] at hn
      have := leave_last l2 d hn
      exact ⟨this.1.symm, this.2.symm⟩
  obtain ⟨rfl, rfl⟩ := same
  obtain ⟨_, _, _, fn, hf, hr⟩ := l1
  obtain ⟨_, _, _, fn', hf', hr'⟩ := l2
  rw [hf] at hf'
  injection hf' with hf'
  subst hf'
  rw [hr] at hr'
  injection hr' with hr' _
end Go.Proofs.YtfhogenjpepfnaaGreatDoor

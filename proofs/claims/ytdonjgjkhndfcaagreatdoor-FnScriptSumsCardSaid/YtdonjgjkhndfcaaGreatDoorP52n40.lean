/- Contracts of the program's functions and what they compute: part 40. Conditions: those that each theorem states. -/
import Derived.Test.YtdonjgjkhndfcaaGreatDoorP52n1
import Derived.Test.YtdonjgjkhndfcaaGreatDoorP52n2
import Derived.Test.YtdonjgjkhndfcaaGreatDoorP52n6
import Derived.Test.YtdonjgjkhndfcaaGreatDoorP52n8
import Derived.Test.YtdonjgjkhndfcaaGreatDoorP52n9
import Derived.Test.YtdonjgjkhndfcaaGreatDoorP52n10
import Derived.Test.YtdonjgjkhndfcaaGreatDoorP52n11
import Derived.Test.YtdonjgjkhndfcaaGreatDoorP52n12
import Derived.Test.YtdonjgjkhndfcaaGreatDoorP52n13
import Derived.Test.YtdonjgjkhndfcaaGreatDoorP52n28
import Derived.Test.YtdonjgjkhndfcaaGreatDoorP52n36
import Derived.Deep.RegionHeld3
import Derived.Laws.IdiomStrings
import Derived.Deep.DeepCutAuto
import Derived.Deep.RegionLaw
import Derived.Deep.CutBlock
import Derived.Deep.AppendLies
import Derived.IntWalk
import Derived.Maps.AppendAt
import Derived.Calls
import Derived.Control
namespace Go.Proofs.YtdonjgjkhndfcaaGreatDoor
open Go.RowKit
set_option linter.unusedVariables false
set_option maxRecDepth 100000
theorem outT_foldl : ∀ (os : List ByteArray) (t : ByteArray), (os.foldl (fun t o => t ++ (o ++ ⟨#[10]⟩)) t).size = t.size + (os.map fun o => o.size + 1).sum
  | [], t => by simp
  | o :: os, t => by
    rw [List.foldl_cons, outT_foldl os, ByteArray.size_append, ByteArray.size_append, List.map_cons, List.sum_cons]
    show t.size + (o.size + 1) + _ = _
    omega
theorem outT_size (os : List ByteArray) : (outT os).size = (os.map fun o => o.size + 1).sum := by
  unfold outT
  rw [outT_foldl]
  show 0 + _ = _
  omega
theorem sum_take (l : List Nat) : ∀ j, (l.take j).sum ≤ l.sum := by
  induction l with
  | nil => intro j; simp
  | cons x l ih =>
    intro j
    cases j with
    | zero => simp
    | succ j => have := ih j; simp only [List.take_succ_cons, List.sum_cons]; omega
theorem outT_take (os : List ByteArray) (j : Nat) : (outT (os.take j)).size ≤ (outT os).size := by
  rw [outT_size, outT_size, List.map_take]
  exact sum_take _ _
theorem linesL_size : ∀ ls : List ByteArray, (linesL (ls.map fun s => s.data.toList)).length = (ls.map fun o => o.size + 1).sum
  | [] => rfl
  | l :: ls => by
    have := linesL_size ls
    simp only [List.map_cons, linesL, List.length_append, List.length_cons, List.sum_cons, this]
    have : l.data.toList.length = l.size := by simp
    omega
theorem linesB_size (ls : List ByteArray) : (linesB ls).size = (ls.map fun o => o.size + 1).sum := by
  rw [← linesL_size]
  show (linesL _).toArray.size = _
  simp
end Go.Proofs.YtdonjgjkhndfcaaGreatDoor

namespace Go.Proofs.YtdonjgjkhndfcaaGreatDoor
open Go
/-- A frame that goes on nowhere: behind what it waits for stands a test of no truth value. -/
def stuckFrame : Frame := { fn := 0, tmps := #[], todo := [.beginRound, .code (.cond (.const undef) .skip .skip)], defers := [], mode := .run, kind := .normal }
theorem stuck_stays (P : Program) (v : Value) (w m : _) : step P (lone (stuckFrame.finish v) [] w) ≠ .next m := by
  intro h
  have e : step P (lone (stuckFrame.finish v) [] w) = .ended (.stuck "cond: bool expected" ((stuckFrame.finish v).pos P)) w := by
    refine step_lone_ended ?_
    rfl
  rw [e] at h
  cases h
theorem runN_add {P : Program} : ∀ (n k : Nat) {m m1 : Machine}, runN P n m = .next m1 → runN P (n + k) m = runN P k m1
  | 0, k, m, m1, h => by
    have : m = m1 := by
      unfold runN at h
      injection h
    rw [this, Nat.zero_add]
  | n + 1, k, m, m1, h => by
    rw [Nat.succ_add]
    have e1 : runN P (n + 1) m = match step P m with | .next m => runN P n m | e => e := rfl
    have e2 : runN P (n + k + 1) m = match step P m with | .next m => runN P (n + k) m | e => e := rfl
    rw [e1] at h
    rw [show Nat.succ (n + k) = n + k + 1 from rfl, e2]
    cases hs : step P m with
    | next m' =>
      rw [hs] at h
      exact runN_add n k h
    | _ => rw [hs] at h; cases h
theorem leave_last {P : Program} {fr1 fr2 : Frame} {w1 w2 : World} {v1 : Value} (h1 : fr1.leaving P w1 (.returned v1)) : ∀ k, runN P k (lone fr1 [stuckFrame] w1) = .next (lone fr2 [stuckFrame] w2) → fr1 = fr2 ∧ w1 = w2
  | 0, h => by
    unfold runN at h
    injection h with h
    unfold lone at h
    simp at h
    exact ⟨h.2, h.1⟩
  | 1, h => by
    unfold runN at h
    rw [step_leave_returned h1] at h
    unfold runN at h
    injection h with h
    unfold lone at h
    simp at h
  | k + 2, h => by
    unfold runN at h
    rw [step_leave_returned h1] at h
    simp only at h
    unfold runN at h
    cases hs : step P (lone (stuckFrame.finish v1) [] w1) with
    | next m => exact absurd hs (stuck_stays P v1 w1 m)
    | _ => rw [hs] at h; cases h
theorem calls_val {P : Program} {f : FuncId} {args : Array Value} {w : World} {v1 v2 : Value} {R1 R2 : World → Prop} (h1 : Calls P f args w fun e w' => e = .returned v1 ∧ R1 w') (h2 : Calls P f args w fun e w' => e = .returned v2 ∧ R2 w') : v1 = v2 := by
  obtain ⟨e1, w1, fr1, ⟨he1, _⟩, c1, _, l1⟩ := h1 [stuckFrame]
  obtain ⟨e2, w2, fr2, ⟨he2, _⟩, c2, _, l2⟩ := h2 [stuckFrame]
  subst he1; subst he2
  obtain ⟨n, hn⟩ := c1
  obtain ⟨k, hk⟩ := c2
  have same : fr1 = fr2 ∧ w1 = w2 := by
    rcases Nat.le_total n k with h | h
    · obtain ⟨d, rfl⟩ := Nat.exists_eq_add_of_le h
      rw [runN_add n d hn] at hk
      exact leave_last l1 d hk
    · obtain ⟨d, rfl⟩ := Nat.exists_eq_add_of_le h
      rw [runN_add k d hk] at hn
      have := leave_last l2 d hn
      exact ⟨this.1.symm, this.2.symm⟩
  obtain ⟨rfl, rfl⟩ := same
  obtain ⟨_, _, _, fn, hf, hr⟩ := l1
  obtain ⟨_, _, _, fn', hf', hr'⟩ := l2
  rw [hf] at hf'
  injection hf' with hf'
  subst hf'
  rw [hr] at hr'
  injection hr' with hr' _
end Go.Proofs.YtdonjgjkhndfcaaGreatDoor

/- Contracts of the program's functions and what they compute: part 28. Conditions: those that each theorem states. -/
import Derived.Test.YtihomcedaaiidaaGreatDoorP55n12
import Derived.Test.YtihomcedaaiidaaGreatDoorP55n19
import Derived.Test.YtihomcedaaiidaaGreatDoorP55n21
import Derived.Test.YtihomcedaaiidaaGreatDoorP55n23
import Derived.Test.YtihomcedaaiidaaGreatDoorP55n25
import Derived.Test.YtihomcedaaiidaaGreatDoorP55n26
import Derived.Test.YtihomcedaaiidaaGreatDoorP55n27
import Derived.Calls
import Derived.Control
namespace Go.Proofs.YtihomcedaaiidaaGreatDoor
open Go.RowKit
set_option linter.unusedVariables false
namespace Fm
/-- It hangs on the structure's elements alone. -/
theorem holds_ext {a b : Gs.St} (hn : a.n = b.n) (hs : ∀ x, x < a.n → a.s x = b.s x) (hr : ∀ x y, x < a.n → y < a.n → a.r x y = b.r x y) : ∀ (φ : T) (e : Env), (∀ v, e v < a.n) → holds a φ e = holds b φ e
  | .lit b, e, _ => rfl
  | .set v, e, h => hs _ (h v)
  | .rel true v w, e, h => hr _ _ (h v) (h w)
  | .rel false v w, e, _ => rfl
  | .neg f, e, h => by simp only [holds]; rw [holds_ext hn hs hr f e h]
  | .bin true f g, e, h => by simp only [holds]; rw [holds_ext hn hs hr f e h, holds_ext hn hs hr g e h]
  | .bin false f g, e, h => by simp only [holds]; rw [holds_ext hn hs hr f e h, holds_ext hn hs hr g e h]
  | .qu q v f, e, h => by
    simp only [holds]
    have : cnt (fun x => holds a f (upd e v x)) a.n = cnt (fun x => holds b f (upd e v x)) a.n := cnt_congr (fun x hx => holds_ext hn hs hr f (upd e v x) (fun u => by
      unfold upd
      split
      · exact hx
      · exact h u))
    rw [this, hn]
end Fm
theorem oneAt_bitsI (f : Nat → Bool) (n x : Nat) (h : x < n) : oneAt (bitsOf f n) x = f x := by
  unfold oneAt bitsOf
  have e : ((List.range n).map fun i => bit (f i)).getD x 0 = bit (f x) := by simp [h]
  show (((List.range n).map fun i => bit (f i)).toArray.toList.getD x 0 == 49) = f x
  rw [List.toList_toArray, e]
  cases f x <;> rfl
theorem relAt_gridI (f : Nat → Nat → Bool) (n x y : Nat) (hx : x < n) (hy : y < n) : relAt n (gridOf f n) x y = f x y := by
  unfold relAt gridOf
  have h : (x + 1) * n ≤ n * n := Nat.mul_le_mul_right _ (by omega)
  rw [Nat.succ_mul] at h
  rw [oneAt_bitsI _ _ _ (by omega)]
  exact grid_at (r := f) hy
theorem rank_some {f : ByteArray} {φ : Fm.T} (h : readB f = some φ) : rankV f = (Fm.rank φ : Int) := by unfold rankV; rw [h]
end Go.Proofs.YtihomcedaaiidaaGreatDoor
namespace Go.Proofs.YtihomcedaaiidaaGreatDoor
open Go.RowKit
set_option linter.unusedVariables false
set_option maxRecDepth 100000
/-- Four elements of n that lie in a slice. -/
def Four (n : Nat) (w : World) (e : Ending) (w' : World) : Prop := ∃ v L, e = .returned v ∧ L.length = 4 ∧ (∀ j, j < L.length → L.getD j 0 < n) ∧ NumsAt w' v L ∧ Below w.heap.size w w'
theorem Four.mk {n : Nat} {w w' : World} {x y z u : Nat} {T : TypeId} (hx : x < n) (hy : y < n) (hz : z < n) (hu : u < n) (hb : Below w.heap.size w w') :
    Four n w (.returned (.slice (some ⟨w'.heap.size, 0, none⟩) 4 4)) (w'.alloc (.cells #[.int .i64 (x : Int), .int .i64 (y : Int), .int .i64 (z : Int), .int .i64 (u : Int)] T)) := by
  refine ⟨_, [x, y, z, u], rfl, rfl, ?_, .inr ⟨w'.heap.size, 0, 4, rfl, Nat.le_refl _, by decide, by simp, ?_⟩, hb.alloc hb.size _⟩
  · intro j hj
    rcases j with _ | _ | _ | _ | j
    · exact hx
    · exact hy
    · exact hz
    · exact hu
    · simp at hj; omega
  · intro j hj
    rw [Nat.zero_add, World.cell?_alloc_new]
    rcases j with _ | _ | _ | _ | j
    · rfl
    · rfl
    · rfl
    · rfl
    · simp at hj; omega
end Go.Proofs.YtihomcedaaiidaaGreatDoor

namespace Go.Proofs.YtihomcedaaiidaaGreatDoor
open Go.RowKit
set_option linter.unusedVariables false
set_option maxRecDepth 100000
/-- The text of a slice of bytes, of no bytes too. -/
theorem conv_row (W : World) (av : Option Addr) (cap : Nat) (l : List UInt8) (h : l = [] ∨ ∃ g, av = some ⟨g, 0, none⟩ ∧ ∀ j (hj : j < l.length), W.cell? ⟨g, j, none⟩ = some (.int .u8 (l[j].toNat : Int))) :
    (convert 22 9 (.slice av l.length cap)).run Tryz.prog W = .ok (.string (txtS l)) W := by
  rcases h with rfl | ⟨g, rfl, hc⟩
  · cases av with
    | none =>
      show (convert 22 9 (.slice none 0 cap)).run Tryz.prog W = .ok (.string ⟨#[]⟩) W
      rw [run_convert_bytes_string W 22 9 5 none 0 cap Tryz.underlying22 Tryz.underlying5 Tryz.underlying9]
      simp [Conv.bytesToString]
      rfl
    | some a => exact run_convert_bytes_back W 22 9 5 a cap [] Tryz.underlying22 Tryz.underlying5 Tryz.underlying9 (fun j hj => by simp at hj)
  · exact conv_bytes W g cap l hc
end Go.Proofs.YtihomcedaaiidaaGreatDoor

namespace Go.Proofs.YtihomcedaaiidaaGreatDoor
open Go
/-- A frame that goes on nowhere: behind what it waits for stands a test of no truth value. -/
def stuckFrame : Frame := { fn := 0, tmps := #[], todo := [.beginRound, .code (.cond (.const undef) .skip .skip)], defers := [], mode := .run, kind := .normal }
theorem stuck_stays (P : Program) (v : Value) (w m : _) : step P (lone (stuckFrame.finish v) [] w) ≠ .next m := by
  intro h
  have e : step P (lone (stuckFrame.finish v) [] w) = .ended (.stuck "cond: bool expected" ((stuckFrame.finish v).pos P)) w := by
    refine step_lone_ended ?_
    rfl
  rw [e] at h
  cases h
theorem runN_add {P : Program} : ∀ (n k : Nat) {m m1 : Machine}, runN P n m = .next m1 → runN P (n + k) m = runN P k m1
  | 0, k, m, m1, h => by
    have : m = m1 := by
      unfold runN at h
      injection h
    rw [this, Nat.zero_add]
  | n + 1, k, m, m1, h => by
    rw [Nat.succ_add]
    have e1 : runN P (n + 1) m = match step P m with | .next m => runN P n m | e => e := rfl
    have e2 : runN P (n + k + 1) m = match step P m with | .next m => runN P (n + k) m | e => e := rfl
    rw [e1] at h
    rw [show Nat.succ (n + k) = n + k + 1 from rfl, e2]
    cases hs : step P m with
    | next m' =>
      rw [hs] at h
      exact runN_add n k h
    | _ => rw [hs] at h; cases h
theorem leave_last {P : Program} {fr1 fr2 : Frame} {w1 w2 : World} {v1 : Value} (h1 : fr1.leaving P w1 (.returned v1)) : ∀ k, runN P k (lone fr1 [stuckFrame] w1) = .next (lone fr2 [stuckFrame] w2) → fr1 = fr2 ∧ w1 = w2
  | 0, h => by
    unfold runN at h
    injection h with h
    unfold lone at h
    simp at h
    exact ⟨h.2, h.1⟩
  | 1, h => by
    unfold runN at h
    rw [step_leave_returned h1] at h
    unfold runN at h
    injection h with h
    unfold lone at h
    simp at h
  | k + 2, h => by
    unfold runN at h
    rw [step_leave_returned h1] at h
    simp only at h
    unfold runN at h
    cases hs : step P (lone (stuckFrame.finish v1) [] w1) with
    | next m => exact absurd hs (stuck_stays P v1 w1 m)
    | _ => rw [hs] at h; cases h
theorem calls_val {P : Program} {f : FuncId} {args : Array Value} {w : World} {v1 v2 : Value} {R1 R2 : World → Prop} (h1 : Calls P f args w fun e w' => e = .returned v1 ∧ R1 w') (h2 : Calls P f args w fun e w' => e = .returned v2 ∧ R2 w') : v1 = v2 := by
  obtain ⟨e1, w1, fr1, ⟨he1, _⟩, c1, _, l1⟩ := h1 [stuckFrame]
  obtain ⟨e2, w2, fr2, ⟨he2, _⟩, c2, _, l2⟩ := h2 [stuckFrame]
  subst he1; subst he2
  obtain ⟨n, hn⟩ := c1
  obtain ⟨k, hk⟩ := c2
  have same : fr1 = fr2 ∧ w1 = w2 := by
    rcases Nat.le_total n k with h | h
    · obtain ⟨d, rfl⟩ := Nat.exists_eq_add_of_le h
      rw [runN_add n d hn] at hk
      exact leave_last l1 d hk
    · obtain ⟨d, rfl⟩ := Nat.exists_eq_add_of_le h
      rw [runN_add k d hk] at hn
      have := leave_last l2 d hn
      exact ⟨this.1.symm, this.2.symm⟩
  obtain ⟨rfl, rfl⟩ := same
  obtain ⟨_, _, _, fn, hf, hr⟩ := l1
  obtain ⟨_, _, _, fn', hf', hr'⟩ := l2
  rw [hf] at hf'
  injection hf' with hf'
  subst hf'
  rw [hr] at hr'
  injection hr' with hr' _
end Go.Proofs.YtihomcedaaiidaaGreatDoor

/- Contracts of the program's functions and what they compute: part 27. Conditions: those that each theorem states. -/
import Derived.Test.YtfhogenjpepfnaaGreatDoorP51n24
import Derived.Test.YtfhogenjpepfnaaGreatDoorP51n25
import Derived.Test.YtfhogenjpepfnaaGreatDoorP51n26
namespace Go.Proofs.YtfhogenjpepfnaaGreatDoor
open Go.RowKit
set_option linter.unusedVariables false
set_option maxRecDepth 100000
/-- The neighbours of an element are seen: those not yet met are given their distance and stand in the queue. -/
def bfsIn (d : List Int) (q : List Nat) (v : Nat) : List Nat → List Int × List Nat
  | [] => (d, q)
  | y :: ys => if d.getD y 0 < 0 then bfsIn (d.set y (d.getD v 0 + 1)) (q ++ [y]) v ys else bfsIn d q v ys
/-- The distances when a queue is worked off in so many rounds. -/
def bfs (nb : Nat → List Nat) : Nat → List Int → List Nat → List Int
  | 0, d, _ => d
  | _ + 1, d, [] => d
  | f + 1, d, v :: q => bfs nb f (bfsIn d q v (nb v)).1 (bfsIn d q v (nb v)).2
theorem bfs_nil (nb : Nat → List Nat) (f : Nat) (d : List Int) : bfs nb f d [] = d := by cases f <;> rfl
def negD : List Int → Nat
  | [] => 0
  | x :: l => (if x < 0 then 1 else 0) + negD l
theorem negD_set : ∀ (l : List Int) (y : Nat) (z : Int), l.getD y 0 < 0 → 0 ≤ z → negD (l.set y z) + 1 = negD l
  | [], y, z, h, hz => by simp at h
  | x :: l, 0, z, h, hz => by
    simp at h
    simp [negD, h, show ¬ z < 0 by omega]
    omega
  | x :: l, y + 1, z, h, hz => by
    have := negD_set l y z (by simpa using h) hz
    simp only [List.set_cons_succ, negD]
    omega
/-- The numbers that a block's cells hold. -/
def intsW (w : World) (g n : Nat) : List Int := (List.range n).map fun j => match w.cell? ⟨g, j, none⟩ with | some (.int _ i) => i | _ => 0
theorem intsW_eq {w : World} {g : Nat} {D : List Int} (h : ∀ j, j < D.length → w.cell? ⟨g, j, none⟩ = some (.int .i64 (D.getD j 0))) : intsW w g D.length = D := by
  apply List.ext_getElem
  · simp [intsW]
  · intro j h1 h2
    simp only [intsW, List.getElem_map, List.getElem_range, h j h2]
    simp [h2]
/-- How many are left: elements not met, and elements in the queue. -/
def msr (g n : Nat) (q : Value) (w : World) : Nat := negD (intsW w g n) + (match q with | .slice _ l _ => l | _ => 0)
/-- What holds of the distances and the queue. -/
structure DQ (n : Nat) (D : List Int) (Q : List Nat) : Prop where
  len : D.length = n
  low : ∀ j, -1 ≤ D.getD j 0
  top : ∀ j, D.getD j 0 + negD D ≤ n
  q : ∀ y ∈ Q, y < n
theorem DQ.push {n : Nat} {D : List Int} {Q : List Nat} (h : DQ n D Q) (v y : Nat) (hy : y < n) (h0 : D.getD y 0 < 0) : DQ n (D.set y (D.getD v 0 + 1)) (Q ++ [y]) ∧ negD (D.set y (D.getD v 0 + 1)) + 1 = negD D := by
  have hlv := h.low v
  have hs := negD_set D y (D.getD v 0 + 1) h0 (by omega)
  have hg : ∀ j, (D.set y (D.getD v 0 + 1)).getD j 0 = if y = j then D.getD v 0 + 1 else D.getD j 0 := by
    intro j
    have hl := h.len
    rw [List.getD_eq_getElem?_getD, List.getElem?_set]
    by_cases e : y = j
    · subst e
      rw [if_pos rfl, if_pos rfl, if_pos (by omega)]
      rfl
    · rw [if_neg e, if_neg e, List.getD_eq_getElem?_getD]
  refine ⟨⟨by rw [List.length_set]; exact h.len, fun j => ?_, fun j => ?_, fun z hz => ?_⟩, hs⟩
  · rw [hg]; split
    · omega
    · exact h.low j
  · rw [hg]
    have h1 := h.top v
    have h2 := h.top j
    split <;> omega
  · rcases List.mem_append.1 hz with hz | hz
    · exact h.q z hz
    · rw [List.mem_singleton.1 hz]; exact hy
theorem getD_rep (n j : Nat) : (List.replicate n (-1 : Int)).getD j 0 = if j < n then -1 else 0 := by
  rw [List.getD_eq_getElem?_getD, List.getElem?_replicate]
  split <;> rfl
theorem negD_rep : ∀ n, negD (List.replicate n (-1 : Int)) = n
  | 0 => rfl
  | n + 1 => by
    rw [List.replicate_succ]
    unfold negD
    rw [negD_rep n]
    simp
    omega
theorem DQ.start {n x : Nat} (hx : x < n) : DQ n ((List.replicate n (-1 : Int)).set x 0) [x] ∧ negD ((List.replicate n (-1 : Int)).set x 0) + 1 = n := by
  have h1 := negD_set (List.replicate n (-1 : Int)) x 0 (by rw [getD_rep, if_pos hx]; decide) (by decide)
  rw [negD_rep] at h1
  have hg : ∀ j, ((List.replicate n (-1 : Int)).set x 0).getD j 0 = if x = j then 0 else if j < n then -1 else 0 := by
    intro j
    rw [List.getD_eq_getElem?_getD, List.getElem?_set]
    by_cases e : x = j
    · subst e
      rw [if_pos rfl, if_pos rfl, if_pos (by simpa using hx)]
      rfl
    · rw [if_neg e, if_neg e, ← List.getD_eq_getElem?_getD, getD_rep]
  refine ⟨⟨by simp, fun j => ?_, fun j => ?_, fun z hz => ?_⟩, h1⟩
  · rw [hg]; split
    · omega
    · split <;> omega
  · rw [hg]; split
    · omega
    · split <;> omega
  · rw [List.mem_singleton.1 hz]; exact hx
/-- The distances from an element. -/
def distL (n : Nat) (R : ByteArray) (x : Nat) : List Int := bfs (fun v => nearL n R v n) (n + 1) ((List.replicate n (-1)).set x 0) [x]
/-- What distancesFrom keeps. -/
structure DstB (w : World) (n : Nat) (S R : ByteArray) (g cap : Nat) (D : List Int) (q : Value) (Q : List Nat) (wr : World) : Prop where
  a : SBlk wr w.heap.size n S R
  out : OwnI (w.heap.size + 1) wr (.slice (some ⟨g, 0, none⟩) n cap) D
  que : OwnQ (w.heap.size + 1) wr q Q
  ne : q.ownBlock ≠ some g
  old : Below w.heap.size w wr
section
variable {w wr w' : World} {n : Nat} {S R : ByteArray} {g cap : Nat} {D : List Int} {q q' : Value} {Q Q' : List Nat}
theorem DstB.gl (h : DstB w n S R g cap D q Q wr) : w.heap.size + 1 ≤ g ∧ g < wr.heap.size := h.out.own.lt g rfl
theorem DstB.len (h : DstB w n S R g cap D q Q wr) : D.length = n := by
  obtain ⟨g2, c2, e, _⟩ := h.out.cells
  injection e with e1 e2 e3
  exact e2.symm
theorem DstB.cell (h : DstB w n S R g cap D q Q wr) {j : Nat} (hj : j < n) : wr.cell? ⟨g, j, none⟩ = some (.int .i64 (D.getD j 0)) ∧ wr.frozen? ⟨g, j, none⟩ = false := by
  have e := h.len
  obtain ⟨g2, c2, e1, _, _, _, _, hc⟩ := h.out.cells
  injection e1 with e1 e2 e3
  injection e1 with e1
  injection e1 with e1
  subst e1
  have h1 := h.out.own
  rw [e] at h1
  exact ⟨hc j (by omega), h1.frozenAt j⟩
theorem DstB.below (h : DstB w n S R g cap D q Q wr) (hb : Below wr.heap.size wr w') : DstB w n S R g cap D q Q w' := by
  have := h.gl
  exact ⟨h.a.below hb (by omega), h.out.below hb, h.que.below hb, h.ne, h.old.trans (hb.mono (by omega))⟩
theorem DstB.set (h : DstB w n S R g cap D q Q wr) (y : Nat) (z : Int) : DstB w n S R g cap (D.set y z) q Q (wr.setCell ⟨g, y, none⟩ (.int .i64 z)) := by
  have hg := h.gl
  refine ⟨h.a.far (by simp; omega) _, ?_, ?_, h.ne, h.old.setCell (by simp; omega) _⟩
  · have e := h.len
    have h1 := h.out.own
    rw [e] at h1
    refine ⟨?_, by simp, by simpa [World.setCell] using h.out.low⟩
    rw [List.length_set, List.map_set, e]
    exact (h1.stored y (.int .i64 z)).1
  · refine h.que.kept (fun k hk hl => Below.heap_setCell _ _ _ _ ?_)
    intro e
    exact h.ne (by rw [hk, e])
theorem DstB.push (h : DstB w n S R g cap D q Q wr) (ho : OwnQ (w.heap.size + 1) w' q' Q') (hg : wr.grownBy w' q.ownBlock) (ha : q'.ownBlock = q.ownBlock ∨ ∃ k, q'.ownBlock = some k ∧ wr.heap.size ≤ k) : DstB w n S R g cap D q' Q' w' := by
  have hgl := h.gl
  obtain ⟨k, hk, hk1, hk2⟩ := h.que.block
  refine ⟨(hg.block _ (by omega) (fun e => by rw [hk] at e; injection e with e; omega)).trans h.a, h.out.kept (fun j hj hl => hg.block j hl (fun e => ?_)) hg.size, ho, ?_, h.old.grown hg h.old.size (fun j hj => by rw [hk] at hj; injection hj with hj; omega)⟩
  · have : g = j := by simpa [Value.ownBlock] using hj
    subst this
    exact h.ne e.symm
  · rcases ha with ha | ⟨j, hj, hj2⟩
    · rw [ha]; exact h.ne
    · rw [hj]; intro e; injection e with e; omega
theorem DstB.pop (h : DstB w n S R g cap D q Q wr) (ho : OwnQ (w.heap.size + 1) wr q' Q') (ha : q'.ownBlock = q.ownBlock) : DstB w n S R g cap D q' Q' wr := ⟨h.a, h.out, ho, by rw [ha]; exact h.ne, h.old⟩
theorem DstB.msr (h : DstB w n S R g cap D q Q wr) : msr g n q wr = negD D + Q.length := by
  obtain ⟨g', o, c, rfl, _⟩ := h.que.view
  obtain ⟨g2, c2, e, _, _, _, _, hc⟩ := h.out.cells
  injection e with e1 e2 e3
  injection e1 with e1
  injection e1 with e1
  subst e1
  unfold Go.Proofs.YtfhogenjpepfnaaGreatDoor.msr
  rw [← h.len, intsW_eq hc]
end
/-- The neighbours' list, which neither the distances nor the queue turn. -/
structure NbAt (wr : World) (v : Value) (L : List Nat) (g : Nat) (q : Value) : Prop where
  at_ : NumsAt wr v L
  ne : ∀ k, v.ownBlock = some k → k ≠ g ∧ q.ownBlock ≠ some k ∧ k < wr.heap.size
theorem NbAt.keep {wr w' : World} {v : Value} {L : List Nat} {g : Nat} {q q' : Value} (h : NbAt wr v L g q) (hb : ∀ k, v.ownBlock = some k → w'.heap[k]? = wr.heap[k]?) (hs : wr.heap.size ≤ w'.heap.size) (hq : q'.ownBlock = q.ownBlock ∨ ∃ k, q'.ownBlock = some k ∧ wr.heap.size ≤ k) : NbAt w' v L g q' := by
  refine ⟨?_, fun k hk => ?_⟩
  · rcases h.at_ with h1 | ⟨g1, o, cap, rfl, h1, h2, hg, hc⟩
    · exact .inl h1
    · exact .inr ⟨g1, o, cap, rfl, h1, h2, by omega, fun j hj => by
        rw [← hc j hj]
        exact World.cell?_of_block (hb g1 rfl)⟩
  · obtain ⟨a1, a2, a3⟩ := h.ne k hk
    refine ⟨a1, ?_, by omega⟩
    rcases hq with e | ⟨j, e, hj⟩
    · rw [e]; exact a2
    · rw [e]; intro e2; injection e2 with e2; omega
end Go.Proofs.YtfhogenjpepfnaaGreatDoor

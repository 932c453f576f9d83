/- Contracts of the program's functions and what they compute: part 15. Conditions: those that each theorem states. -/
import Derived.Test.YtdonjgjkhndfcaaGreatDoorP52n14
import Derived.ArgAppend
namespace Go.Proofs.YtdonjgjkhndfcaaGreatDoor
open Go.RowKit
set_option linter.unusedVariables false
set_option maxRecDepth 100000
/-- The slice v of the world w is the call's own since block B, may begin anywhere in its block, and holds the numbers L. -/
def OwnQ (B : Nat) (w : World) (v : Value) (L : List Nat) : Prop :=
  ∃ g o cap cur, v = .slice (some ⟨g, o, none⟩) L.length cap ∧ B ≤ g ∧ w.heap[g]? = some (.cells cur 3 (0, 0)) ∧ L.length ≤ cap ∧ cap ≤ maxLen ∧ o + cap ≤ cur.size ∧
    ∀ j, j < L.length → cur[o + j]? = some (.int .i64 ((L.getD j 0 : Nat) : Int))
theorem cell_of_block {w : World} {g : Nat} {cur : Array Value} {t : TypeId} (h : w.heap[g]? = some (.cells cur t (0, 0))) (k : Nat) : w.cell? ⟨g, k, none⟩ = cur[k]? ∧ w.frozen? ⟨g, k, none⟩ = false := by
  refine ⟨?_, by unfold World.frozen?; rw [h]; rfl⟩
  unfold World.cell?
  rw [h]
  rfl
theorem getD_snoc_lt (L : List Nat) (y j : Nat) (h : j < L.length) : (L ++ [y]).getD j 0 = L.getD j 0 := by
  rw [List.getD_eq_getElem?_getD, List.getD_eq_getElem?_getD, List.getElem?_append_left h]
theorem getD_snoc_at (L : List Nat) (y : Nat) : (L ++ [y]).getD L.length 0 = y := by simp
section
variable {B : Nat} {w w' : World} {v : Value} {L : List Nat}
theorem OwnQ.block (h : OwnQ B w v L) : ∃ k, v.ownBlock = some k ∧ B ≤ k ∧ k < w.heap.size := by
  obtain ⟨g, o, cap, cur, rfl, h1, h2, _⟩ := h
  exact ⟨g, rfl, h1, (Array.getElem?_eq_some_iff.1 h2).1⟩
theorem OwnQ.kept (h : OwnQ B w v L) (hb : ∀ k, v.ownBlock = some k → k < w.heap.size → w'.heap[k]? = w.heap[k]?) : OwnQ B w' v L := by
  obtain ⟨g, o, cap, cur, rfl, h1, h2, h3⟩ := h
  exact ⟨g, o, cap, cur, rfl, h1, by rw [hb g rfl (Array.getElem?_eq_some_iff.1 h2).1]; exact h2, h3⟩
theorem OwnQ.below (h : OwnQ B w v L) (hb : Below w.heap.size w w') : OwnQ B w' v L := h.kept (fun k _ hk => hb.block k hk)
theorem OwnQ.view (h : OwnQ B w v L) : ∃ g o cap, v = .slice (some ⟨g, o, none⟩) L.length cap ∧ B ≤ g ∧ g < w.heap.size ∧ L.length ≤ cap ∧ cap ≤ maxLen ∧ (∀ j, j < L.length → w.cell? ⟨g, o + j, none⟩ = some (.int .i64 ((L.getD j 0 : Nat) : Int))) ∧ ∀ j, w.frozen? ⟨g, j, none⟩ = false := by
  obtain ⟨g, o, cap, cur, rfl, h1, h2, h3, h4, h5, h6⟩ := h
  exact ⟨g, o, cap, rfl, h1, (Array.getElem?_eq_some_iff.1 h2).1, h3, h4, fun j hj => by rw [(cell_of_block h2 _).1]; exact h6 j hj, fun j => (cell_of_block h2 j).2⟩
theorem OwnQ.one (B : Nat) (w : World) (hB : B ≤ w.heap.size) (x : Nat) (t : Int) (ht : t = (x : Int)) : OwnQ B (w.alloc (.cells #[.int .i64 t] 3)) (.slice (some ⟨w.heap.size, 0, none⟩) 1 1) [x] := by
  subst ht
  refine ⟨w.heap.size, 0, 1, #[.int .i64 (x : Int)], rfl, hB, heap_alloc_new w _, by simp, by decide, by simp, fun j hj => ?_⟩
  have : j = 0 := by simp at hj; exact hj
  subst this
  rfl
/-- The slice without its first. -/
theorem OwnQ.tail {x : Nat} (h : OwnQ B w v (x :: L)) : ∃ v', OwnQ B w v' L ∧ v'.ownBlock = v.ownBlock ∧ ∀ wx, (Instr.slice 29 v (some (.int .i64 1)) none none).run Tryz.prog wx = .ok v' wx := by
  obtain ⟨g, o, cap, cur, rfl, h1, h2, h3, h4, h5, h6⟩ := h
  have h3' : L.length + 1 ≤ cap := h3
  have hr : ∀ wx, (Instr.slice 29 (.slice (some ⟨g, o, none⟩) (L.length + 1) cap) (some (.int .i64 1)) none none).run Tryz.prog wx = .ok (sliced (some ⟨g, o, none⟩) 1 (L.length + 1) cap 1) wx := by
    intro wx
    rw [run_slice_l (P := Tryz.prog) wx 29 (some ⟨g, o, none⟩) (L.length + 1) cap (by kernel_rfl) .i64 1 (by decide) (by omega)]
    kernel_rfl
  have hn : ∀ j, j < L.length → cur[o + 1 + j]? = some (.int .i64 ((L.getD j 0 : Nat) : Int)) := fun j hj => by
    have := h6 (j + 1) (by simp; omega)
    rw [Nat.add_assoc, Nat.add_comm 1 j]
    simpa using this
  by_cases hc : cap = 1
  · refine ⟨_, ⟨g, o, cap - 1, cur, ?_, h1, h2, by omega, by omega, by omega, fun j hj => ?_⟩, ?_, hr⟩
    · unfold sliced
      rw [if_pos hc]
      simp
    · omega
    · unfold sliced
      rw [if_pos hc]
      rfl
  · refine ⟨_, ⟨g, o + 1, cap - 1, cur, ?_, h1, h2, by omega, by omega, by omega, hn⟩, ?_, hr⟩
    · unfold sliced
      rw [if_neg hc]
      simp [Addr.add_lit]
    · unfold sliced
      rw [if_neg hc]
      simp [Addr.add_lit, Value.ownBlock]
end
/-- One number is appended to a queue: the new one lies where it lay, or in a new block. -/
theorem wpList_ownQ1 {ops : Array Oper} {rest : List Oper} {o : Oper} {a : Act} {Q : Exit → Act → World → Prop} {B : Nat} {w : World} {v : Value} {L : List Nat}
    (hown : OwnQ B w v L) (hL : L.length ≤ 2000000) (hB : B ≤ w.heap.size) (hgd : o.guard = none) (s x : Operand)
    (ho : o.op = .call { callee := .builtin .append, args := #[s, x], argTypes := #[29, 29] }) (y : Nat) (b : Nat) (hb : w.heap.size = b)
    (hs : a.eval s = v) (hx : a.eval x = .slice (some ⟨b, 0, none⟩) 1 1)
    (h : ∀ v' w', OwnQ B w' v' (L ++ [y]) → w.grownBy w' v.ownBlock → (v'.ownBlock = v.ownBlock ∨ ∃ k, v'.ownBlock = some k ∧ w.heap.size ≤ k) → wpList Tryz.prog ops Q rest (a.put o.dst v') w') :
    wpList Tryz.prog ops Q (o :: rest) a (w.alloc (.cells #[.int .i64 (y : Int)] 3)) := by
  subst hb
  obtain ⟨i, hi, hz, h1, h2⟩ := info_parts natInfo3
  obtain ⟨g, of, cap, cur, rfl, hBg, hg, hlc, hcm, hoc, hcur⟩ := hown
  have hgl : g < w.heap.size := (Array.getElem?_eq_some_iff.1 hg).1
  have hg' : (w.alloc (.cells #[.int .i64 (y : Int)] 3)).heap[g]? = some (.cells cur 3 (0, 0)) := by rw [Below.heap_alloc _ _ _ hgl]; exact hg
  refine wpList_append_arg _ hgd s x 29 ho 3 i (.int .i64 0) 1 8 Tryz.underlying29 hi hz h1 h2 rfl (by decide) g of L.length cap (L.map fun z : Nat => Value.int .i64 (z : Int)) hs (by simp) ?_ ⟨w.heap.size, 0, none⟩ 1 1 [.int .i64 (y : Int)] hx rfl ?_ ?_ ?_ ?_ ?_ ?_ ?_
  · intro j u hj
    rw [(cell_of_block hg' _).1]
    have hjl : j < L.length := by
      have := (List.getElem?_eq_some_iff.1 hj).1
      simpa using this
    rw [hcur j hjl]
    simp [hjl] at hj
    simp [hjl, hj]
  · intro j u hj
    match j, hj with
    | 0, hj => simp at hj; subst hj; simp [Addr.add]
  · intro u hu
    simp at hu; subst hu; rfl
  · intro hr j hj
    have hj0 : j = 0 := by simp at hj; exact hj
    subst hj0
    refine ⟨?_, (cell_of_block hg' _).2⟩
    rw [(cell_of_block hg' _).1]
    simp
    omega
  · unfold maxLen; omega
  · omega
  · intro hr
    refine h _ _ ⟨g, of, cap, cur.setIfInBounds (of + L.length) (.int .i64 (y : Int)), by simp, hBg, ?_, by simpa using hr, hcm, by simpa using hoc, ?_⟩ ?_ (.inl rfl)
    · simp only [World.setCells, Nat.mul_one]
      exact heap_setCell_same _ g _ cur _ _ hg'
    · intro j hj
      simp at hj
      by_cases hjl : j = L.length
      · subst hjl
        rw [getD_snoc_at, Array.getElem?_setIfInBounds_self_of_lt (by omega)]
      · rw [Array.getElem?_setIfInBounds_ne (by omega), hcur j (by omega), getD_snoc_lt _ _ _ (by omega)]
    · refine ⟨rfl, rfl, rfl, by simp [World.setCells], fun k hk hne => ?_⟩
      simp only [World.setCells]
      rw [Below.heap_setCell _ _ _ _ (by intro e; apply hne; simp [Value.ownBlock, e]), Below.heap_alloc _ _ _ hk]
  · intro hr v' w' h2 h3
    have hsz := h3.size
    simp at hsz
    have hg2 : w.grownBy w' (Value.slice (some ⟨g, of, none⟩) L.length cap).ownBlock := ⟨h3.os, h3.tape, h3.output, by omega, fun k hk hne => by rw [h3.block k (by simp; omega) (by simp), Below.heap_alloc _ _ _ hk]⟩
    rcases h2.2 with ⟨_, h0⟩ | ⟨g2, cap2, cur2, rfl, hb2, hg2b, hn2, hc2, hcs2, ht2⟩
    · omega
    · refine h _ w' ⟨g2, 0, cap2, cur2, by simp, by simp at hb2; omega, hg2b, by simpa using hn2, hc2, by omega, fun j hj => ?_⟩ hg2 (.inr ⟨g2, rfl, by simp at hb2; omega⟩)
      simp at hj
      have e : cur2.toList[j]? = (L.map (fun z : Nat => Value.int .i64 (z : Int)) ++ [.int .i64 (y : Int)])[j]? := by
        rw [← ht2, List.getElem?_take, if_pos (by omega)]
      simp only [Array.getElem?_toList] at e
      rw [Nat.zero_add, e]
      by_cases hjl : j = L.length
      · subst hjl; simp
      · rw [List.getElem?_append_left (by simp; omega)]
        rw [getD_snoc_lt _ _ _ (by omega)]
        simp [show j < L.length by omega]
end Go.Proofs.YtdonjgjkhndfcaaGreatDoor

namespace Go.Proofs.YtdonjgjkhndfcaaGreatDoor
open Go.RowKit
set_option linter.unusedVariables false
set_option maxRecDepth 100000
/-- The neighbours of an element are seen: those not yet met are given their distance and stand in the queue. -/
def bfsIn (d : List Int) (q : List Nat) (v : Nat) : List Nat → List Int × List Nat
  | [] => (d, q)
  | y :: ys => if d.getD y 0 < 0 then bfsIn (d.set y (d.getD v 0 + 1)) (q ++ [y]) v ys else bfsIn d q v ys
/-- The distances when a queue is worked off in so many rounds. -/
def bfs (nb : Nat → List Nat) : Nat → List Int → List Nat → List Int
  | 0, d, _ => d
  | _ + 1, d, [] => d
  | f + 1, d, v :: q => bfs nb f (bfsIn d q v (nb v)).1 (bfsIn d q v (nb v)).2
theorem bfs_nil (nb : Nat → List Nat) (f : Nat) (d : List Int) : bfs nb f d [] = d := by cases f <;> rfl
def negD : List Int → Nat
  | [] => 0
  | x :: l => (if x < 0 then 1 else 0) + negD l
theorem negD_set : ∀ (l : List Int) (y : Nat) (z : Int), l.getD y 0 < 0 → 0 ≤ z → negD (l.set y z) + 1 = negD l
  | [], y, z, h, hz => by simp at h
  | x :: l, 0, z, h, hz => by
    simp at h
    simp [negD, h, show ¬ z < 0 by omega]
    omega
  | x :: l, y + 1, z, h, hz => by
    have := negD_set l y z (by simpa using h) hz
    simp only [List.set_cons_succ, negD]
    omega
/-- The numbers that a block's cells hold. -/
def intsW (w : World) (g n : Nat) : List Int := (List.range n).map fun j => match w.cell? ⟨g, j, none⟩ with | some (.int _ i) => i | _ => 0
theorem intsW_eq {w : World} {g : Nat} {D : List Int} (h : ∀ j, j < D.length → w.cell? ⟨g, j, none⟩ = some (.int .i64 (D.getD j 0))) : intsW w g D.length = D := by
  apply List.ext_getElem
  · simp [intsW]
  · intro j h1 h2
    simp only [intsW, List.getElem_map, List.getElem_range, h j h2]
    simp [h2]
/-- How many are left: elements not met, and elements in the queue. -/
def msr (g n : Nat) (q : Value) (w : World) : Nat := negD (intsW w g n) + (match q with | .slice _ l _ => l | _ => 0)
/-- What holds of the distances and the queue. -/
structure DQ (n : Nat) (D : List Int) (Q : List Nat) : Prop where
  len : D.length = n
  low : ∀ j, -1 ≤ D.getD j 0
  top : ∀ j, D.getD j 0 + negD D ≤ n
  q : ∀ y ∈ Q, y < n
theorem DQ.push {n : Nat} {D : List Int} {Q : List Nat} (h : DQ n D Q) (v y : Nat) (hy : y < n) (h0 : D.getD y 0 < 0) : DQ n (D.set y (D.getD v 0 + 1)) (Q ++ [y]) ∧ negD (D.set y (D.getD v 0 + 1)) + 1 = negD D := by
  have hlv := h.low v
  have hs := negD_set D y (D.getD v 0 + 1) h0 (by omega)
  have hg : ∀ j, (D.set y (D.getD v 0 + 1)).getD j 0 = if y = j then D.getD v 0 + 1 else D.getD j 0 := by
    intro j
    have hl := h.len
    rw [List.getD_eq_getElem?_getD, List.getElem?_set]
    by_cases e : y = j
    · subst e
      rw [if_pos rfl, if_pos rfl, if_pos (by omega)]
      rfl
    · rw [if_neg e, if_neg e, List.getD_eq_getElem?_getD]
  refine ⟨⟨by rw [List.length_set]; exact h.len, fun j => ?_, fun j => ?_, fun z hz => ?_⟩, hs⟩
  · rw [hg]; split
    · omega
    · exact h.low j
  · rw [hg]
    have h1 := h.top v
    have h2 := h.top j
    split <;> omega
  · rcases List.mem_append.1 hz with hz | hz
    · exact h.q z hz
    · rw [List.mem_singleton.1 hz]; exact hy
theorem getD_rep (n j : Nat) : (List.replicate n (-1 : Int)).getD j 0 = if j < n then -1 else 0 := by
  rw [List.getD_eq_getElem?_getD, List.getElem?_replicate]
  split <;> rfl
theorem negD_rep : ∀ n, negD (List.replicate n (-1 : Int)) = n
  | 0 => rfl
  | n + 1 => by
    rw [List.replicate_succ]
    unfold negD
    rw [negD_rep n]
    simp
    omega
theorem DQ.start {n x : Nat} (hx : x < n) : DQ n ((List.replicate n (-1 : Int)).set x 0) [x] ∧ negD ((List.replicate n (-1 : Int)).set x 0) + 1 = n := by
  have h1 := negD_set (List.replicate n (-1 : Int)) x 0 (by rw [getD_rep, if_pos hx]; decide) (by decide)
  rw [negD_rep] at h1
  have hg : ∀ j, ((List.replicate n (-1 : Int)).set x 0).getD j 0 = if x = j then 0 else if j < n then -1 else 0 := by
    intro j
    rw [List.getD_eq_getElem?_getD, List.getElem?_set]
    by_cases e : x = j
    · subst e
      rw [if_pos rfl, if_pos rfl, if_pos (by simpa using hx)]
      rfl
    · rw [if_neg e, if_neg e, ← List.getD_eq_getElem?_getD, getD_rep]
  refine ⟨⟨by simp, fun j => ?_, fun j => ?_, fun z hz => ?_⟩, h1⟩
  · rw [hg]; split
    · omega
    · split <;> omega
  · rw [hg]; split
    · omega
    · split <;> omega
  · rw [List.mem_singleton.1 hz]; exact hx
/-- The distances from an element. -/
def distL (n : Nat) (R : ByteArray) (x : Nat) : List Int := bfs (fun v => nearL n R v n) (n + 1) ((List.replicate n (-1)).set x 0) [x]
/-- What distancesFrom keeps. -/
structure DstB (w : World) (n : Nat) (S R : ByteArray) (g cap : Nat) (D : List Int) (q : Value) (Q : List Nat) (wr : World) : Prop where
  a : SBlk wr w.heap.size n S R
  out : OwnI (w.heap.size + 1) wr (.slice (some ⟨g, 0, none⟩) n cap) D
  que : OwnQ (w.heap.size + 1) wr q Q
  ne : q.ownBlock ≠ some g
  old : Below w.heap.size w wr
section
variable {w wr w' : World} {n : Nat} {S R : ByteArray} {g cap : Nat} {D : List Int} {q q' : Value} {Q Q' : List Nat}
theorem DstB.gl (h : DstB w n S R g cap D q Q wr) : w.heap.size + 1 ≤ g ∧ g < wr.heap.size := h.out.own.lt g rfl
theorem DstB.len (h : DstB w n S R g cap D q Q wr) : D.length = n := by
  obtain ⟨g2, c2, e, _⟩ := h.out.cells
  injection e with e1 e2 e3
  exact e2.symm
theorem DstB.cell (h : DstB w n S R g cap D q Q wr) {j : Nat} (hj : j < n) : wr.cell? ⟨g, j, none⟩ = some (.int .i64 (D.getD j 0)) ∧ wr.frozen? ⟨g, j, none⟩ = false := by
  have e := h.len
  obtain ⟨g2, c2, e1, _, _, _, _, hc⟩ := h.out.cells
  injection e1 with e1 e2 e3
  injection e1 with e1
  injection e1 with e1
  subst e1
  have h1 := h.out.own
  rw [e] at h1
  exact ⟨hc j (by omega), h1.frozenAt j⟩
theorem DstB.below (h : DstB w n S R g cap D q Q wr) (hb : Below wr.heap.size wr w') : DstB w n S R g cap D q Q w' := by
  have := h.gl
  exact ⟨h.a.below hb (by omega), h.out.below hb, h.que.below hb, h.ne, h.old.trans (hb.mono (by omega))⟩
theorem DstB.set (h : DstB w n S R g cap D q Q wr) (y : Nat) (z : Int) : DstB w n S R g cap (D.set y z) q Q (wr.setCell ⟨g, y, none⟩ (.int .i64 z)) := by
  have hg := h.gl
  refine ⟨h.a.far (by simp; omega) _, ?_, ?_, h.ne, h.old.setCell (by simp; omega) _⟩
  · have e := h.len
    have h1 := h.out.own
    rw [e] at h1
    refine ⟨?_, by simp, by simpa [World.setCell] using h.out.low⟩
    rw [List.length_set, List.map_set, e]
    exact (h1.stored y (.int .i64 z)).1
  · refine h.que.kept (fun k hk hl => Below.heap_setCell _ _ _ _ ?_)
    intro e
    exact h.ne (by rw [hk, e])
theorem DstB.push (h : DstB w n S R g cap D q Q wr) (ho : OwnQ (w.heap.size + 1) w' q' Q') (hg : wr.grownBy w' q.ownBlock) (ha : q'.ownBlock = q.ownBlock ∨ ∃ k, q'.ownBlock = some k ∧ wr.heap.size ≤ k) : DstB w n S R g cap D q' Q' w' := by
  have hgl := h.gl
  obtain ⟨k, hk, hk1, hk2⟩ := h.que.block
  refine ⟨(hg.block _ (by omega) (fun e => by rw [hk] at e; injection e with e; omega)).trans h.a, h.out.kept (fun j hj hl => hg.block j hl (fun e => ?_)) hg.size, ho, ?_, h.old.grown hg h.old.size (fun j hj => by rw [hk] at hj; injection hj with hj; omega)⟩
  · have : g = j := by simpa [Value.ownBlock] using hj
    subst this
    exact h.ne e.symm
  · rcases ha with ha | ⟨j, hj, hj2⟩
    · rw [ha]; exact h.ne
    · rw [hj]; intro e; injection e with e; omega
theorem DstB.pop (h : DstB w n S R g cap D q Q wr) (ho : OwnQ (w.heap.size + 1) wr q' Q') (ha : q'.ownBlock = q.ownBlock) : DstB w n S R g cap D q' Q' wr := ⟨h.a, h.out, ho, by rw [ha]; exact h.ne, h.old⟩
theorem DstB.msr (h : DstB w n S R g cap D q Q wr) : msr g n q wr = negD D + Q.length := by
  obtain ⟨g', o, c, rfl, _⟩ := h.que.view
  obtain ⟨g2, c2, e, _, _, _, _, hc⟩ := h.out.cells
  injection e with e1 e2 e3
  injection e1 with e1
  injection e1 with e1
  subst e1
  unfold Go.Proofs.YtdonjgjkhndfcaaGreatDoor.msr
  rw [← h.len, intsW_eq hc]
end
/-- The neighbours' list, which neither the distances nor the queue turn. -/
structure NbAt (wr : World) (v : Value) (L : List Nat) (g : Nat) (q : Value) : Prop where
  at_ : NumsAt wr v L
  ne : ∀ k, v.ownBlock = some k → k ≠ g ∧ q.ownBlock ≠ some k ∧ k < wr.heap.size
theorem NbAt.keep {wr w' : World} {v : Value} {L : List Nat} {g : Nat} {q q' : Value} (h : NbAt wr v L g q) (hb : ∀ k, v.ownBlock = some k → w'.heap[k]? = wr.heap[k]?) (hs : wr.heap.size ≤ w'.heap.size) (hq : q'.ownBlock = q.ownBlock ∨ ∃ k, q'.ownBlock = some k ∧ wr.heap.size ≤ k) : NbAt w' v L g q' := by
  refine ⟨?_, fun k hk => ?_⟩
  · rcases h.at_ with h1 | ⟨g1, o, cap, rfl, h1, h2, hg, hc⟩
    · exact .inl h1
    · exact .inr ⟨g1, o, cap, rfl, h1, h2, by omega, fun j hj => by
        rw [← hc j hj]
        exact World.cell?_of_block (hb g1 rfl)⟩
  · obtain ⟨a1, a2, a3⟩ := h.ne k hk
    refine ⟨a1, ?_, by omega⟩
    rcases hq with e | ⟨j, e, hj⟩
    · rw [e]; exact a2
    · rw [e]; intro e2; injection e2 with e2; omega
end Go.Proofs.YtdonjgjkhndfcaaGreatDoor

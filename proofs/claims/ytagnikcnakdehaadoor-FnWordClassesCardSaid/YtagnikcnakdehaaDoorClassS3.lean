/- What the reference's l12Classes keeps in memory. -/
import Derived.Test.YtagnikcnakdehaaDoorClassS2
namespace Go.Proofs.YtagnikcnakdehaaDoor
open Go.RowKit
set_option linter.unusedVariables false

theorem heapKeep {w : World} {b : Nat} {x : Obj} (h : w.heap[b]? = some x) (o : Obj) : (w.alloc o).heap[b]? = some x :=
  (Below.heap_alloc w o b (Array.getElem?_eq_some_iff.1 h).1).trans h
theorem heapBelow {w w' : World} {b : Nat} {x : Obj} (h : w.heap[b]? = some x) (hb : Below w.heap.size w w') : w'.heap[b]? = some x :=
  (hb.block b (Array.getElem?_eq_some_iff.1 h).1).trans h
theorem heapOff {F : Nat → Prop} {w w' : World} {b : Nat} {x : Obj} (h : w.heap[b]? = some x) (hb : Off F w w') (hF : ¬ F b) : w'.heap[b]? = some x :=
  (hb.block b (Array.getElem?_eq_some_iff.1 h).1 hF).trans h

/-- The memory alone: the words L and the numbers T of the call's own, beside the table. -/
structure ClsMem (w wr : World) (gL gC : Nat) (F0 F : Nat → Prop) (D : List (List UInt8)) (vs : Array Value) (L : List ByteArray) (v u : Value) (T : List Nat) : Prop where
  tbl : Tbl wr gL gC F vs D
  new : ∀ b, F b → F0 b ∨ w.heap.size ≤ b
  tvH : wr.heap[w.heap.size]? = some (.cells #[.slice (some ⟨gL, 0, none⟩) 997 997, .slice (some ⟨gC, 0, none⟩) 1 1] 80 (0, 0))
  tvF : ¬ F w.heap.size
  words : OwnS w.heap.size wr v L
  seen : Own w.heap.size wr u T
  apV : ∀ j, v.ownBlock = some j → ¬ F j
  apU : ∀ j, u.ownBlock = some j → ¬ F j
  neV : v.ownBlock ≠ some w.heap.size
  neU : u.ownBlock ≠ some w.heap.size
  apart : v.ownBlock ≠ u.ownBlock
  old : Off F0 w wr
theorem ClsMem.below {w wr w2 : World} {gL gC : Nat} {F0 F : Nat → Prop} {D : List (List UInt8)} {vs : Array Value} {L : List ByteArray} {v u : Value} {T : List Nat}
    (h : ClsMem w wr gL gC F0 F D vs L v u T) (hb : Below wr.heap.size wr w2) : ClsMem w w2 gL gC F0 F D vs L v u T :=
  ⟨h.tbl.below hb, h.new, heapBelow h.tvH hb, h.tvF, h.words.below hb, h.seen.below hb, h.apV, h.apU, h.neV, h.neU, h.apart, h.old.trans (Off.of_below hb) (fun b e => .inl e)⟩
/-- After the type of the next word is found: the table may have grown, the lists are as they were. -/
theorem ClsMem.typed {w w2 w3 : World} {gL gC : Nat} {F0 F F2 : Nat → Prop} {D D2 : List (List UInt8)} {vs vs2 : Array Value} {L : List ByteArray} {v u : Value} {T : List Nat}
    (h : ClsMem w w2 gL gC F0 F D vs L v u T) (ht : Tbl w3 gL gC F2 vs2 D2) (hoff : Off F w2 w3) (hF2 : ∀ b, F2 b → F b ∨ w2.heap.size ≤ b) : ClsMem w w3 gL gC F0 F2 D2 vs2 L v u T := by
  have hsz := h.old.size
  have htl : w.heap.size < w2.heap.size := (Array.getElem?_eq_some_iff.1 h.tvH).1
  obtain ⟨jv, hv1, hv2, hv3⟩ := h.words.block
  obtain ⟨ju, hu1, hu2, hu3⟩ := h.seen.block
  refine ⟨ht, ?_, heapOff h.tvH hoff h.tvF, ?_, h.words.off hoff h.apV, h.seen.off hoff h.apU, ?_, ?_, h.neV, h.neU, h.apart, ?_⟩
  · intro b hb
    rcases hF2 b hb with e | e
    · exact h.new b e
    · exact .inr (by omega)
  · intro e
    exact (hF2 _ e).elim h.tvF (by omega)
  · intro j hj e
    rw [hv1] at hj
    obtain rfl := Option.some.inj hj
    exact (hF2 _ e).elim (h.apV _ hv1) (by omega)
  · intro j hj e
    rw [hu1] at hj
    obtain rfl := Option.some.inj hj
    exact (hF2 _ e).elim (h.apU _ hu1) (by omega)
  · exact h.old.trans hoff (fun b e => h.new b e)
theorem grownOff {wr w4 : World} {v : Value} {o : Obj} (hg : (wr.alloc o).grownBy w4 v.ownBlock) : Off (fun b => v.ownBlock = some b) wr w4 := by
  have h1 : Off (fun b => v.ownBlock = some b) wr (wr.alloc o) := Off.of_below ((Below.refl _ _).alloc (Nat.le_refl _) _)
  exact h1.trans (Off.grown hg (fun b e => e)) (fun b e => .inl e)
theorem ClsMem.pushV {w wr w4 : World} {gL gC : Nat} {F0 F : Nat → Prop} {D : List (List UInt8)} {vs : Array Value} {L M : List ByteArray} {v v' u : Value} {T : List Nat} {o : Obj}
    (h : ClsMem w wr gL gC F0 F D vs L v u T) (ho : OwnS w.heap.size w4 v' M) (hg : (wr.alloc o).grownBy w4 v.ownBlock) (hat : v'.ownBlock = v.ownBlock ∨ ∃ k, v'.ownBlock = some k ∧ (wr.alloc o).heap.size ≤ k) :
    ClsMem w w4 gL gC F0 F D vs M v' u T := by
  obtain ⟨jv, hv1, hv2, hv3⟩ := h.words.block
  obtain ⟨ju, hu1, hu2, hu3⟩ := h.seen.block
  have hao : (wr.alloc o).heap.size = wr.heap.size + 1 := by simp
  have htl : w.heap.size < wr.heap.size := (Array.getElem?_eq_some_iff.1 h.tvH).1
  have hoff := grownOff hg
  refine ⟨h.tbl.off hoff (fun b hb e => h.apV b e hb), h.new, heapOff h.tvH hoff h.neV, h.tvF, ho, h.seen.off hoff (fun k hk e => h.apart (e.trans hk.symm)), ?_, h.apU, ?_, h.neU, ?_, ?_⟩
  · intro j hj e
    rcases hat with h1 | ⟨k, h1, h2⟩
    · rw [h1] at hj
      exact h.apV j hj e
    · rw [h1] at hj
      obtain rfl := Option.some.inj hj
      have := h.tbl.lt _ e
      omega
  · rcases hat with h1 | ⟨k, h1, h2⟩
    · rw [h1]; exact h.neV
    · rw [h1]
      intro e
      have := Option.some.inj e
      omega
  · rcases hat with h1 | ⟨k, h1, h2⟩
    · rw [h1]; exact h.apart
    · rw [h1, hu1]
      intro e
      have := Option.some.inj e
      omega
  · exact h.old.trans hoff (fun b e => .inr (by rw [hv1] at e; obtain rfl := Option.some.inj e; exact hv2))
theorem ClsMem.pushU {w wr w4 : World} {gL gC : Nat} {F0 F : Nat → Prop} {D : List (List UInt8)} {vs : Array Value} {L : List ByteArray} {v u u' : Value} {T M : List Nat}
    (h : ClsMem w wr gL gC F0 F D vs L v u T) (ho : Own w.heap.size w4 u' M) (hg : wr.grownBy w4 u.ownBlock) (hat : u'.ownBlock = u.ownBlock ∨ ∃ k, u'.ownBlock = some k ∧ wr.heap.size ≤ k) :
    ClsMem w w4 gL gC F0 F D vs L v u' M := by
  obtain ⟨jv, hv1, hv2, hv3⟩ := h.words.block
  obtain ⟨ju, hu1, hu2, hu3⟩ := h.seen.block
  have htl : w.heap.size < wr.heap.size := (Array.getElem?_eq_some_iff.1 h.tvH).1
  have hoff : Off (fun b => u.ownBlock = some b) wr w4 := Off.grown hg (fun b e => e)
  refine ⟨h.tbl.off hoff (fun b hb e => h.apU b e hb), h.new, heapOff h.tvH hoff h.neU, h.tvF, h.words.off hoff (fun k hk e => h.apart (hk.trans e.symm)), ho, h.apV, ?_, h.neV, ?_, ?_, ?_⟩
  · intro j hj e
    rcases hat with h1 | ⟨k, h1, h2⟩
    · rw [h1] at hj
      exact h.apU j hj e
    · rw [h1] at hj
      obtain rfl := Option.some.inj hj
      have := h.tbl.lt _ e
      omega
  · rcases hat with h1 | ⟨k, h1, h2⟩
    · rw [h1]; exact h.neU
    · rw [h1]
      intro e
      have := Option.some.inj e
      omega
  · rcases hat with h1 | ⟨k, h1, h2⟩
    · rw [h1]; exact h.apart
    · rw [h1, hv1]
      intro e
      have := Option.some.inj e
      omega
  · exact h.old.trans hoff (fun b e => .inr (by rw [hu1] at e; obtain rfl := Option.some.inj e; exact hu2))

/-- The memory and what it says of the words P. -/
structure ClsInv (w wr : World) (gL gC k : Nat) (F0 F : Nat → Prop) (E0 E : List (List UInt8)) (vs : Array Value) (P : List ByteArray) (v u : Value) (T : List Nat) : Prop where
  mem : ClsMem w wr gL gC F0 F (E0 ++ E) vs (clsL k P) v u T
  few : E.length ≤ P.length * 585
  types : TypesOf (E0 ++ E) k (clsL k P) T
theorem ClsInv.below {w wr w2 : World} {gL gC k : Nat} {F0 F : Nat → Prop} {E0 E : List (List UInt8)} {vs : Array Value} {P : List ByteArray} {v u : Value} {T : List Nat}
    (h : ClsInv w wr gL gC k F0 F E0 E vs P v u T) (hb : Below wr.heap.size wr w2) : ClsInv w w2 gL gC k F0 F E0 E vs P v u T :=
  ⟨h.mem.below hb, h.few, h.types⟩
/-- The word is like an earlier one. -/
theorem ClsInv.old {w w3 wr : World} {gL gC k : Nat} {F0 F F2 : Nat → Prop} {E0 E E2 : List (List UInt8)} {vs vs2 : Array Value} {P : List ByteArray} {v u : Value} {T : List Nat} {x : ByteArray}
    (h : ClsInv w wr gL gC k F0 F E0 E vs P v u T) (hm : ClsMem w w3 gL gC F0 F2 (E0 ++ E ++ E2) vs2 (clsL k P) v u T) (hE : E2.length ≤ 585)
    (hx : (clsL k P).any (fun v => likeW k v x) = true) : ClsInv w w3 gL gC k F0 F2 E0 (E ++ E2) vs2 (P ++ [x]) v u T := by
  have hcl : clsL k (P ++ [x]) = clsL k P := by rw [clsL_snoc, hx]; rfl
  refine ⟨by rw [hcl, ← List.append_assoc]; exact hm, ?_, by rw [hcl, ← List.append_assoc]; exact h.types.more⟩
  rw [List.length_append, List.length_append, List.length_singleton, Nat.add_mul]
  have := h.few
  omega
/-- The word is of a new class. -/
theorem ClsInv.fresh {w w3 wr : World} {gL gC k m : Nat} {F0 F F2 : Nat → Prop} {E0 E E2 : List (List UInt8)} {vs vs2 : Array Value} {P : List ByteArray} {v u v' u' : Value} {T : List Nat} {x : ByteArray}
    (h : ClsInv w wr gL gC k F0 F E0 E vs P v u T) (hm : ClsMem w w3 gL gC F0 F2 (E0 ++ E ++ E2) vs2 (clsL k P ++ [x]) v' u' (T ++ [m])) (hE : E2.length ≤ 585)
    (ht : Gs.TypeNum (E0 ++ E ++ E2) (wSt x) k [] m) (hx : (clsL k P).any (fun v => likeW k v x) = false) : ClsInv w w3 gL gC k F0 F2 E0 (E ++ E2) vs2 (P ++ [x]) v' u' (T ++ [m]) := by
  have hcl : clsL k (P ++ [x]) = clsL k P ++ [x] := by rw [clsL_snoc, hx]; rfl
  refine ⟨by rw [hcl, ← List.append_assoc]; exact hm, ?_, ?_⟩
  · rw [List.length_append, List.length_append, List.length_singleton, Nat.add_mul]
    have := h.few
    omega
  · rw [hcl, ← List.append_assoc]
    exact h.types.more.snoc ht
end Go.Proofs.YtagnikcnakdehaaDoor

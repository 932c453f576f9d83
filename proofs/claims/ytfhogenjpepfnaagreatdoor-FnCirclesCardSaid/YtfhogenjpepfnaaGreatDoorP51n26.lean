/- Contracts of the program's functions and what they compute: part 26. Conditions: those that each theorem states. -/
import Derived.Test.YtfhogenjpepfnaaGreatDoorP51n25
import Derived.ArgAppend
namespace Go.Proofs.YtfhogenjpepfnaaGreatDoor
open Go.RowKit
set_option linter.unusedVariables false
set_option maxRecDepth 100000
/-- The slice v of the world w is the call's own since block B, may begin anywhere in its block, and holds the numbers L. -/
def OwnQ (B : Nat) (w : World) (v : Value) (L : List Nat) : Prop :=
  ∃ g o cap cur, v = .slice (some ⟨g, o, none⟩) L.length cap ∧ B ≤ g ∧ w.heap[g]? = some (.cells cur 3 (0, 0)) ∧ L.length ≤ cap ∧ cap ≤ maxLen ∧ o + cap ≤ cur.size ∧
    ∀ j, j < L.length → cur[o + j]? = some (.int .i64 ((L.getD j 0 : Nat) : Int))
theorem cell_of_block {w : World} {g : Nat} {cur : Array Value} {t : TypeId} (h : w.heap[g]? = some (.cells cur t (0, 0))) (k : Nat) : w.cell? ⟨g, k, none⟩ = cur[k]? ∧ w.frozen? ⟨g, k, none⟩ = false := by
  refine ⟨?_, by unfold World.frozen?; rw [h]; rfl⟩
  unfold World.cell?
  rw [h]
  rfl
theorem getD_snoc_lt (L : List Nat) (y j : Nat) (h : j < L.length) : (L ++ [y]).getD j 0 = L.getD j 0 := by
  rw [List.getD_eq_getElem?_getD, List.getD_eq_getElem?_getD, List.getElem?_append_left h]
theorem getD_snoc_at (L : List Nat) (y : Nat) : (L ++ [y]).getD L.length 0 = y := by simp
section
variable {B : Nat} {w w' : World} {v : Value} {L : List Nat}
theorem OwnQ.block (h : OwnQ B w v L) : ∃ k, v.ownBlock = some k ∧ B ≤ k ∧ k < w.heap.size := by
  obtain ⟨g, o, cap, cur, rfl, h1, h2, _⟩ := h
  exact ⟨g, rfl, h1, (Array.getElem?_eq_some_iff.1 h2).1⟩
theorem OwnQ.kept (h : OwnQ B w v L) (hb : ∀ k, v.ownBlock = some k → k < w.heap.size → w'.heap[k]? = w.heap[k]?) : OwnQ B w' v L := by
  obtain ⟨g, o, cap, cur, rfl, h1, h2, h3⟩ := h
  exact ⟨g, o, cap, cur, rfl, h1, by rw [hb g rfl (Array.getElem?_eq_some_iff.1 h2).1]; exact h2, h3⟩
theorem OwnQ.below (h : OwnQ B w v L) (hb : Below w.heap.size w w') : OwnQ B w' v L := h.kept (fun k _ hk => hb.block k hk)
theorem OwnQ.view (h : OwnQ B w v L) : ∃ g o cap, v = .slice (some ⟨g, o, none⟩) L.length cap ∧ B ≤ g ∧ g < w.heap.size ∧ L.length ≤ cap ∧ cap ≤ maxLen ∧ (∀ j, j < L.length → w.cell? ⟨g, o + j, none⟩ = some (.int .i64 ((L.getD j 0 : Nat) : Int))) ∧ ∀ j, w.frozen? ⟨g, j, none⟩ = false := by
  obtain ⟨g, o, cap, cur, rfl, h1, h2, h3, h4, h5, h6⟩ := h
  exact ⟨g, o, cap, rfl, h1, (Array.getElem?_eq_some_iff.1 h2).1, h3, h4, fun j hj => by rw [(cell_of_block h2 _).1]; exact h6 j hj, fun j => (cell_of_block h2 j).2⟩
theorem OwnQ.one (B : Nat) (w : World) (hB : B ≤ w.heap.size) (x : Nat) (t : Int) (ht : t = (x : Int)) : OwnQ B (w.alloc (.cells #[.int .i64 t] 3)) (.slice (some ⟨w.heap.size, 0, none⟩) 1 1) [x] := by
  subst ht
  refine ⟨w.heap.size, 0, 1, #[.int .i64 (x : Int)], rfl, hB, heap_alloc_new w _, by simp, by decide, by simp, fun j hj => ?_⟩
  have : j = 0 := by simp at hj; exact hj
  subst this
  rfl
/-- The slice without its first. -/
theorem OwnQ.tail {x : Nat} (h : OwnQ B w v (x :: L)) : ∃ v', OwnQ B w v' L ∧ v'.ownBlock = v.ownBlock ∧ ∀ wx, (Instr.slice 30 v (some (.int .i64 1)) none none).run Tryz.prog wx = .ok v' wx := by
  obtain ⟨g, o, cap, cur, rfl, h1, h2, h3, h4, h5, h6⟩ := h
  have h3' : L.length + 1 ≤ cap := h3
  have hr : ∀ wx, (Instr.slice 30 (.slice (some ⟨g, o, none⟩) (L.length + 1) cap) (some (.int .i64 1)) none none).run Tryz.prog wx = .ok (sliced (some ⟨g, o, none⟩) 1 (L.length + 1) cap 1) wx := by
    intro wx
    rw [run_slice_l (P := Tryz.prog) wx 30 (some ⟨g, o, none⟩) (L.length + 1) cap (by kernel_rfl) .i64 1 (by decide) (by omega)]
    kernel_rfl
  have hn : ∀ j, j < L.length → cur[o + 1 + j]? = some (.int .i64 ((L.getD j 0 : Nat) : Int)) := fun j hj => by
    have := h6 (j + 1) (by simp; omega)
    rw [Nat.add_assoc, Nat.add_comm 1 j]
    simpa using this
  by_cases hc : cap = 1
  · refine ⟨_, ⟨g, o, cap - 1, cur, ?_, h1, h2, by omega, by omega, by omega, fun j hj => ?_⟩, ?_, hr⟩
    · unfold sliced
      rw [if_pos hc]
      simp
    · omega
    · unfold sliced
      rw [if_pos hc]
      rfl
  · refine ⟨_, ⟨g, o + 1, cap - 1, cur, ?_, h1, h2, by omega, by omega, by omega, hn⟩, ?_, hr⟩
    · unfold sliced
      rw [if_neg hc]
      simp [Addr.add_lit]
    · unfold sliced
      rw [if_neg hc]
      simp [Addr.add_lit, Value.ownBlock]
end
/-- One number is appended to a queue: the new one lies where it lay, or in a new block. -/
theorem wpList_ownQ1 {ops : Array Oper} {rest : List Oper} {o : Oper} {a : Act} {Q : Exit → Act → World → Prop} {B : Nat} {w : World} {v : Value} {L : List Nat}
    (hown : OwnQ B w v L) (hL : L.length ≤ 2000000) (hB : B ≤ w.heap.size) (hgd : o.guard = none) (s x : Operand)
    (ho : o.op = .call { callee := .builtin .append, args := #[s, x], argTypes := #[30, 30] }) (y : Nat) (b : Nat) (hb : w.heap.size = b)
    (hs : a.eval s = v) (hx : a.eval x = .slice (some ⟨b, 0, none⟩) 1 1)
    (h : ∀ v' w', OwnQ B w' v' (L ++ [y]) → w.grownBy w' v.ownBlock → (v'.ownBlock = v.ownBlock ∨ ∃ k, v'.ownBlock = some k ∧ w.heap.size ≤ k) → wpList Tryz.prog ops Q rest (a.put o.dst v') w') :
    wpList Tryz.prog ops Q (o :: rest) a (w.alloc (.cells #[.int .i64 (y : Int)] 3)) := by
  subst hb
  obtain ⟨i, hi, hz, h1, h2⟩ := info_parts natInfo3
  obtain ⟨g, of, cap, cur, rfl, hBg, hg, hlc, hcm, hoc, hcur⟩ := hown
  have hgl : g < w.heap.size := (Array.getElem?_eq_some_iff.1 hg).1
  have hg' : (w.alloc (.cells #[.int .i64 (y : Int)] 3)).heap[g]? = some (.cells cur 3 (0, 0)) := by rw [Below.heap_alloc _ _ _ hgl]; exact hg
  refine wpList_append_arg _ hgd s x 30 ho 3 i (.int .i64 0) 1 8 Tryz.underlying30 hi hz h1 h2 rfl (by decide) g of L.length cap (L.map fun z : Nat => Value.int .i64 (z : Int)) hs (by simp) ?_ ⟨w.heap.size, 0, none⟩ 1 1 [.int .i64 (y : Int)] hx rfl ?_ ?_ ?_ ?_ ?_ ?_ ?_
  · intro j u hj
    rw [(cell_of_block hg' _).1]
    have hjl : j < L.length := by
      have := (List.getElem?_eq_some_iff.1 hj).1
      simpa using this
    rw [hcur j hjl]
    simp [hjl] at hj
    simp [hjl, hj]
  · intro j u hj
    match j, hj with
    | 0, hj => simp at hj; subst hj; simp [Addr.add]
  · intro u hu
    simp at hu; subst hu; rfl
  · intro hr j hj
    have hj0 : j = 0 := by simp at hj; exact hj
    subst hj0
    refine ⟨?_, (cell_of_block hg' _).2⟩
    rw [(cell_of_block hg' _).1]
    simp
    omega
  · unfold maxLen; omega
  · omega
  · intro hr
    refine h _ _ ⟨g, of, cap, cur.setIfInBounds (of + L.length) (.int .i64 (y : Int)), by simp, hBg, ?_, by simpa using hr, hcm, by simpa using hoc, ?_⟩ ?_ (.inl rfl)
    · simp only [World.setCells, Nat.mul_one]
      exact heap_setCell_same _ g _ cur _ _ hg'
    · intro j hj
      simp at hj
      by_cases hjl : j = L.length
      · subst hjl
        rw [getD_snoc_at, Array.getElem?_setIfInBounds_self_of_lt (by omega)]
      · rw [Array.getElem?_setIfInBounds_ne (by omega), hcur j (by omega), getD_snoc_lt _ _ _ (by omega)]
    · refine ⟨rfl, rfl, rfl, by simp [World.setCells], fun k hk hne => ?_⟩
      simp only [World.setCells]
      rw [Below.heap_setCell _ _ _ _ (by intro e; apply hne; simp [Value.ownBlock, e]), Below.heap_alloc _ _ _ hk]
  · intro hr v' w' h2 h3
    have hsz := h3.size
    simp at hsz
    have hg2 : w.grownBy w' (Value.slice (some ⟨g, of, none⟩) L.length cap).ownBlock := ⟨h3.os, h3.tape, h3.output, by omega, fun k hk hne => by rw [h3.block k (by simp; omega) (by simp), Below.heap_alloc _ _ _ hk]⟩
    rcases h2.2 with ⟨_, h0⟩ | ⟨g2, cap2, cur2, rfl, hb2, hg2b, hn2, hc2, hcs2, ht2⟩
    · omega
    · refine h _ w' ⟨g2, 0, cap2, cur2, by simp, by simp at hb2; omega, hg2b, by simpa using hn2, hc2, by omega, fun j hj => ?_⟩ hg2 (.inr ⟨g2, rfl, by simp at hb2; omega⟩)
      simp at hj
      have e : cur2.toList[j]? = (L.map (fun z : Nat => Value.int .i64 (z : Int)) ++ [.int .i64 (y : Int)])[j]? := by
        rw [← ht2, List.getElem?_take, if_pos (by omega)]
      simp only [Array.getElem?_toList] at e
      rw [Nat.zero_add, e]
      by_cases hjl : j = L.length
      · subst hjl; simp
      · rw [List.getElem?_append_left (by simp; omega)]
        rw [getD_snoc_lt _ _ _ (by omega)]
        simp [show j < L.length by omega]
end Go.Proofs.YtfhogenjpepfnaaGreatDoor

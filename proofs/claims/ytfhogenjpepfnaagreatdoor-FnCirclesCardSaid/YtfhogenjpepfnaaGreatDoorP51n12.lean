/- Contracts of the program's functions and what they compute: part 12. Conditions: those that each theorem states. -/
import Derived.Test.YtfhogenjpepfnaaGreatDoorP51n6
import Derived.Deep.RegionHeld3
namespace Go.Proofs.YtfhogenjpepfnaaGreatDoor
open Go.RowKit
set_option linter.unusedVariables false
set_option maxRecDepth 100000
/-- The slice v of the world w is the call's own since block B, and holds the numbers L; it may be nil. -/
structure OwnN (B : Nat) (w : World) (v : Value) (L : List Nat) : Prop where
  own : w.ownsRow B 3 1 v L.length (L.map fun n : Nat => Value.int .i64 (n : Int))
  low : B ≤ w.heap.size
theorem OwnN.nil (B : Nat) (w : World) (hB : B ≤ w.heap.size) : OwnN B w (.slice none 0 0) [] := ⟨World.ownsRow_nil w B 3 1, hB⟩
theorem OwnN.cells {B : Nat} {w : World} {v : Value} {L : List Nat} (h : OwnN B w v L) (hne : 0 < L.length) :
    ∃ g cap, v = .slice (some ⟨g, 0, none⟩) L.length cap ∧ B ≤ g ∧ g < w.heap.size ∧ L.length ≤ cap ∧ cap ≤ maxLen ∧ (∀ j, j < L.length → w.cell? ⟨g, j, none⟩ = some (.int .i64 ((L.getD j 0 : Nat) : Int))) ∧ ∀ j, w.frozen? ⟨g, j, none⟩ = false := by
  rcases h.own.2 with ⟨h1, h2⟩ | ⟨g, cap, cur, rfl, hb, hg, hnc, hcm, hcs, htake⟩
  · omega
  · refine ⟨g, cap, rfl, hb, (h.own.lt g rfl).2, hnc, hcm, fun j hj => ?_, fun j => h.own.frozenAt j⟩
    rw [h.own.cellAt j (by omega)]
    simp [hj]
theorem OwnN.nums {B : Nat} {w : World} {v : Value} {L : List Nat} (h : OwnN B w v L) : NumsAt w v L := by
  rcases h.own.2 with ⟨h1, h2⟩ | ⟨g, cap, cur, rfl, hb, hg, hnc, hcm, hcs, htake⟩
  · exact .inl ⟨h1, List.eq_nil_of_length_eq_zero h2⟩
  · refine .inr ⟨g, 0, cap, rfl, hnc, hcm, (h.own.lt g rfl).2, fun j hj => ?_⟩
    rw [Nat.zero_add, h.own.cellAt j (by omega)]
    simp [hj]
theorem OwnN.kept {B : Nat} {w w' : World} {v : Value} {L : List Nat} (h : OwnN B w v L) (hb : ∀ k, v.ownBlock = some k → k < w.heap.size → w'.heap[k]? = w.heap[k]?) (hs : w.heap.size ≤ w'.heap.size) : OwnN B w' v L := by
  refine ⟨⟨h.own.1, ?_⟩, Nat.le_trans h.low hs⟩
  rcases h.own.2 with hn | ⟨g, cap, cur, rfl, hb', hgg, rest⟩
  · exact .inl hn
  · exact .inr ⟨g, cap, cur, rfl, hb', by rw [hb g rfl (Array.getElem?_eq_some_iff.1 hgg).1]; exact hgg, rest⟩
theorem OwnN.below {B : Nat} {w w' : World} {v : Value} {L : List Nat} (h : OwnN B w v L) (hb : Below w.heap.size w w') : OwnN B w' v L := h.kept (fun k _ hk => hb.block k hk) hb.size
theorem OwnN.one {B : Nat} {w : World} {v : Value} {L : List Nat} (h : OwnN B w v L) : v.oneCell' = true := by
  rcases h.own.2 with ⟨h1, h2⟩ | ⟨g, cap, cur, rfl, _⟩
  · rw [h1]; rfl
  · rfl
/-- One number is appended: as one step of a region whose order is open. -/
theorem step_ownN {ops : Array Oper} {o : Oper} {a : Act} {K : Act → World → Prop} {Q : Exit → Act → World → Prop} {E : Prop} {B : Nat} {w : World} {v : Value} {L : List Nat}
    (hown : OwnN B w v L) (hL : Hid (L.length ≤ 2000000)) (hgd : o.guard = none) (s x : Operand)
    (ho : o.op = .call { callee := .builtin .append, args := #[s, x], argTypes := #[30, 30] }) (y : Nat) (b : Nat) (hb : w.heap.size = b)
    (hs : a.eval s = v) (hx : a.eval x = .slice (some ⟨b, 0, none⟩) 1 1)
    (h : ∀ g cap w', OwnN B w' (.slice (some ⟨g, 0, none⟩) (L.length + 1) cap) (L ++ [y]) → w.grownBy w' v.ownBlock → (v.ownBlock = some g ∨ w.heap.size ≤ g) → g < w'.heap.size → K (a.put o.dst (.slice (some ⟨g, 0, none⟩) (L.length + 1) cap)) w') :
    if Region.wanted o (yielded ops a.tmps) = true then Oper.wp Tryz.prog o a (w.alloc (.cells #[.int .i64 (y : Int)] 3)) K Q else E := by
  have hL := hL.out
  subst hb
  obtain ⟨i, hi, hz, h1, h2⟩ := info_parts natInfo3
  have hbase : B ≤ w.heap.size := hown.low
  refine step_append_lies _ hgd s x 30 ho B 3 i (.int .i64 0) 1 8 Tryz.underlying30 hi hz h1 h2 rfl (by decide) v L.length (L.map fun n : Nat => Value.int .i64 (n : Int)) hs (hown.own.alloc _) ⟨w.heap.size, 0, none⟩ 1 1 [.int .i64 (y : Int)] hx rfl ?_ ?_ (by decide) ?_ ?_ ?_ _ rfl ?_
  · intro j u hj
    match j, hj with
    | 0, hj => simp at hj; subst hj; simp [Addr.add]
  · intro u hu
    simp at hu; subst hu; rfl
  · unfold maxLen; omega
  · omega
  · simp; omega
  · intro g cap w' h2 h3 h4 h5
    refine h g cap w' ⟨?_, ?_⟩ ⟨h3.os, h3.tape, h3.output, ?_, fun k hk hne => ?_⟩ (h4.imp_right fun e => by rw [e]; simp) h5
    · simpa using h2
    · have := h3.size
      simp at this
      omega
    · have := h3.size
      simp at this
      omega
    · rw [h3.block k (by simp; omega) hne]
      exact Below.heap_alloc _ _ _ hk
end Go.Proofs.YtfhogenjpepfnaaGreatDoor

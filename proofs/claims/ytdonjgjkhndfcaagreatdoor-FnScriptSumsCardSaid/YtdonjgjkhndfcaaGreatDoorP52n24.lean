/- Contracts of the program's functions and what they compute: part 24. Conditions: those that each theorem states. -/
import Derived.Test.YtdonjgjkhndfcaaGreatDoorP52n11
import Derived.Test.YtdonjgjkhndfcaaGreatDoorP52n18
import Derived.Deep.RegionHeld3
import Derived.Test.YtdonjgjkhndfcaaGreatDoorShelf7
import Derived.Shelf.SortM.Plain
import Derived.Shelf.SortM.SortNone
namespace Go.Proofs.YtdonjgjkhndfcaaGreatDoor
open Go.RowKit
set_option linter.unusedVariables false
set_option maxRecDepth 100000
/-- The slice v of the world w is the call's own since block B, and holds the numbers L; it may be nil. -/
structure OwnN (B : Nat) (w : World) (v : Value) (L : List Nat) : Prop where
  own : w.ownsRow B 3 1 v L.length (L.map fun n : Nat => Value.int .i64 (n : Int))
  low : B ≤ w.heap.size
theorem OwnN.nil (B : Nat) (w : World) (hB : B ≤ w.heap.size) : OwnN B w (.slice none 0 0) [] := ⟨World.ownsRow_nil w B 3 1, hB⟩
theorem OwnN.cells {B : Nat} {w : World} {v : Value} {L : List Nat} (h : OwnN B w v L) (hne : 0 < L.length) :
    ∃ g cap, v = .slice (some ⟨g, 0, none⟩) L.length cap ∧ B ≤ g ∧ g < w.heap.size ∧ L.length ≤ cap ∧ cap ≤ maxLen ∧ (∀ j, j < L.length → w.cell? ⟨g, j, none⟩ = some (.int .i64 ((L.getD j 0 : Nat) : Int))) ∧ ∀ j, w.frozen? ⟨g, j, none⟩ = false := by
  rcases h.own.2 with ⟨h1, h2⟩ | ⟨g, cap, cur, rfl, hb, hg, hnc, hcm, hcs, htake⟩
  · omega
  · refine ⟨g, cap, rfl, hb, (h.own.lt g rfl).2, hnc, hcm, fun j hj => ?_, fun j => h.own.frozenAt j⟩
    rw [h.own.cellAt j (by omega)]
    simp [hj]
theorem OwnN.nums {B : Nat} {w : World} {v : Value} {L : List Nat} (h : OwnN B w v L) : NumsAt w v L := by
  rcases h.own.2 with ⟨h1, h2⟩ | ⟨g, cap, cur, rfl, hb, hg, hnc, hcm, hcs, htake⟩
  · exact .inl ⟨h1, List.eq_nil_of_length_eq_zero h2⟩
  · refine .inr ⟨g, 0, cap, rfl, hnc, hcm, (h.own.lt g rfl).2, fun j hj => ?_⟩
    rw [Nat.zero_add, h.own.cellAt j (by omega)]
    simp [hj]
theorem OwnN.kept {B : Nat} {w w' : World} {v : Value} {L : List Nat} (h : OwnN B w v L) (hb : ∀ k, v.ownBlock = some k → k < w.heap.size → w'.heap[k]? = w.heap[k]?) (hs : w.heap.size ≤ w'.heap.size) : OwnN B w' v L := by
  refine ⟨⟨h.own.1, ?_⟩, Nat.le_trans h.low hs⟩
  rcases h.own.2 with hn | ⟨g, cap, cur, rfl, hb', hgg, rest⟩
  · exact .inl hn
  · exact .inr ⟨g, cap, cur, rfl, hb', by rw [hb g rfl (Array.getElem?_eq_some_iff.1 hgg).1]; exact hgg, rest⟩
theorem OwnN.below {B : Nat} {w w' : World} {v : Value} {L : List Nat} (h : OwnN B w v L) (hb : Below w.heap.size w w') : OwnN B w' v L := h.kept (fun k _ hk => hb.block k hk) hb.size
theorem OwnN.one {B : Nat} {w : World} {v : Value} {L : List Nat} (h : OwnN B w v L) : v.oneCell' = true := by
  rcases h.own.2 with ⟨h1, h2⟩ | ⟨g, cap, cur, rfl, _⟩
  · rw [h1]; rfl
  · rfl
/-- One number is appended: as one step of a region whose order is open. -/
theorem step_ownN {ops : Array Oper} {o : Oper} {a : Act} {K : Act → World → Prop} {Q : Exit → Act → World → Prop} {E : Prop} {B : Nat} {w : World} {v : Value} {L : List Nat}
    (hown : OwnN B w v L) (hL : Hid (L.length ≤ 2000000)) (hgd : o.guard = none) (s x : Operand)
    (ho : o.op = .call { callee := .builtin .append, args := #[s, x], argTypes := #[29, 29] }) (y : Nat) (b : Nat) (hb : w.heap.size = b)
    (hs : a.eval s = v) (hx : a.eval x = .slice (some ⟨b, 0, none⟩) 1 1)
    (h : ∀ g cap w', OwnN B w' (.slice (some ⟨g, 0, none⟩) (L.length + 1) cap) (L ++ [y]) → w.grownBy w' v.ownBlock → (v.ownBlock = some g ∨ w.heap.size ≤ g) → g < w'.heap.size → K (a.put o.dst (.slice (some ⟨g, 0, none⟩) (L.length + 1) cap)) w') :
    if Region.wanted o (yielded ops a.tmps) = true then Oper.wp Tryz.prog o a (w.alloc (.cells #[.int .i64 (y : Int)] 3)) K Q else E := by
  have hL := hL.out
  subst hb
  obtain ⟨i, hi, hz, h1, h2⟩ := info_parts natInfo3
  have hbase : B ≤ w.heap.size := hown.low
  refine step_append_lies _ hgd s x 29 ho B 3 i (.int .i64 0) 1 8 Tryz.underlying29 hi hz h1 h2 rfl (by decide) v L.length (L.map fun n : Nat => Value.int .i64 (n : Int)) hs (hown.own.alloc _) ⟨w.heap.size, 0, none⟩ 1 1 [.int .i64 (y : Int)] hx rfl ?_ ?_ (by decide) ?_ ?_ ?_ _ rfl ?_
  · intro j u hj
    match j, hj with
    | 0, hj => simp at hj; subst hj; simp [Addr.add]
  · intro u hu
    simp at hu; subst hu; rfl
  · unfold maxLen; omega
  · omega
  · simp; omega
  · intro g cap w' h2 h3 h4 h5
    refine h g cap w' ⟨?_, ?_⟩ ⟨h3.os, h3.tape, h3.output, ?_, fun k hk hne => ?_⟩ (h4.imp_right fun e => by rw [e]; simp) h5
    · simpa using h2
    · have := h3.size
      simp at this
      omega
    · have := h3.size
      simp at this
      omega
    · rw [h3.block k (by simp; omega) hne]
      exact Below.heap_alloc _ _ _ hk
end Go.Proofs.YtdonjgjkhndfcaaGreatDoor

namespace Go.Proofs.YtdonjgjkhndfcaaGreatDoor
open Go.RowKit
set_option linter.unusedVariables false
set_option maxRecDepth 100000
theorem ways_succ (a : Gs.St) (c : List Nat) (x k y : Nat) : Col.ways a c x k (y + 1) = if y ≠ x ∧ Col.way a x y = k then Col.ways a c x k y ++ [c.getD y 0] else Col.ways a c x k y := by
  unfold Col.ways
  rw [List.range_succ, List.filter_append, List.map_append]
  by_cases h : y ≠ x ∧ Col.way a x y = k
  · rw [if_pos h]
    simp [h.1, h.2]
  · rw [if_neg h]
    have : (decide (y ≠ x) && decide (Col.way a x y = k)) = false := by
      rw [← Bool.not_eq_true, Bool.and_eq_true, decide_eq_true_eq, decide_eq_true_eq]
      exact h
    have e : [y].filter (fun z => decide (z ≠ x) && decide (Col.way a x z = k)) = [] := List.filter_cons_of_neg (by rw [this]; simp)
    rw [e]
    simp
theorem ways_len (a : Gs.St) (c : List Nat) (x k : Nat) : ∀ y, (Col.ways a c x k y).length ≤ y
  | 0 => Nat.le_refl _
  | y + 1 => by
    have ih := ways_len a c x k y
    rw [ways_succ]
    split
    · simp; omega
    · omega
/-- Four lists of the call's own in the cells of block b. -/
structure Wy (w : World) (b : Nat) (vs : Nat → Value) (Ls : Nat → List Nat) (wr : World) : Prop where
  cell : ∀ k, k < 4 → wr.cell? ⟨b, k, none⟩ = some (vs k) ∧ wr.frozen? ⟨b, k, none⟩ = false
  own : ∀ k, k < 4 → OwnN w.heap.size wr (vs k) (Ls k)
  ne : ∀ i j, i < 4 → j < 4 → i ≠ j → ∀ g, (vs i).ownBlock = some g → (vs j).ownBlock ≠ some g
  nb : ∀ k, k < 4 → (vs k).ownBlock ≠ some b
  lo : w.heap.size ≤ b
  hi : b < wr.heap.size
  old : Below w.heap.size w wr
def setW {α : Type} (f : Nat → α) (k : Nat) (x : α) : Nat → α := fun i => if i = k then x else f i
section
variable {w wr w' : World} {b : Nat} {vs : Nat → Value} {Ls : Nat → List Nat}
theorem Wy.below (h : Wy w b vs Ls wr) (hb : Below wr.heap.size wr w') : Wy w b vs Ls w' := by
  refine ⟨fun k hk => ⟨(hb.cell (p := ⟨b, k, none⟩) h.hi).trans (h.cell k hk).1, ?_⟩, fun k hk => (h.own k hk).below hb, h.ne, h.nb, h.lo, Nat.lt_of_lt_of_le h.hi hb.size, h.old.trans (hb.mono h.old.size)⟩
  have := (h.cell k hk).2
  unfold World.frozen? at this ⊢
  rw [hb.block b h.hi]
  exact this
theorem OwnN.blockN {B : Nat} {w : World} {v : Value} {L : List Nat} (h : OwnN B w v L) {k : Nat} (hk : v.ownBlock = some k) : B ≤ k ∧ k < w.heap.size := h.own.lt k hk
/-- A list has grown, and lies in its cell again. -/
theorem Wy.push (h : Wy w b vs Ls wr) {k g cap : Nat} {L : List Nat} (hk : k < 4) (ho : OwnN w.heap.size w' (.slice (some ⟨g, 0, none⟩) L.length cap) L) (hg : wr.grownBy w' (vs k).ownBlock) (hat : (vs k).ownBlock = some g ∨ wr.heap.size ≤ g) (hgl : g < w'.heap.size) :
    Wy w b (setW vs k (.slice (some ⟨g, 0, none⟩) L.length cap)) (setW Ls k L) (w'.setCell ⟨b, k, none⟩ (.slice (some ⟨g, 0, none⟩) L.length cap)) := by
  have hhi := h.hi
  have hgb : g ≠ b := by
    rintro rfl
    rcases hat with e | e
    · exact h.nb k hk e
    · omega
  have hcell : ∀ i, i < 4 → w'.cell? ⟨b, i, none⟩ = some (vs i) ∧ w'.frozen? ⟨b, i, none⟩ = false := fun i hi => by
    have e := hg.block b h.hi (fun e => h.nb k hk e.symm)
    refine ⟨(World.cell?_of_block (w := wr) e).trans (h.cell i hi).1, ?_⟩
    have := (h.cell i hi).2
    unfold World.frozen? at this ⊢
    rw [e]
    exact this
  have hset : ∀ j, j ≠ b → (w'.setCell ⟨b, k, none⟩ (.slice (some ⟨g, 0, none⟩) L.length cap)).heap[j]? = w'.heap[j]? := fun j hj => Below.heap_setCell w' ⟨b, k, none⟩ _ j hj
  have hsz : w'.heap.size ≤ (w'.setCell ⟨b, k, none⟩ (.slice (some ⟨g, 0, none⟩) L.length cap)).heap.size := by simp [World.setCell]
  refine ⟨fun i hi => ?_, fun i hi => ?_, fun i j hi hj hij q hq => ?_, fun i hi => ?_, h.lo, Nat.lt_of_lt_of_le h.hi (Nat.le_trans hg.size hsz), ?_⟩
  · unfold setW
    by_cases hik : i = k
    · subst hik
      rw [if_pos rfl]
      exact ⟨World.cell?_setCell_same _ _ _ (hcell i hi).1, by rw [World.frozen?_setCell]; exact (hcell i hi).2⟩
    · rw [if_neg hik]
      exact ⟨by rw [World.cell?_setCell_other _ _ _ _ (by intro e; injection e with _ e; exact hik e.symm)]; exact (hcell i hi).1, by rw [World.frozen?_setCell]; exact (hcell i hi).2⟩
  · unfold setW
    by_cases hik : i = k
    · rw [if_pos hik, if_pos hik]
      exact ho.kept (fun j hj _ => hset j (by rw [show (Value.slice (some ⟨g, 0, none⟩) L.length cap).ownBlock = some g from rfl] at hj; injection hj with hj; omega)) hsz
    · rw [if_neg hik, if_neg hik]
      have h1 := (h.own i hi).kept (fun j hj hl => hg.block j hl (fun e => h.ne i k hi hk hik j hj e.symm)) hg.size
      exact h1.kept (fun j hj _ => hset j (fun e => h.nb i hi (by rw [hj, e]))) hsz
  · unfold setW at hq ⊢
    by_cases hik : i = k
    · rw [if_pos hik] at hq
      rw [if_neg (by omega)]
      have hq : g = q := Option.some.inj hq
      subst hq
      intro e
      rcases hat with e2 | e2
      · exact h.ne k j hk hj (by omega) g e2 e
      · have := ((h.own j hj).blockN e).2; omega
    · rw [if_neg hik] at hq
      by_cases hjk : j = k
      · rw [if_pos hjk]
        intro e
        have e : g = q := Option.some.inj e
        subst e
        rcases hat with e2 | e2
        · exact h.ne i k hi hk hik g hq e2
        · have := ((h.own i hi).blockN hq).2; omega
      · rw [if_neg hjk]
        exact h.ne i j hi hj hij q hq
  · unfold setW
    by_cases hik : i = k
    · rw [if_pos hik]
      intro e
      exact hgb (Option.some.inj e)
    · rw [if_neg hik]
      exact h.nb i hi
  · have hl := h.lo
    exact (h.old.grown hg h.old.size (fun j hj => ((h.own k hk).blockN hj).1)).setCell h.lo _
theorem Wy.grownCell (h : Wy w b vs Ls wr) {k : Nat} (hk : k < 4) (hg : wr.grownBy w' (vs k).ownBlock) : w'.cell? ⟨b, k, none⟩ = some (vs k) ∧ w'.frozen? ⟨b, k, none⟩ = false := by
  have e := hg.block b h.hi (fun e => h.nb k hk e.symm)
  refine ⟨(World.cell?_of_block (w := wr) e).trans (h.cell k hk).1, ?_⟩
  have := (h.cell k hk).2
  unfold World.frozen? at this ⊢
  rw [e]
  exact this
theorem Wy.grownBelow (h : Wy w b vs Ls wr) {k : Nat} (hk : k < 4) (hg : wr.grownBy w' (vs k).ownBlock) : Below w.heap.size w w' := h.old.grown hg h.old.size (fun j hj => ((h.own k hk).blockN hj).1)
theorem Wy.pushM (h : Wy w b vs Ls wr) {k g cap m : Nat} {L : List Nat} (hk : k < 4) (hm : L.length = m) (ho : OwnN w.heap.size w' (.slice (some ⟨g, 0, none⟩) m cap) L) (hg : wr.grownBy w' (vs k).ownBlock) (hat : (vs k).ownBlock = some g ∨ wr.heap.size ≤ g) (hgl : g < w'.heap.size) :
    Wy w b (setW vs k (.slice (some ⟨g, 0, none⟩) m cap)) (setW Ls k L) (w'.setCell ⟨b, k, none⟩ (.slice (some ⟨g, 0, none⟩) m cap)) := by
  subst hm
  exact h.push hk ho hg hat hgl
end
end Go.Proofs.YtdonjgjkhndfcaaGreatDoor

namespace Go.Proofs.YtdonjgjkhndfcaaGreatDoor
open Go.RowKit Go.Shelf Go.Sort
set_option linter.unusedVariables false
set_option maxRecDepth 100000
theorem sortL_int (L : List Nat) : (L.map fun n : Nat => (n : Int)).mergeSort (fun x y => decide (x ≤ y)) = (Col.sortL L).map fun n : Nat => (n : Int) := by
  unfold Col.sortL
  rw [List.map_mergeSort]
  intro a _ b _
  exact decide_eq_decide.2 (by omega)
theorem sortL_len (L : List Nat) : (Col.sortL L).length = L.length := List.length_mergeSort ..
theorem sortL_nil : Col.sortL [] = [] := by unfold Col.sortL; simp
/-- What Sort leaves. -/
def SoP (w : World) (v : Value) (L : List Nat) (e : Ending) (w' : World) : Prop := e = .returned (.tuple #[]) ∧ NumsAt w' v (Col.sortL L) ∧ w.grownBy w' v.ownBlock
theorem sSort_any (B : Nat) (v : Value) (L : List Nat) (w : World) (hv : OwnN B w v L) (hl : L.length ≤ 100000) : Calls Tryz.prog 90 #[v] w (SoP w v L) := by
  by_cases h0 : L.length = 0
  · have hL : L = [] := List.eq_nil_of_length_eq_zero h0
    subst hL
    have hn : NumsAt w v [] := hv.nums
    obtain ⟨a, cap, rfl, _, _, _⟩ := hn.view
    refine Calls.mono (AnyM.slices_Sort_int_none Tryz.laysSI a cap w) ?_
    rintro e w' ⟨he, rfl⟩
    exact ⟨he, by rw [sortL_nil]; exact hn, World.grownBy.refl _ _⟩
  · obtain ⟨g, cap, rfl, hb, hg, hc, hcm, hcell, hfrz⟩ := hv.cells (by omega)
    have hlen : (L.map fun n : Nat => (n : Int)).length = L.length := List.length_map ..
    have hH : Holds (Value.int .i64) w g 0 (L.map fun n : Nat => (n : Int)).toArray := fun j hj => by
      have hj2 : j < L.length := by simpa using hj
      rw [Nat.zero_add]
      refine ⟨?_, hfrz j⟩
      rw [hcell j hj2, getElem!_pos _ j hj]
      simp [hj2]
    have hs := AnyM.slices_Sort_int Tryz.laysSI g 0 cap (L.map fun n : Nat => (n : Int)) w hH hg (by omega)
    rw [hlen, sortL_int] at hs
    refine Calls.mono hs ?_
    rintro e w' ⟨he, n, os, rfl⟩
    have hsz : ((Col.sortL L).map fun n : Nat => (n : Int)).toArray.size = (L.map fun n : Nat => (n : Int)).toArray.size := by simp [sortL_len]
    have hP := holds_grow (Value.int .i64) _ os g 0 _ (by simpa using hg) (holds_putRow (Value.int .i64) (Sort.ahead w n) g 0 _ ((Col.sortL L).map fun n : Nat => (n : Int)).toArray (holds_ahead _ _ _ _ _ _ hH) hsz)
    refine ⟨he, .inr ⟨g, 0, cap, by rw [sortL_len], by rw [sortL_len]; exact hc, hcm, ?_, fun j hj => ?_⟩, ⟨rfl, rfl, rfl, ?_, fun k hk hn => ?_⟩⟩
    · rw [size_grow, size_putRow]
      show g < w.heap.size + os.size
      omega
    · have h := (hP j (by simpa using hj)).1
      rw [h, getElem!_pos _ j (by simpa using hj)]
      simp [hj]
    · rw [size_grow, size_putRow]
      show w.heap.size ≤ w.heap.size + os.size
      omega
    · rw [heap_grow_old _ _ (by rw [size_putRow]; exact hk)]
      show (w.heap.modify g _)[k]? = _
      rw [Array.getElem?_modify, if_neg (fun e => hn (by rw [← e]; rfl))]
end Go.Proofs.YtdonjgjkhndfcaaGreatDoor

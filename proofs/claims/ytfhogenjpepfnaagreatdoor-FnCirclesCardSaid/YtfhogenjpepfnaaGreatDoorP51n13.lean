/- Contracts of the program's functions and what they compute: part 13. Conditions: those that each theorem states. -/
import Derived.Test.YtfhogenjpepfnaaGreatDoorP51n2
import Derived.Test.YtfhogenjpepfnaaGreatDoorP51n12
import Derived.Test.YtfhogenjpepfnaaGreatDoorShelf7
import Derived.Shelf.SortM.Plain
import Derived.Shelf.SortM.SortNone
namespace Go.Proofs.YtfhogenjpepfnaaGreatDoor
open Go.RowKit
set_option linter.unusedVariables false
set_option maxRecDepth 100000
theorem ways_succ (a : Gs.St) (c : List Nat) (x k y : Nat) : Col.ways a c x k (y + 1) = if y ≠ x ∧ Col.way a x y = k then Col.ways a c x k y ++ [c.getD y 0] else Col.ways a c x k y := by
  unfold Col.ways
  rw [List.range_succ, List.filter_append, List.map_append]
  by_cases h : y ≠ x ∧ Col.way a x y = k
  · rw [if_pos h]
    simp [h.1, h.2]
  · rw [if_neg h]
    have : (decide (y ≠ x) && decide (Col.way a x y = k)) = false := by
      rw [← Bool.not_eq_true, Bool.and_eq_true, decide_eq_true_eq, decide_eq_true_eq]
      exact h
    have e : [y].filter (fun z => decide (z ≠ x) && decide (Col.way a x z = k)) = [] := List.filter_cons_of_neg (by rw [this]; simp)
    rw [e]
    simp
theorem ways_len (a : Gs.St) (c : List Nat) (x k : Nat) : ∀ y, (Col.ways a c x k y).length ≤ y
  | 0 => Nat.le_refl _
  | y + 1 => by
    have ih := ways_len a c x k y
    rw [ways_succ]
    split
    · simp; omega
    · omega
/-- Four lists of the call's own in the cells of block b. -/
structure Wy (w : World) (b : Nat) (vs : Nat → Value) (Ls : Nat → List Nat) (wr : World) : Prop where
  cell : ∀ k, k < 4 → wr.cell? ⟨b, k, none⟩ = some (vs k) ∧ wr.frozen? ⟨b, k, none⟩ = false
  own : ∀ k, k < 4 → OwnN w.heap.size wr (vs k) (Ls k)
  ne : ∀ i j, i < 4 → j < 4 → i ≠ j → ∀ g, (vs i).ownBlock = some g → (vs j).ownBlock ≠ some g
  nb : ∀ k, k < 4 → (vs k).ownBlock ≠ some b
  lo : w.heap.size ≤ b
  hi : b < wr.heap.size
  old : Below w.heap.size w wr
def setW {α : Type} (f : Nat → α) (k : Nat) (x : α) : Nat → α := fun i => if i = k then x else f i
section
variable {w wr w' : World} {b : Nat} {vs : Nat → Value} {Ls : Nat → List Nat}
theorem Wy.below (h : Wy w b vs Ls wr) (hb : Below wr.heap.size wr w') : Wy w b vs Ls w' := by
  refine ⟨fun k hk => ⟨(hb.cell (p := ⟨b, k, none⟩) h.hi).trans (h.cell k hk).1, ?_⟩, fun k hk => (h.own k hk).below hb, h.ne, h.nb, h.lo, Nat.lt_of_lt_of_le h.hi hb.size, h.old.trans (hb.mono h.old.size)⟩
  have := (h.cell k hk).2
  unfold World.frozen? at this ⊢
  rw [hb.block b h.hi]
  exact this
theorem OwnN.blockN {B : Nat} {w : World} {v : Value} {L : List Nat} (h : OwnN B w v L) {k : Nat} (hk : v.ownBlock = some k) : B ≤ k ∧ k < w.heap.size := h.own.lt k hk
/-- A list has grown, and lies in its cell again. -/
theorem Wy.push (h : Wy w b vs Ls wr) {k g cap : Nat} {L : List Nat} (hk : k < 4) (ho : OwnN w.heap.size w' (.slice (some ⟨g, 0, none⟩) L.length cap) L) (hg : wr.grownBy w' (vs k).ownBlock) (hat : (vs k).ownBlock = some g ∨ wr.heap.size ≤ g) (hgl : g < w'.heap.size) :
    Wy w b (setW vs k (.slice (some ⟨g, 0, none⟩) L.length cap)) (setW Ls k L) (w'.setCell ⟨b, k, none⟩ (.slice (some ⟨g, 0, none⟩) L.length cap)) := by
  have hhi := h.hi
  have hgb : g ≠ b := by
    rintro rfl
    rcases hat with e | e
    · exact h.nb k hk e
    · omega
  have hcell : ∀ i, i < 4 → w'.cell? ⟨b, i, none⟩ = some (vs i) ∧ w'.frozen? ⟨b, i, none⟩ = false := fun i hi => by
    have e := hg.block b h.hi (fun e => h.nb k hk e.symm)
    refine ⟨(World.cell?_of_block (w := wr) e).trans (h.cell i hi).1, ?_⟩
    have := (h.cell i hi).2
    unfold World.frozen? at this ⊢
    rw [e]
    exact this
  have hset : ∀ j, j ≠ b → (w'.setCell ⟨b, k, none⟩ (.slice (some ⟨g, 0, none⟩) L.length cap)).heap[j]? = w'.heap[j]? := fun j hj => Below.heap_setCell w' ⟨b, k, none⟩ _ j hj
  have hsz : w'.heap.size ≤ (w'.setCell ⟨b, k, none⟩ (.slice (some ⟨g, 0, none⟩) L.length cap)).heap.size := by simp [World.setCell]
  refine ⟨fun i hi => ?_, fun i hi => ?_, fun i j hi hj hij q hq => ?_, fun i hi => ?_, h.lo, Nat.lt_of_lt_of_le h.hi (Nat.le_trans hg.size hsz), ?_⟩
  · unfold setW
    by_cases hik : i = k
    · subst hik
      rw [if_pos rfl]
      exact ⟨World.cell?_setCell_same _ _ _ (hcell i hi).1, by rw [World.frozen?_setCell]; exact (hcell i hi).2⟩
    · rw [if_neg hik]
      exact ⟨by rw [World.cell?_setCell_other _ _ _ _ (by intro e; injection e with _ e; exact hik e.symm)]; exact (hcell i hi).1, by rw [World.frozen?_setCell]; exact (hcell i hi).2⟩
  · unfold setW
    by_cases hik : i = k
    · rw [if_pos hik, if_pos hik]
      exact ho.kept (fun j hj _ => hset j (by rw [show (Value.slice (some ⟨g, 0, none⟩) L.length cap).ownBlock = some g from rfl] at hj; injection hj with hj; omega)) hsz
    · rw [if_neg hik, if_neg hik]
      have h1 := (h.own i hi).kept (fun j hj hl => hg.block j hl (fun e => h.ne i k hi hk hik j hj e.symm)) hg.size
      exact h1.kept (fun j hj _ => hset j (fun e => h.nb i hi (by rw [hj, e]))) hsz
  · unfold setW at hq ⊢
    by_cases hik : i = k
    · rw [if_pos hik] at hq
      rw [if_neg (by omega)]
      have hq : g = q := Option.some.inj hq
      subst hq
      intro e
      rcases hat with e2 | e2
      · exact h.ne k j hk hj (by omega) g e2 e
      · have := ((h.own j hj).blockN e).2; omega
    · rw [if_neg hik] at hq
      by_cases hjk : j = k
      · rw [if_pos hjk]
        intro e
        have e : g = q := Option.some.inj e
        subst e
        rcases hat with e2 | e2
        · exact h.ne i k hi hk hik g hq e2
        · have := ((h.own i hi).blockN hq).2; omega
      · rw [if_neg hjk]
        exact h.ne i j hi hj hij q hq
  · unfold setW
    by_cases hik : i = k
    · rw [if_pos hik]
      intro e
      exact hgb (Option.some.inj e)
    · rw [if_neg hik]
      exact h.nb i hi
  · have hl := h.lo
    exact (h.old.grown hg h.old.size (fun j hj => ((h.own k hk).blockN hj).1)).setCell h.lo _
theorem Wy.grownCell (h : Wy w b vs Ls wr) {k : Nat} (hk : k < 4) (hg : wr.grownBy w' (vs k).ownBlock) : w'.cell? ⟨b, k, none⟩ = some (vs k) ∧ w'.frozen? ⟨b, k, none⟩ = false := by
  have e := hg.block b h.hi (fun e => h.nb k hk e.symm)
  refine ⟨(World.cell?_of_block (w := wr) e).trans (h.cell k hk).1, ?_⟩
  have := (h.cell k hk).2
  unfold World.frozen? at this ⊢
  rw [e]
  exact this
theorem Wy.grownBelow (h : Wy w b vs Ls wr) {k : Nat} (hk : k < 4) (hg : wr.grownBy w' (vs k).ownBlock) : Below w.heap.size w w' := h.old.grown hg h.old.size (fun j hj => ((h.own k hk).blockN hj).1)
theorem Wy.pushM (h : Wy w b vs Ls wr) {k g cap m : Nat} {L : List Nat} (hk : k < 4) (hm : L.length = m) (ho : OwnN w.heap.size w' (.slice (some ⟨g, 0, none⟩) m cap) L) (hg : wr.grownBy w' (vs k).ownBlock) (hat : (vs k).ownBlock = some g ∨ wr.heap.size ≤ g) (hgl : g < w'.heap.size) :
    Wy w b (setW vs k (.slice (some ⟨g, 0, none⟩) m cap)) (setW Ls k L) (w'.setCell ⟨b, k, none⟩ (.slice (some ⟨g, 0, none⟩) m cap)) := by
  subst hm
  exact h.push hk ho hg hat hgl
end
end Go.Proofs.YtfhogenjpepfnaaGreatDoor

namespace Go.Proofs.YtfhogenjpepfnaaGreatDoor
open Go.RowKit Go.Shelf Go.Sort
set_option linter.unusedVariables false
set_option maxRecDepth 100000
theorem sortL_int (L : List Nat) : (L.map fun n : Nat => (n : Int)).mergeSort (fun x y => decide (x ≤ y)) = (Col.sortL L).map fun n : Nat => (n : Int) := by
  unfold Col.sortL
  rw [List.map_mergeSort]
  intro a _ b _
  exact decide_eq_decide.2 (by omega)
theorem sortL_len (L : List Nat) : (Col.sortL L).length = L.length := List.length_mergeSort ..
theorem sortL_nil : Col.sortL [] = [] := by unfold Col.sortL; simp
/-- What Sort leaves. -/
def SoP (w : World) (v : Value) (L : List Nat) (e : Ending) (w' : World) : Prop := e = .returned (.tuple #[]) ∧ NumsAt w' v (Col.sortL L) ∧ w.grownBy w' v.ownBlock
theorem sSort_any (B : Nat) (v : Value) (L : List Nat) (w : World) (hv : OwnN B w v L) (hl : L.length ≤ 100000) : Calls Tryz.prog 46 #[v] w (SoP w v L) := by
  by_cases h0 : L.length = 0
  · have hL : L = [] := List.eq_nil_of_length_eq_zero h0
    subst hL
    have hn : NumsAt w v [] := hv.nums
    obtain ⟨a, cap, rfl, _, _, _⟩ := hn.view
    refine Calls.mono (AnyM.slices_Sort_int_none Tryz.laysSI a cap w) ?_
    rintro e w' ⟨he, rfl⟩
    exact ⟨he, by rw [sortL_nil]; exact hn, World.grownBy.refl _ _⟩
  · obtain ⟨g, cap, rfl, hb, hg, hc, hcm, hcell, hfrz⟩ := hv.cells (by omega)
    have hlen : (L.map fun n : Nat => (n : Int)).length = L.length := List.length_map ..
    have hH : Holds (Value.int .i64) w g 0 (L.map fun n : Nat => (n : Int)).toArray := fun j hj => by
      have hj2 : j < L.length := by simpa using hj
      rw [Nat.zero_add]
      refine ⟨?_, hfrz j⟩
      rw [hcell j hj2, getElem!_pos _ j hj]
      simp [hj2]
    have hs := AnyM.slices_Sort_int Tryz.laysSI g 0 cap (L.map fun n : Nat => (n : Int)) w hH hg (by omega)
    rw [hlen, sortL_int] at hs
    refine Calls.mono hs ?_
    rintro e w' ⟨he, n, os, rfl⟩
    have hsz : ((Col.sortL L).map fun n : Nat => (n : Int)).toArray.size = (L.map fun n : Nat => (n : Int)).toArray.size := by simp [sortL_len]
    have hP := holds_grow (Value.int .i64) _ os g 0 _ (by simpa using hg) (holds_putRow (Value.int .i64) (Sort.ahead w n) g 0 _ ((Col.sortL L).map fun n : Nat => (n : Int)).toArray (holds_ahead _ _ _ _ _ _ hH) hsz)
    refine ⟨he, .inr ⟨g, 0, cap, by rw [sortL_len], by rw [sortL_len]; exact hc, hcm, ?_, fun j hj => ?_⟩, ⟨rfl, rfl, rfl, ?_, fun k hk hn => ?_⟩⟩
    · rw [size_grow, size_putRow]
      show g < w.heap.size + os.size
      omega
    · have h := (hP j (by simpa using hj)).1
      rw [h, getElem!_pos _ j (by simpa using hj)]
      simp [hj]
    · rw [size_grow, size_putRow]
      show w.heap.size ≤ w.heap.size + os.size
      omega
    · rw [heap_grow_old _ _ (by rw [size_putRow]; exact hk)]
      show (w.heap.modify g _)[k]? = _
      rw [Array.getElem?_modify, if_neg (fun e => hn (by rw [← e]; rfl))]
end Go.Proofs.YtfhogenjpepfnaaGreatDoor

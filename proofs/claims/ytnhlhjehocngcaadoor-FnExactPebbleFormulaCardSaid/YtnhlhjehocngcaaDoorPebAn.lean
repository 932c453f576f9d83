/- The program's answered: whether the second player can answer each choice with a pebble. Conditions: the game is not one of matching, the places lie in the game. -/
import Derived.Test.YtnhlhjehocngcaaDoorPebSt
namespace Go.Proofs.YtnhlhjehocngcaaDoor
open Go.RowKit
set_option linter.unusedVariables false
set_option maxRecDepth 100000

def fW (m : Nat) (W : List Bool) (rest step x y : Nat) : Bool := W.getD (rest + step * (1 + x * m + y)) false
/-- Whether each choice can be answered. -/
def ansF (n m : Nat) (f : Nat → Nat → Bool) : Bool := ((List.range n).all fun i => (List.range m).any fun j => f i j) && ((List.range m).all fun j => (List.range n).any fun i => f i j)
def ansB (n m : Nat) (W : List Bool) (rest step : Nat) : Bool := ansF n m (fW m W rest step)
/-- The pairs that are seen. -/
def seenB (x y i j : Nat) : Bool := decide (i < x) || (decide (i = x) && decide (j < y))
def rowsL (n m : Nat) (f : Nat → Nat → Bool) (x y : Nat) : List Bool := (List.range n).map fun i => (List.range m).any fun j => seenB x y i j && f i j
def colsL (n m : Nat) (f : Nat → Nat → Bool) (x y : Nat) : List Bool := (List.range m).map fun j => (List.range n).any fun i => seenB x y i j && f i j
theorem seen_succ (x y i j : Nat) : seenB x (y + 1) i j = (seenB x y i j || (decide (i = x) && decide (j = y))) := by
  unfold seenB
  rw [Bool.eq_iff_iff]
  simp only [Bool.or_eq_true, Bool.and_eq_true, decide_eq_true_iff]
  omega
theorem seen_end {m j : Nat} (h : j < m) (x i : Nat) : seenB x m i j = seenB (x + 1) 0 i j := by
  unfold seenB
  rw [Bool.eq_iff_iff]
  simp only [Bool.or_eq_true, Bool.and_eq_true, decide_eq_true_iff]
  omega
theorem any_seen (m : Nat) (g : Nat → Bool) (P Q : Nat → Bool) : ((List.range m).any fun j => (P j || Q j) && g j) = (((List.range m).any fun j => P j && g j) || ((List.range m).any fun j => Q j && g j)) := by
  rw [Bool.eq_iff_iff]
  simp only [Bool.or_eq_true, List.any_eq_true, Bool.and_eq_true]
  constructor
  · rintro ⟨j, hj, h1 | h1, h2⟩
    · exact .inl ⟨j, hj, h1, h2⟩
    · exact .inr ⟨j, hj, h1, h2⟩
  · rintro (⟨j, hj, h1, h2⟩ | ⟨j, hj, h1, h2⟩)
    · exact ⟨j, hj, .inl h1, h2⟩
    · exact ⟨j, hj, .inr h1, h2⟩
theorem any_one {m : Nat} (c : Bool) (y : Nat) (hy : y < m) (g : Nat → Bool) : ((List.range m).any fun j => (c && decide (j = y)) && g j) = (c && g y) := by
  rw [Bool.eq_iff_iff]
  simp only [List.any_eq_true, Bool.and_eq_true, decide_eq_true_iff, List.mem_range]
  constructor
  · rintro ⟨j, hj, ⟨h1, rfl⟩, h2⟩
    exact ⟨h1, h2⟩
  · rintro ⟨h1, h2⟩
    exact ⟨y, hy, ⟨h1, rfl⟩, h2⟩
theorem rows_get {n m : Nat} {f : Nat → Nat → Bool} {x y i : Nat} (hi : i < n) : (rowsL n m f x y)[i]? = some ((List.range m).any fun j => seenB x y i j && f i j) := by
  unfold rowsL
  rw [List.getElem?_map, List.getElem?_range hi]
  rfl
theorem rows_len (n m : Nat) (f : Nat → Nat → Bool) (x y : Nat) : (rowsL n m f x y).length = n := by simp [rowsL]
theorem cols_len (n m : Nat) (f : Nat → Nat → Bool) (x y : Nat) : (colsL n m f x y).length = m := by simp [colsL]
theorem cols_swap (n m : Nat) (f : Nat → Nat → Bool) (x y : Nat) : colsL n m f x y = (List.range m).map fun j => (List.range n).any fun i => seenB x y i j && f i j := rfl
theorem rows_step {n m : Nat} {f : Nat → Nat → Bool} {x y : Nat} (hx : x < n) (hy : y < m) : rowsL n m f x (y + 1) = if f x y then (rowsL n m f x y).set x true else rowsL n m f x y := by
  apply List.ext_getElem?
  intro i
  by_cases hi : i < n
  · have h1 : ((List.range m).any fun j => seenB x (y + 1) i j && f i j) = (((List.range m).any fun j => seenB x y i j && f i j) || (decide (i = x) && f i y)) := by
      rw [← any_one (decide (i = x)) y hy (f i), ← any_seen]
      congr 1
      funext j
      rw [seen_succ]
    rw [rows_get hi, h1]
    by_cases hf : f x y = true
    · rw [if_pos hf, List.getElem?_set]
      by_cases e : x = i
      · subst e
        rw [if_pos rfl, if_pos (by rw [rows_len]; exact hx), hf]
        simp
      · rw [if_neg e, rows_get hi, decide_eq_false (fun h => e h.symm)]
        simp
    · rw [if_neg hf, rows_get hi]
      by_cases e : i = x
      · subst e
        rw [Bool.not_eq_true] at hf
        rw [hf]; simp
      · rw [decide_eq_false e]; simp
  · rw [List.getElem?_eq_none (by rw [rows_len]; omega)]
    split
    · rw [List.getElem?_eq_none (by rw [List.length_set, rows_len]; omega)]
    · rw [List.getElem?_eq_none (by rw [rows_len]; omega)]
theorem cols_get {n m : Nat} {f : Nat → Nat → Bool} {x y j : Nat} (hj : j < m) : (colsL n m f x y)[j]? = some ((List.range n).any fun i => seenB x y i j && f i j) := by
  unfold colsL
  rw [List.getElem?_map, List.getElem?_range hj]
  rfl
theorem cols_step {n m : Nat} {f : Nat → Nat → Bool} {x y : Nat} (hx : x < n) (hy : y < m) : colsL n m f x (y + 1) = if f x y then (colsL n m f x y).set y true else colsL n m f x y := by
  apply List.ext_getElem?
  intro j
  by_cases hj : j < m
  · have h1 : ((List.range n).any fun i => seenB x (y + 1) i j && f i j) = (((List.range n).any fun i => seenB x y i j && f i j) || (decide (j = y) && f x j)) := by
      rw [← any_one (decide (j = y)) x hx (fun i => f i j), ← any_seen]
      congr 1
      funext i
      rw [seen_succ, Bool.and_comm (decide (i = x))]
    rw [cols_get hj, h1]
    by_cases hf : f x y = true
    · rw [if_pos hf, List.getElem?_set]
      by_cases e : y = j
      · subst e
        rw [if_pos rfl, if_pos (by rw [cols_len]; exact hy), hf]
        simp
      · rw [if_neg e, cols_get hj, decide_eq_false (fun h => e h.symm)]
        simp
    · rw [if_neg hf, cols_get hj]
      by_cases e : j = y
      · subst e
        rw [Bool.not_eq_true] at hf
        rw [hf]; simp
      · rw [decide_eq_false e]; simp
  · rw [List.getElem?_eq_none (by rw [cols_len]; omega)]
    split
    · rw [List.getElem?_eq_none (by rw [List.length_set, cols_len]; omega)]
    · rw [List.getElem?_eq_none (by rw [cols_len]; omega)]
theorem any_eq {l : List Nat} {p q : Nat → Bool} (h : ∀ x ∈ l, p x = q x) : l.any p = l.any q := by
  induction l with
  | nil => rfl
  | cons a l ih =>
    rw [List.any_cons, List.any_cons, h a (by simp), ih (fun x hx => h x (by simp [hx]))]
theorem all_eq {l : List Nat} {p q : Nat → Bool} (h : ∀ x ∈ l, p x = q x) : l.all p = l.all q := by
  induction l with
  | nil => rfl
  | cons a l ih =>
    rw [List.all_cons, List.all_cons, h a (by simp), ih (fun x hx => h x (by simp [hx]))]
theorem rows_next (n m : Nat) (f : Nat → Nat → Bool) (x : Nat) : rowsL n m f x m = rowsL n m f (x + 1) 0 := by
  unfold rowsL
  apply List.map_congr_left
  intro i _
  apply any_eq
  intro j hj
  rw [seen_end (List.mem_range.1 hj)]
theorem cols_next (n m : Nat) (f : Nat → Nat → Bool) (x : Nat) : colsL n m f x m = colsL n m f (x + 1) 0 := by
  unfold colsL
  apply List.map_congr_left
  intro j hj
  apply any_eq
  intro i _
  rw [seen_end (List.mem_range.1 hj)]
theorem seen_no (i j : Nat) : seenB 0 0 i j = false := by unfold seenB; simp
theorem seen_all {n i : Nat} (h : i < n) (j : Nat) : seenB n 0 i j = true := by unfold seenB; simp [h]
theorem rows_start (n m : Nat) (f : Nat → Nat → Bool) : rowsL n m f 0 0 = List.replicate n false := by
  rw [List.eq_replicate_iff]
  refine ⟨rows_len n m f 0 0, fun b hb => ?_⟩
  obtain ⟨i, _, rfl⟩ := List.mem_map.1 hb
  rw [List.any_eq_false]
  intro j _
  rw [seen_no]
  simp
theorem cols_start (n m : Nat) (f : Nat → Nat → Bool) : colsL n m f 0 0 = List.replicate m false := by
  rw [List.eq_replicate_iff]
  refine ⟨cols_len n m f 0 0, fun b hb => ?_⟩
  obtain ⟨i, _, rfl⟩ := List.mem_map.1 hb
  rw [List.any_eq_false]
  intro j _
  rw [seen_no]
  simp
theorem ans_end (n m : Nat) (f : Nat → Nat → Bool) : ((rowsL n m f n 0).all id && (colsL n m f n 0).all id) = ansF n m f := by
  unfold rowsL colsL ansF
  rw [List.all_map, List.all_map]
  congr 1
  · apply all_eq
    intro i hi
    show ((List.range m).any fun j => seenB n 0 i j && f i j) = _
    simp only [seen_all (List.mem_range.1 hi), Bool.true_and]
  · apply all_eq
    intro j hj
    show ((List.range n).any fun i => seenB n 0 i j && f i j) = _
    apply any_eq
    intro i hi
    rw [seen_all (List.mem_range.1 hi), Bool.true_and]
end Go.Proofs.YtnhlhjehocngcaaDoor

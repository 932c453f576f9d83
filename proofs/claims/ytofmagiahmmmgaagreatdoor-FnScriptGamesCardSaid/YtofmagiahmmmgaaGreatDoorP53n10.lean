/- Contracts of the program's functions and what they compute: part 10. Conditions: those that each theorem states. -/
import Derived.Test.YtofmagiahmmmgaaGreatDoorP53n8
import Derived.Test.YtofmagiahmmmgaaGreatDoorP53n9
namespace Go.Proofs.YtofmagiahmmmgaaGreatDoor
open Go.RowKit
set_option linter.unusedVariables false
set_option maxRecDepth 100000
/-- The number of a pair of pebbles. -/
def dig (m : Nat) (x y : Int) : Nat := if 0 ≤ x then 1 + x.toNat * m + y.toNat else 0
/-- The number of a way in which pebbles lie. -/
def stP (P m : Nat) : List Int → List Int → Nat
  | x :: L, y :: M => stP P m L M * P + dig m x y
  | _, _ => 0
/-- Pebbles that are ready. -/
structure Rdy (n m : Nat) (L M : List Int) : Prop where
  len : L.length = M.length
  la : ∀ x ∈ L, -1 ≤ x ∧ x < (n : Int)
  lb : ∀ x ∈ M, -1 ≤ x ∧ x < (m : Int)
  sg : ∀ j, (L.getD j 0 < 0) ↔ (M.getD j 0 < 0)
theorem Rdy.tail {n m : Nat} {x y : Int} {L M : List Int} (h : Rdy n m (x :: L) (y :: M)) : Rdy n m L M :=
  ⟨by simpa using h.len, fun z hz => h.la z (by simp [hz]), fun z hz => h.lb z (by simp [hz]), fun j => by simpa using h.sg (j + 1)⟩
theorem pairs_lt {n m x y : Nat} (hx : x < n) (hy : y < m) : 1 + x * m + y < n * m + 1 := by
  have h1 : (x + 1) * m ≤ n * m := Nat.mul_le_mul_right _ hx
  rw [Nat.add_mul, Nat.one_mul] at h1
  omega
theorem dig_lt {n m : Nat} {x y : Int} (h1 : x < (n : Int)) (h2 : y < (m : Int)) (hs : x < 0 ↔ y < 0) : dig m x y < n * m + 1 := by
  unfold dig
  split
  · exact pairs_lt (by omega) (by omega)
  · omega
theorem stP_lt {n m : Nat} : ∀ {L M : List Int}, Rdy n m L M → stP (n * m + 1) m L M < (n * m + 1) ^ L.length
  | [], M, h => by simp [stP]
  | x :: L, [], h => by simp [stP]; exact Nat.pow_pos (by omega)
  | x :: L, y :: M, h => by
    have h1 := stP_lt h.tail
    have h2 := dig_lt (h.la x (by simp)).2 (h.lb y (by simp)).2 (by simpa using h.sg 0)
    unfold stP
    rw [List.length_cons, Nat.pow_succ]
    generalize stP (n * m + 1) m L M = s at *
    generalize (n * m + 1) ^ L.length = t at *
    have h3 : (s + 1) * (n * m + 1) ≤ t * (n * m + 1) := Nat.mul_le_mul_right _ h1
    rw [Nat.add_mul, Nat.one_mul] at h3
    omega
/-- The elements under pebbles of a way. -/
def lyA (P m : Nat) : Nat → Nat → List Nat
  | 0, _ => []
  | k + 1, s => if 0 < s % P then (s % P - 1) / m :: lyA P m k (s / P) else lyA P m k (s / P)
def lyB (P m : Nat) : Nat → Nat → List Nat
  | 0, _ => []
  | k + 1, s => if 0 < s % P then (s % P - 1) % m :: lyB P m k (s / P) else lyB P m k (s / P)
theorem ly_len (P m : Nat) : ∀ k s, (lyA P m k s).length = (lyB P m k s).length ∧ (lyA P m k s).length ≤ k
  | 0, _ => ⟨rfl, Nat.le_refl _⟩
  | k + 1, s => by
    have := ly_len P m k (s / P)
    unfold lyA lyB
    split
    · simp; omega
    · omega
theorem lyA_lt {n m : Nat} (hm : 0 < m) : ∀ k s, ∀ z ∈ lyA (n * m + 1) m k s, z < n
  | 0, _, z, hz => by simp [lyA] at hz
  | k + 1, s, z, hz => by
    unfold lyA at hz
    split at hz
    · rename_i h0
      rcases List.mem_cons.1 hz with rfl | hz
      · rw [Nat.div_lt_iff_lt_mul hm]
        have := Nat.mod_lt s (show 0 < n * m + 1 by omega)
        omega
      · exact lyA_lt hm k _ z hz
    · exact lyA_lt hm k _ z hz
theorem lyB_lt {P m : Nat} (hm : 0 < m) : ∀ k s, ∀ z ∈ lyB P m k s, z < m
  | 0, _, z, hz => by simp [lyB] at hz
  | k + 1, s, z, hz => by
    unfold lyB at hz
    split at hz
    · rcases List.mem_cons.1 hz with rfl | hz
      · exact Nat.mod_lt _ hm
      · exact lyB_lt hm k _ z hz
    · exact lyB_lt hm k _ z hz
/-- Whether pebbles of a way fit. -/
def fitB (a b : Gs.St) (n m k s : Nat) : Bool := Gs.same a (lyA (n * m + 1) m k s) b (lyB (n * m + 1) m k s)
def fitL (a b : Gs.St) (n m k : Nat) : List Bool := (List.range ((n * m + 1) ^ k)).map (fitB a b n m k)
theorem fitL_len (a b : Gs.St) (n m k : Nat) : (fitL a b n m k).length = (n * m + 1) ^ k := by simp [fitL]
/-- The game in memory: its block. -/
structure PebG (w : World) (p n : Nat) (S R : ByteArray) (m : Nat) (S2 R2 : ByteArray) (k : Nat) (fv wv : Value) : Prop where
  blk : w.heap[p]? = some (.cells #[.int .i64 (n : Int), .string S, .string R, .int .i64 (m : Int), .string S2, .string R2, .int .i64 (k : Int), .int .i64 ((n * m + 1 : Nat) : Int), fv, wv, .bool false] 56 (0, 0))
section
variable {w w' : World} {p n m k : Nat} {S R S2 R2 : ByteArray} {fv wv : Value}
theorem PebG.lt (h : PebG w p n S R m S2 R2 k fv wv) : p < w.heap.size := (Array.getElem?_eq_some_iff.1 h.blk).1
theorem PebG.cells (h : PebG w p n S R m S2 R2 k fv wv) : w.cell? ⟨p, 0, none⟩ = some (.int .i64 (n : Int)) ∧ w.cell? ⟨p, 3, none⟩ = some (.int .i64 (m : Int)) ∧ w.cell? ⟨p, 6, none⟩ = some (.int .i64 (k : Int)) ∧
    w.cell? ⟨p, 7, none⟩ = some (.int .i64 ((n * m + 1 : Nat) : Int)) ∧ w.cell? ⟨p, 8, none⟩ = some fv ∧ w.cell? ⟨p, 9, none⟩ = some wv ∧ w.cell? ⟨p, 10, none⟩ = some (.bool false) ∧ w.frozen? ⟨p, 8, none⟩ = false ∧ w.frozen? ⟨p, 9, none⟩ = false := by
  have hb := h.blk
  refine ⟨?_, ?_, ?_, ?_, ?_, ?_, ?_, ?_, ?_⟩
  all_goals first | (unfold World.cell?; rw [hb]; rfl) | (unfold World.frozen?; rw [hb]; rfl)
theorem PebG.below (h : PebG w p n S R m S2 R2 k fv wv) (hb : Below w.heap.size w w') : PebG w' p n S R m S2 R2 k fv wv := ⟨(hb.block p h.lt).trans h.blk⟩
theorem PebG.setW (h : PebG w p n S R m S2 R2 k fv wv) (v : Value) : PebG (w.setCell ⟨p, 9, none⟩ v) p n S R m S2 R2 k fv v := ⟨by
  have := h.blk
  simp [World.setCell, Array.getElem?_modify, this]⟩
theorem PebG.setF (h : PebG w p n S R m S2 R2 k fv wv) (v : Value) : PebG (w.setCell ⟨p, 8, none⟩ v) p n S R m S2 R2 k v wv := ⟨by
  have := h.blk
  simp [World.setCell, Array.getElem?_modify, this]⟩
end
end Go.Proofs.YtofmagiahmmmgaaGreatDoor

namespace Go.Proofs.YtofmagiahmmmgaaGreatDoor
open Go.RowKit
set_option linter.unusedVariables false
set_option maxRecDepth 100000
theorem pairs_le {n m : Nat} (hn : n ≤ 8) (hm : m ≤ 8) : n * m + 1 ≤ 65 := by
  have := Nat.mul_le_mul hn hm
  omega
theorem pow_le {P k : Nat} (hP : P ≤ 65) (hk : k ≤ 3) : P ^ k ≤ 274625 := by
  have h1 := Nat.pow_le_pow_left hP k
  have h2 : 65 ^ k ≤ 65 ^ 3 := Nat.pow_le_pow_right (by decide) hk
  have h3 : 65 ^ 3 = 274625 := by decide
  omega
theorem Rdy.drop {n m : Nat} {L M : List Int} (h : Rdy n m L M) (j : Nat) : Rdy n m (L.drop j) (M.drop j) :=
  ⟨by rw [List.length_drop, List.length_drop, h.len], fun x hx => h.la x (List.mem_of_mem_drop hx), fun x hx => h.lb x (List.mem_of_mem_drop hx), fun i => by
    have := h.sg (j + i)
    simpa [List.getD_eq_getElem?_getD] using this⟩
end Go.Proofs.YtofmagiahmmmgaaGreatDoor

namespace Go.Proofs.YtofmagiahmmmgaaGreatDoor
open Go.RowKit
set_option linter.unusedVariables false
set_option maxRecDepth 100000
def fW (m : Nat) (W : List Bool) (rest step x y : Nat) : Bool := W.getD (rest + step * (1 + x * m + y)) false
/-- Whether each choice can be answered. -/
def ansF (n m : Nat) (f : Nat → Nat → Bool) : Bool := ((List.range n).all fun i => (List.range m).any fun j => f i j) && ((List.range m).all fun j => (List.range n).any fun i => f i j)
def ansB (n m : Nat) (W : List Bool) (rest step : Nat) : Bool := ansF n m (fW m W rest step)
/-- The pairs that are seen. -/
def seenB (x y i j : Nat) : Bool := decide (i < x) || (decide (i = x) && decide (j < y))
def rowsL (n m : Nat) (f : Nat → Nat → Bool) (x y : Nat) : List Bool := (List.range n).map fun i => (List.range m).any fun j => seenB x y i j && f i j
def colsL (n m : Nat) (f : Nat → Nat → Bool) (x y : Nat) : List Bool := (List.range m).map fun j => (List.range n).any fun i => seenB x y i j && f i j
theorem seen_succ (x y i j : Nat) : seenB x (y + 1) i j = (seenB x y i j || (decide (i = x) && decide (j = y))) := by
  unfold seenB
  rw [Bool.eq_iff_iff]
  simp only [Bool.or_eq_true, Bool.and_eq_true, decide_eq_true_iff]
  omega
theorem seen_end {m j : Nat} (h : j < m) (x i : Nat) : seenB x m i j = seenB (x + 1) 0 i j := by
  unfold seenB
  rw [Bool.eq_iff_iff]
  simp only [Bool.or_eq_true, Bool.and_eq_true, decide_eq_true_iff]
  omega
theorem any_seen (m : Nat) (g : Nat → Bool) (P Q : Nat → Bool) : ((List.range m).any fun j => (P j || Q j) && g j) = (((List.range m).any fun j => P j && g j) || ((List.range m).any fun j => Q j && g j)) := by
  rw [Bool.eq_iff_iff]
  simp only [Bool.or_eq_true, List.any_eq_true, Bool.and_eq_true]
  constructor
  · rintro ⟨j, hj, h1 | h1, h2⟩
    · exact .inl ⟨j, hj, h1, h2⟩
    · exact .inr ⟨j, hj, h1, h2⟩
  · rintro (⟨j, hj, h1, h2⟩ | ⟨j, hj, h1, h2⟩)
    · exact ⟨j, hj, .inl h1, h2⟩
    · exact ⟨j, hj, .inr h1, h2⟩
theorem any_one {m : Nat} (c : Bool) (y : Nat) (hy : y < m) (g : Nat → Bool) : ((List.range m).any fun j => (c && decide (j = y)) && g j) = (c && g y) := by
  rw [Bool.eq_iff_iff]
  simp only [List.any_eq_true, Bool.and_eq_true, decide_eq_true_iff, List.mem_range]
  constructor
  · rintro ⟨j, hj, ⟨h1, rfl⟩, h2⟩
    exact ⟨h1, h2⟩
  · rintro ⟨h1, h2⟩
    exact ⟨y, hy, ⟨h1, rfl⟩, h2⟩
theorem rows_get {n m : Nat} {f : Nat → Nat → Bool} {x y i : Nat} (hi : i < n) : (rowsL n m f x y)[i]? = some ((List.range m).any fun j => seenB x y i j && f i j) := by
  unfold rowsL
  rw [List.getElem?_map, List.getElem?_range hi]
  rfl
theorem rows_len (n m : Nat) (f : Nat → Nat → Bool) (x y : Nat) : (rowsL n m f x y).length = n := by simp [rowsL]
theorem cols_len (n m : Nat) (f : Nat → Nat → Bool) (x y : Nat) : (colsL n m f x y).length = m := by simp [colsL]
theorem rows_step {n m : Nat} {f : Nat → Nat → Bool} {x y : Nat} (hx : x < n) (hy : y < m) : rowsL n m f x (y + 1) = if f x y then (rowsL n m f x y).set x true else rowsL n m f x y := by
  apply List.ext_getElem?
  intro i
  by_cases hi : i < n
  · have h1 : ((List.range m).any fun j => seenB x (y + 1) i j && f i j) = (((List.range m).any fun j => seenB x y i j && f i j) || (decide (i = x) && f i y)) := by
      rw [← any_one (decide (i = x)) y hy (f i), ← any_seen]
      congr 1
      funext j
      rw [seen_succ]
    rw [rows_get hi, h1]
    by_cases hf : f x y = true
    · rw [if_pos hf, List.getElem?_set]
      by_cases e : x = i
      · subst e
        rw [if_pos rfl, if_pos (by rw [rows_len]; exact hx), hf]
        simp
      · rw [if_neg e, rows_get hi, decide_eq_false (fun h => e h.symm)]
        simp
    · rw [if_neg hf, rows_get hi]
      by_cases e : i = x
      · subst e
        rw [Bool.not_eq_true] at hf
        rw [hf]; simp
      · rw [decide_eq_false e]; simp
  · rw [List.getElem?_eq_none (by rw [rows_len]; omega)]
    split
    · rw [List.getElem?_eq_none (by rw [List.length_set, rows_len]; omega)]
    · rw [List.getElem?_eq_none (by rw [rows_len]; omega)]
theorem cols_get {n m : Nat} {f : Nat → Nat → Bool} {x y j : Nat} (hj : j < m) : (colsL n m f x y)[j]? = some ((List.range n).any fun i => seenB x y i j && f i j) := by
  unfold colsL
  rw [List.getElem?_map, List.getElem?_range hj]
  rfl
theorem cols_step {n m : Nat} {f : Nat → Nat → Bool} {x y : Nat} (hx : x < n) (hy : y < m) : colsL n m f x (y + 1) = if f x y then (colsL n m f x y).set y true else colsL n m f x y := by
  apply List.ext_getElem?
  intro j
  by_cases hj : j < m
  · have h1 : ((List.range n).any fun i => seenB x (y + 1) i j && f i j) = (((List.range n).any fun i => seenB x y i j && f i j) || (decide (j = y) && f x j)) := by
      rw [← any_one (decide (j = y)) x hx (fun i => f i j), ← any_seen]
      congr 1
      funext i
      rw [seen_succ, Bool.and_comm (decide (i = x))]
    rw [cols_get hj, h1]
    by_cases hf : f x y = true
    · rw [if_pos hf, List.getElem?_set]
      by_cases e : y = j
      · subst e
        rw [if_pos rfl, if_pos (by rw [cols_len]; exact hy), hf]
        simp
      · rw [if_neg e, cols_get hj, decide_eq_false (fun h => e h.symm)]
        simp
    · rw [if_neg hf, cols_get hj]
      by_cases e : j = y
      · subst e
        rw [Bool.not_eq_true] at hf
        rw [hf]; simp
      · rw [decide_eq_false e]; simp
  · rw [List.getElem?_eq_none (by rw [cols_len]; omega)]
    split
    · rw [List.getElem?_eq_none (by rw [List.length_set, cols_len]; omega)]
    · rw [List.getElem?_eq_none (by rw [cols_len]; omega)]
theorem any_eq {l : List Nat} {p q : Nat → Bool} (h : ∀ x ∈ l, p x = q x) : l.any p = l.any q := by
  induction l with
  | nil => rfl
  | cons a l ih =>
    rw [List.any_cons, List.any_cons, h a (by simp), ih (fun x hx => h x (by simp [hx]))]
theorem all_eq {l : List Nat} {p q : Nat → Bool} (h : ∀ x ∈ l, p x = q x) : l.all p = l.all q := by
  induction l with
  | nil => rfl
  | cons a l ih =>
    rw [List.all_cons, List.all_cons, h a (by simp), ih (fun x hx => h x (by simp [hx]))]
theorem rows_next (n m : Nat) (f : Nat → Nat → Bool) (x : Nat) : rowsL n m f x m = rowsL n m f (x + 1) 0 := by
  unfold rowsL
  apply List.map_congr_left
  intro i _
  apply any_eq
  intro j hj
  rw [seen_end (List.mem_range.1 hj)]
theorem cols_next (n m : Nat) (f : Nat → Nat → Bool) (x : Nat) : colsL n m f x m = colsL n m f (x + 1) 0 := by
  unfold colsL
  apply List.map_congr_left
  intro j hj
  apply any_eq
  intro i _
  rw [seen_end (List.mem_range.1 hj)]
theorem seen_no (i j : Nat) : seenB 0 0 i j = false := by unfold seenB; simp
theorem seen_all {n i : Nat} (h : i < n) (j : Nat) : seenB n 0 i j = true := by unfold seenB; simp [h]
theorem rows_start (n m : Nat) (f : Nat → Nat → Bool) : rowsL n m f 0 0 = List.replicate n false := by
  rw [List.eq_replicate_iff]
  refine ⟨rows_len n m f 0 0, fun b hb => ?_⟩
  obtain ⟨i, _, rfl⟩ := List.mem_map.1 hb
  rw [List.any_eq_false]
  intro j _
  rw [seen_no]
  simp
theorem cols_start (n m : Nat) (f : Nat → Nat → Bool) : colsL n m f 0 0 = List.replicate m false := by
  rw [List.eq_replicate_iff]
  refine ⟨cols_len n m f 0 0, fun b hb => ?_⟩
  obtain ⟨i, _, rfl⟩ := List.mem_map.1 hb
  rw [List.any_eq_false]
  intro j _
  rw [seen_no]
  simp
theorem ans_end (n m : Nat) (f : Nat → Nat → Bool) : ((rowsL n m f n 0).all id && (colsL n m f n 0).all id) = ansF n m f := by
  unfold rowsL colsL ansF
  rw [List.all_map, List.all_map]
  congr 1
  · apply all_eq
    intro i hi
    show ((List.range m).any fun j => seenB n 0 i j && f i j) = _
    simp only [seen_all (List.mem_range.1 hi), Bool.true_and]
  · apply all_eq
    intro j hj
    show ((List.range n).any fun i => seenB n 0 i j && f i j) = _
    apply any_eq
    intro i hi
    rw [seen_all (List.mem_range.1 hi), Bool.true_and]
end Go.Proofs.YtofmagiahmmmgaaGreatDoor

/- Games of pebbles, plainly, and how the program keeps them. No condition. -/
import Derived.Test.YtnhlhjehocngcaaDoorOwnL
import Derived.Test.YtnhlhjehocngcaaDoorOwnI
import Derived.Test.YtnhlhjehocngcaaDoorWith
namespace Go.Proofs.YtnhlhjehocngcaaDoor
open Go.RowKit
set_option linter.unusedVariables false
set_option maxRecDepth 100000

/-- The number of a pair of pebbles. -/
def dig (m : Nat) (x y : Int) : Nat := if 0 ≤ x then 1 + x.toNat * m + y.toNat else 0
/-- The number of a way in which pebbles lie. -/
def stP (P m : Nat) : List Int → List Int → Nat
  | x :: L, y :: M => stP P m L M * P + dig m x y
  | _, _ => 0
/-- Pebbles that are ready. -/
structure Rdy (n m : Nat) (L M : List Int) : Prop where
  len : L.length = M.length
  la : ∀ x ∈ L, -1 ≤ x ∧ x < (n : Int)
  lb : ∀ x ∈ M, -1 ≤ x ∧ x < (m : Int)
  sg : ∀ j, (L.getD j 0 < 0) ↔ (M.getD j 0 < 0)
theorem Rdy.tail {n m : Nat} {x y : Int} {L M : List Int} (h : Rdy n m (x :: L) (y :: M)) : Rdy n m L M :=
  ⟨by simpa using h.len, fun z hz => h.la z (by simp [hz]), fun z hz => h.lb z (by simp [hz]), fun j => by simpa using h.sg (j + 1)⟩
theorem pairs_lt {n m x y : Nat} (hx : x < n) (hy : y < m) : 1 + x * m + y < n * m + 1 := by
  have h1 : (x + 1) * m ≤ n * m := Nat.mul_le_mul_right _ hx
  rw [Nat.add_mul, Nat.one_mul] at h1
  omega
theorem dig_lt {n m : Nat} {x y : Int} (h1 : x < (n : Int)) (h2 : y < (m : Int)) (hs : x < 0 ↔ y < 0) : dig m x y < n * m + 1 := by
  unfold dig
  split
  · exact pairs_lt (by omega) (by omega)
  · omega
theorem stP_lt {n m : Nat} : ∀ {L M : List Int}, Rdy n m L M → stP (n * m + 1) m L M < (n * m + 1) ^ L.length
  | [], M, h => by simp [stP]
  | x :: L, [], h => by simp [stP]; exact Nat.pow_pos (by omega)
  | x :: L, y :: M, h => by
    have h1 := stP_lt h.tail
    have h2 := dig_lt (h.la x (by simp)).2 (h.lb y (by simp)).2 (by simpa using h.sg 0)
    unfold stP
    rw [List.length_cons, Nat.pow_succ]
    generalize stP (n * m + 1) m L M = s at *
    generalize (n * m + 1) ^ L.length = t at *
    have h3 : (s + 1) * (n * m + 1) ≤ t * (n * m + 1) := Nat.mul_le_mul_right _ h1
    rw [Nat.add_mul, Nat.one_mul] at h3
    omega
/-- The elements under pebbles of a way. -/
def lyA (P m : Nat) : Nat → Nat → List Nat
  | 0, _ => []
  | k + 1, s => if 0 < s % P then (s % P - 1) / m :: lyA P m k (s / P) else lyA P m k (s / P)
def lyB (P m : Nat) : Nat → Nat → List Nat
  | 0, _ => []
  | k + 1, s => if 0 < s % P then (s % P - 1) % m :: lyB P m k (s / P) else lyB P m k (s / P)
theorem ly_len (P m : Nat) : ∀ k s, (lyA P m k s).length = (lyB P m k s).length ∧ (lyA P m k s).length ≤ k
  | 0, _ => ⟨rfl, Nat.le_refl _⟩
  | k + 1, s => by
    have := ly_len P m k (s / P)
    unfold lyA lyB
    split
    · simp; omega
    · omega
theorem lyA_lt {n m : Nat} (hm : 0 < m) : ∀ k s, ∀ z ∈ lyA (n * m + 1) m k s, z < n
  | 0, _, z, hz => by simp [lyA] at hz
  | k + 1, s, z, hz => by
    unfold lyA at hz
    split at hz
    · rename_i h0
      rcases List.mem_cons.1 hz with rfl | hz
      · rw [Nat.div_lt_iff_lt_mul hm]
        have := Nat.mod_lt s (show 0 < n * m + 1 by omega)
        omega
      · exact lyA_lt hm k _ z hz
    · exact lyA_lt hm k _ z hz
theorem lyB_lt {P m : Nat} (hm : 0 < m) : ∀ k s, ∀ z ∈ lyB P m k s, z < m
  | 0, _, z, hz => by simp [lyB] at hz
  | k + 1, s, z, hz => by
    unfold lyB at hz
    split at hz
    · rcases List.mem_cons.1 hz with rfl | hz
      · exact Nat.mod_lt _ hm
      · exact lyB_lt hm k _ z hz
    · exact lyB_lt hm k _ z hz
/-- Whether pebbles of a way fit. -/
def fitB (a b : Gs.St) (n m k s : Nat) : Bool := Gs.same a (lyA (n * m + 1) m k s) b (lyB (n * m + 1) m k s)
def fitL (a b : Gs.St) (n m k : Nat) : List Bool := (List.range ((n * m + 1) ^ k)).map (fitB a b n m k)
theorem fitL_len (a b : Gs.St) (n m k : Nat) : (fitL a b n m k).length = (n * m + 1) ^ k := by simp [fitL]
/-- The game in memory: its block. -/
structure PebG (w : World) (p n : Nat) (S R : ByteArray) (m : Nat) (S2 R2 : ByteArray) (k : Nat) (fv wv : Value) : Prop where
  blk : w.heap[p]? = some (.cells #[.int .i64 (n : Int), .string S, .string R, .int .i64 (m : Int), .string S2, .string R2, .int .i64 (k : Int), .int .i64 ((n * m + 1 : Nat) : Int), fv, wv, .bool false] 62 (0, 0))
section
variable {w w' : World} {p n m k : Nat} {S R S2 R2 : ByteArray} {fv wv : Value}
theorem PebG.lt (h : PebG w p n S R m S2 R2 k fv wv) : p < w.heap.size := (Array.getElem?_eq_some_iff.1 h.blk).1
theorem PebG.cells (h : PebG w p n S R m S2 R2 k fv wv) : w.cell? ⟨p, 0, none⟩ = some (.int .i64 (n : Int)) ∧ w.cell? ⟨p, 3, none⟩ = some (.int .i64 (m : Int)) ∧ w.cell? ⟨p, 6, none⟩ = some (.int .i64 (k : Int)) ∧
    w.cell? ⟨p, 7, none⟩ = some (.int .i64 ((n * m + 1 : Nat) : Int)) ∧ w.cell? ⟨p, 8, none⟩ = some fv ∧ w.cell? ⟨p, 9, none⟩ = some wv ∧ w.cell? ⟨p, 10, none⟩ = some (.bool false) ∧ w.frozen? ⟨p, 8, none⟩ = false ∧ w.frozen? ⟨p, 9, none⟩ = false := by
  have hb := h.blk
  refine ⟨?_, ?_, ?_, ?_, ?_, ?_, ?_, ?_, ?_⟩
  all_goals first | (unfold World.cell?; rw [hb]; rfl) | (unfold World.frozen?; rw [hb]; rfl)
theorem PebG.below (h : PebG w p n S R m S2 R2 k fv wv) (hb : Below w.heap.size w w') : PebG w' p n S R m S2 R2 k fv wv := ⟨(hb.block p h.lt).trans h.blk⟩
theorem PebG.setW (h : PebG w p n S R m S2 R2 k fv wv) (v : Value) : PebG (w.setCell ⟨p, 9, none⟩ v) p n S R m S2 R2 k fv v := ⟨by
  have := h.blk
  simp [World.setCell, Array.getElem?_modify, this]⟩
theorem PebG.setF (h : PebG w p n S R m S2 R2 k fv wv) (v : Value) : PebG (w.setCell ⟨p, 8, none⟩ v) p n S R m S2 R2 k v wv := ⟨by
  have := h.blk
  simp [World.setCell, Array.getElem?_modify, this]⟩
end
end Go.Proofs.YtnhlhjehocngcaaDoor

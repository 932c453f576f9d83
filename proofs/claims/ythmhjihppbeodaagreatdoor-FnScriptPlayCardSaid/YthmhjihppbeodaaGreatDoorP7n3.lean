/- Contracts of the program's functions and what they compute: part 3. Conditions: those that each theorem states. -/
import Derived.Test.YthmhjihppbeodaaGreatDoorP7n1
import Derived.Deep.RegionHeld3
import Derived.Deep.DeepCutAuto
import Derived.Laws.ResultCell
import Derived.OneCell
import Derived.IntWalk
namespace Go.Proofs.YthmhjihppbeodaaGreatDoor
open Go.RowKit
def bit (b : Bool) : UInt8 := if b then 49 else 48
/-- The text of a bit. -/
def bitS (b : Bool) : ByteArray := ⟨#[bit b]⟩
/-- The text of n bits. -/
def bitsOf (f : Nat → Bool) (n : Nat) : ByteArray := ⟨((List.range n).map fun i => bit (f i)).toArray⟩
theorem bitS_size (b : Bool) : (bitS b).size = 1 := rfl
theorem bitsOf_size (f : Nat → Bool) (n : Nat) : (bitsOf f n).size = n := by
  show ((List.range n).map fun i => bit (f i)).toArray.size = n
  simp
theorem bitsOf_succ (f : Nat → Bool) (n : Nat) : bitsOf f (n + 1) = bitsOf f n ++ bitS (f n) := by
  unfold bitsOf bitS
  have h := ByteArray.mk_append_mk ((List.range n).map fun i => bit (f i)) [bit (f n)]
  rw [show (#[bit (f n)] : Array UInt8) = [bit (f n)].toArray from rfl, h]
  congr 2
  rw [List.range_succ]
  simp
theorem bitsOf_zero (f : Nat → Bool) : bitsOf f 0 = ByteArray.empty := rfl
/-- The text of the bits of n rows of n. -/
def gridOf (r : Nat → Nat → Bool) (n : Nat) : ByteArray := bitsOf (fun k => r (k / n) (k % n)) (n * n)
theorem l1Bit_any (b : Bool) (w : World) : Calls Tryz.prog 71 #[.bool b] w fun e w' => e = .returned (.string (bitS b)) ∧ w = w' := by
  cases b
  · go_enter Tryz.func71, Tryz.ntmps71
    go_wp2
    go_ret
    exact ⟨rfl, rfl⟩
  · go_enter Tryz.func71, Tryz.ntmps71
    go_wp2
    go_ret
    exact ⟨rfl, rfl⟩
end Go.Proofs.YthmhjihppbeodaaGreatDoor
namespace Go.Proofs.YthmhjihppbeodaaGreatDoor
open Go.RowKit
/-- The value of a structure. -/
def strV (n : Int) (S R : ByteArray) : Value := .agg #[.int .i64 n, .string S, .string R]
/-- A structure variable in block b. -/
def SBlk (w : World) (b : Nat) (n : Int) (S R : ByteArray) : Prop := w.heap[b]? = some (.cells #[.int .i64 n, .string S, .string R] 24 (0, 0))
theorem SBlk.cells {w : World} {b : Nat} {n : Int} {S R : ByteArray} (h : SBlk w b n S R) :
    w.cell? ⟨b, 0, none⟩ = some (.int .i64 n) ∧ w.cell? ⟨b, 1, none⟩ = some (.string S) ∧ w.cell? ⟨b, 2, none⟩ = some (.string R) ∧ w.frozen? ⟨b, 0, none⟩ = false ∧ w.frozen? ⟨b, 1, none⟩ = false ∧ w.frozen? ⟨b, 2, none⟩ = false ∧ b < w.heap.size := by
  unfold SBlk at h
  have hb : b < w.heap.size := by
    rcases Nat.lt_or_ge b w.heap.size with h' | h'
    · exact h'
    · simp [Array.getElem?_eq_none h'] at h
  refine ⟨?_, ?_, ?_, ?_, ?_, ?_, hb⟩ <;> simp [World.cell?, World.frozen?, h]
theorem SBlk.new (w : World) (n : Int) (S R : ByteArray) : SBlk (w.alloc (.cells #[.int .i64 n, .string S, .string R] 24)) w.heap.size n S R := heap_alloc_new w _
theorem SBlk.below {w w' : World} {b B : Nat} {n : Int} {S R : ByteArray} (h : SBlk w b n S R) (hb : Below B w w') (hB : b < B) : SBlk w' b n S R := (hb.block b hB).trans h
theorem SBlk.set1 {w : World} {b : Nat} {n : Int} {S R S' : ByteArray} (h : SBlk w b n S R) : SBlk (w.setCell ⟨b, 1, none⟩ (.string S')) b n S' R := by
  unfold SBlk at h ⊢
  simp [World.setCell, Array.getElem?_modify, h]
theorem SBlk.set2 {w : World} {b : Nat} {n : Int} {S R R' : ByteArray} (h : SBlk w b n S R) : SBlk (w.setCell ⟨b, 2, none⟩ (.string R')) b n S R' := by
  unfold SBlk at h ⊢
  simp [World.setCell, Array.getElem?_modify, h]
theorem SBlk.far {w : World} {b : Nat} {n : Int} {S R : ByteArray} (h : SBlk w b n S R) {p : Addr} (hp : b ≠ p.block) (u : Value) : SBlk (w.setCell p u) b n S R := (Below.heap_setCell w p u b hp).trans h
theorem SBlk.drew {w : World} {b : Nat} {n : Int} {S R : ByteArray} (h : SBlk w b n S R) : SBlk w.drew b n S R := h
theorem SBlk.set3 {w : World} {b : Nat} {n n' : Int} {S R S' R' : ByteArray} (h : SBlk w b n S R) : SBlk (((w.setCell ⟨b, 0, none⟩ (.int .i64 n')).setCell ⟨b, 1, none⟩ (.string S')).setCell ⟨b, 2, none⟩ (.string R')) b n' S' R' := by
  unfold SBlk at h ⊢
  simp [World.setCell, Array.getElem?_modify, h]
theorem strInfo : (Tryz.prog.info? 24).map (·.size) = some 3 := by kernel_rfl
/-- A result that is a structure in a variable. -/
theorem results_str {fn : Func} {p : Tmp} (h : fn.results = #[.cell p 24]) {tmps : Array Value} {w : World} {b : Nat} {n : Int} {S R : ByteArray} (hp : tmps.getD p undef = .pointer (some ⟨b, 0, none⟩)) (hb : SBlk w b n S R) :
    (results fn tmps).run Tryz.prog w = .ok (strV n S R) w :=
  results_cell_row h tmps w b 24 #[.int .i64 n, .string S, .string R] (0, 0) _ hp hb Tryz.underlying24 rfl strInfo
/-- Two results: a structure in a variable, and a truth. -/
theorem results_str2 {fn : Func} {p u : Tmp} (h : fn.results = #[.cell p 24, .tmp u]) {tmps : Array Value} {w : World} {b : Nat} {n : Int} {S R : ByteArray} {v : Value} (hp : tmps.getD p undef = .pointer (some ⟨b, 0, none⟩)) (hb : SBlk w b n S R) (hu : tmps.getD u undef = v) :
    (results fn tmps).run Tryz.prog w = .ok (.tuple #[strV n S R, v]) w := by
  rw [results_cell_tmp h, hp, hu]
  have hl := run_loadVar_row (P := Tryz.prog) w b 24 24 #[.int .i64 n, .string S, .string R] (0, 0) _ hb Tryz.underlying24 rfl strInfo
  simp [asAddr, Result.andThen, hl, strV]
theorem grid_at {r : Nat → Nat → Bool} {n x y : Nat} (hy : y < n) : r ((x * n + y) / n) ((x * n + y) % n) = r x y := by
  have h0 : 0 < n := by omega
  have h1 : (x * n + y) / n = x := by
    rw [Nat.mul_comm, Nat.mul_add_div h0, Nat.div_eq_of_lt hy]; rfl
  have h2 : (x * n + y) % n = y := by
    rw [Nat.mul_comm, Nat.mul_add_mod, Nat.mod_eq_of_lt hy]
  rw [h1, h2]
end Go.Proofs.YthmhjihppbeodaaGreatDoor
namespace Go.Proofs.YthmhjihppbeodaaGreatDoor
open Go.RowKit
set_option linter.unusedVariables false
/-- Whether a place of a text holds a 1. -/
def oneAt (s : ByteArray) (k : Nat) : Bool := s.data.toList.getD k 0 == 49
theorem oneAt_at (s : ByteArray) (k : Nat) (h : k < s.size) : ((s[k].toNat : Int) == 49) = oneAt s k := by
  have e : s.data.toList.getD k 0 = s[k] := by
    have hx : k < s.data.toList.length := by simpa using h
    rw [List.getD_eq_getElem?_getD, List.getElem?_eq_getElem hx]
    rfl
  unfold oneAt
  rw [e]
  generalize s[k] = c
  rw [Bool.eq_iff_iff, beq_iff_eq, beq_iff_eq]
  constructor
  · intro h
    apply UInt8.toNat_inj.1
    have : (49 : UInt8).toNat = 49 := rfl
    omega
  · intro h
    rw [h]; rfl
/-- The world after a structure was boxed. -/
def boxS (w : World) (n : Int) (S R : ByteArray) : World := w.alloc (.cells #[.int .i64 n, .string S, .string R] 24)
theorem boxS_below (w : World) (n : Int) (S R : ByteArray) : Below w.heap.size w (boxS w n S R) := (Below.refl _ _).alloc (Nat.le_refl _) _
theorem boxS_SBlk (w : World) (n : Int) (S R : ByteArray) : SBlk (boxS w n S R) w.heap.size n S R := SBlk.new w n S R
theorem boxS_size (w : World) (n : Int) (S R : ByteArray) : (boxS w n S R).heap.size = w.heap.size + 1 := by simp [boxS]
/-- Whether an element is related. -/
def relAt (n : Nat) (R : ByteArray) (x y : Nat) : Bool := oneAt R (x * n + y)
theorem inSet_any (n : Int) (S R : ByteArray) (x : Nat) (w : World) (hx : x < S.size) (hS : S.size ≤ 9223372036854775807) :
    Calls Tryz.prog 78 #[strV n S R, .int .i64 (x : Int)] w fun e w' => e = .returned (.bool (oneAt S x)) ∧ w' = boxS w n S R := by
  unfold strV
  have e1 := oneAt_at S x hx
  generalize oneAt S x = b at *
  go_enter Tryz.func78, Tryz.ntmps78
  go_wp2_with fail
  go_ret
  exact ⟨rfl, rfl⟩
theorem l1Set_any (n : Int) (S R : ByteArray) (x : Nat) (w : World) (hx : x < S.size) (hS : S.size ≤ 9223372036854775807) :
    Calls Tryz.prog 72 #[strV n S R, .int .i64 (x : Int)] w fun e w' => e = .returned (.bool (oneAt S x)) ∧ w' = boxS w n S R := by
  unfold strV
  have e1 := oneAt_at S x hx
  generalize oneAt S x = b at *
  go_enter Tryz.func72, Tryz.ntmps72
  go_wp2_with fail
  go_ret
  exact ⟨rfl, rfl⟩
theorem rel_place {n x y : Nat} {R : ByteArray} (hx : x < n) (hy : y < n) (hn : n ≤ 8) (hR : R.size = n * n) :
    ∃ p : Nat, p = x * n ∧ p + y < R.size ∧ p ≤ 56 ∧ IntKind.i64.wrap ((x : Int) * (n : Int)) = (p : Int) := by
  have h1 : x * n ≤ 7 * 8 := Nat.mul_le_mul (by omega) hn
  refine ⟨x * n, rfl, ?_, by omega, ?_⟩
  · rw [hR]
    have : x * n + y < x * n + n := by omega
    have h2 : x * n + n ≤ n * n := by
      rw [← Nat.succ_mul]
      exact Nat.mul_le_mul_right _ hx
    omega
  · rw [← Int.natCast_mul]
    exact IntWalk.i64_in _ (by omega)
theorem inRel_any (n : Nat) (S R : ByteArray) (x y : Nat) (w : World) (hx : x < n) (hy : y < n) (hn : n ≤ 8) (hR : R.size = n * n) :
    Calls Tryz.prog 79 #[strV n S R, .int .i64 (x : Int), .int .i64 (y : Int)] w fun e w' => e = .returned (.bool (relAt n R x y)) ∧ w' = boxS w n S R := by
  unfold strV relAt
  obtain ⟨p, hp, hpy, hp56, hw⟩ := rel_place hx hy hn hR
  rw [← hp]
  clear hp
  have hw2 : IntKind.i64.wrap ((p : Int) + (y : Int)) = ((p + y : Nat) : Int) := IntWalk.i64_in _ (by omega)
  generalize p + y = q at *
  have e1 := oneAt_at R q hpy
  generalize oneAt R q = b at *
  have hR64 : R.size ≤ 64 := by rw [hR]; exact Nat.mul_le_mul hn hn
  clear hR
  go_enter Tryz.func79, Tryz.ntmps79
  go_wp2_with fail
  go_ret
  exact ⟨rfl, rfl⟩
theorem l1Rel_any (n : Nat) (S R : ByteArray) (x y : Nat) (w : World) (hx : x < n) (hy : y < n) (hn : n ≤ 8) (hR : R.size = n * n) :
    Calls Tryz.prog 73 #[strV n S R, .int .i64 (x : Int), .int .i64 (y : Int)] w fun e w' => e = .returned (.bool (relAt n R x y)) ∧ w' = boxS w n S R := by
  unfold strV relAt
  obtain ⟨p, hp, hpy, hp56, hw⟩ := rel_place hx hy hn hR
  rw [← hp]
  clear hp
  have hw2 : IntKind.i64.wrap ((p : Int) + (y : Int)) = ((p + y : Nat) : Int) := IntWalk.i64_in _ (by omega)
  generalize p + y = q at *
  have e1 := oneAt_at R q hpy
  generalize oneAt R q = b at *
  have hR64 : R.size ≤ 64 := by rw [hR]; exact Nat.mul_le_mul hn hn
  clear hR
  go_enter Tryz.func73, Tryz.ntmps73
  go_wp2_with fail
  go_ret
  exact ⟨rfl, rfl⟩
end Go.Proofs.YthmhjihppbeodaaGreatDoor

/- Contracts of the program's functions and what they compute: part 10. Conditions: those that each theorem states. -/
import Derived.Test.YtdonjgjkhndfcaaGreatDoorP52n9
import Derived.Test.YtdonjgjkhndfcaaGreatDoorP52n6
import Derived.Test.YtdonjgjkhndfcaaGreatDoorP52n1
import Derived.Test.YtdonjgjkhndfcaaGreatDoorP52n5
import Derived.Test.YtdonjgjkhndfcaaGreatDoorP52n8
import Derived.Outline
namespace Go.Proofs.YtdonjgjkhndfcaaGreatDoor
open Go.RowKit
set_option linter.unusedVariables false
theorem fmtB_one (z : Int) : fmtB [z] = itoS z := by
  unfold fmtB itoS
  rw [List.map_cons, List.map_nil, Lib.join_one]
theorem fmtB_size (zs : List Int) (h : Fits zs) : (fmtB zs).size ≤ 22 * zs.length := by
  show (Lib.join (zs.map Lib.itoa) [32]).toArray.size ≤ _
  rw [List.size_toArray]
  exact join_size zs h
/-- What FormatNumbers returns. -/
def fmtRes (zs : List Int) : ByteArray := if zs.length = 0 then ⟨#[45]⟩ else fmtB zs
end Go.Proofs.YtdonjgjkhndfcaaGreatDoor

namespace Go.Proofs.YtdonjgjkhndfcaaGreatDoor
open Go.RowKit
set_option linter.unusedVariables false
/-- The text of natural numbers. -/
def numsB (L : List Nat) : ByteArray := fmtRes (L.map fun n : Nat => (n : Int))
theorem numsB_one (x : Nat) : numsB [x] = itoS (x : Int) := by
  unfold numsB fmtRes
  rw [if_neg (by simp)]
  exact fmtB_one _
theorem numsB_size (L : List Nat) (hb : ∀ x ∈ L, x ≤ 1000000) : (numsB L).size ≤ 22 * L.length + 1 := by
  unfold numsB fmtRes
  split
  · show 1 ≤ _; omega
  · have h := fmtB_size (L.map fun n : Nat => (n : Int)) (by
      intro z hz
      obtain ⟨x, hx, rfl⟩ := List.mem_map.1 hz
      have := hb x hx
      omega)
    rw [List.length_map] at h
    omega
theorem implFmt_nums (v : Value) (L : List Nat) (w : World) (hv : NumsAt w v L) (hl : L.length ≤ 100) (hb : ∀ x ∈ L, x ≤ 1000000) (ht : Tab w) :
    Calls Tryz.prog 11 #[v] w fun e w' => e = .returned (.string (numsB L)) ∧ Below w.heap.size w w' := by
  obtain ⟨a, cap, rfl, l1, l2, l3⟩ := hv.view
  unfold numsB fmtRes
  by_cases h0 : L.length = 0
  · rw [if_pos (by simpa using h0), h0]
    exact implFmt_zero _ _ w
  · obtain ⟨g, o, rfl, hg, hc⟩ := l3 (by omega)
    have hlm : (L.map fun n : Nat => (n : Int)).length = L.length := List.length_map ..
    rw [if_neg (by rw [hlm]; exact h0)]
    have := implFmt_any g o cap (L.map fun n : Nat => (n : Int)) w (by rw [hlm]; exact h0) (by omega) (by
      intro z hz
      obtain ⟨x, hx, rfl⟩ := List.mem_map.1 hz
      have := hb x hx
      omega) ht (by omega) l2 hg (fun j hj => by
      have hj' : j < L.length := by omega
      rw [hc j hj']
      simp [List.getD_eq_getElem?_getD, hj'])
    rw [hlm] at this
    exact this
end Go.Proofs.YtdonjgjkhndfcaaGreatDoor

namespace Go.Proofs.YtdonjgjkhndfcaaGreatDoor
open Go.RowKit
set_option linter.unusedVariables false
set_option maxRecDepth 100000
/-- The left structure laid anew. -/
def DS.left (a : DS) (n : Nat) (S R : ByteArray) : DS := { a with n := (n : Int), S := S, R := R }
end Go.Proofs.YtdonjgjkhndfcaaGreatDoor

namespace Go.Proofs.YtdonjgjkhndfcaaGreatDoor
open Go.RowKit
set_option linter.unusedVariables false
/-- A structure's plain form. -/
def stOf (n : Nat) (S R : ByteArray) : Gs.St := ⟨n, oneAt S, relAt n R⟩
theorem inSet_b (n : Int) (S R : ByteArray) (x : Nat) (w : World) (hx : x < S.size) (hS : S.size ≤ 9223372036854775807) :
    Calls Tryz.prog 26 #[strV n S R, .int .i64 (x : Int)] w fun e w' => e = .returned (.bool (oneAt S x)) ∧ Below w.heap.size w w' :=
  (inSet_any n S R x w hx hS).mono fun _ _ ⟨h1, h2⟩ => ⟨h1, by rw [h2]; exact boxS_below _ _ _ _⟩
theorem inRel_b (n : Nat) (S R : ByteArray) (x y : Nat) (w : World) (hx : x < n) (hy : y < n) (hn : n ≤ 8) (hR : R.size = n * n) :
    Calls Tryz.prog 29 #[strV n S R, .int .i64 (x : Int), .int .i64 (y : Int)] w fun e w' => e = .returned (.bool (relAt n R x y)) ∧ Below w.heap.size w w' :=
  (inRel_any n S R x y w hx hy hn hR).mono fun _ _ ⟨h1, h2⟩ => ⟨h1, by rw [h2]; exact boxS_below _ _ _ _⟩
/-- Two structures in the blocks B and B + 1. -/
structure Two (w wr : World) (n : Nat) (S R : ByteArray) (m : Nat) (S2 R2 : ByteArray) : Prop where
  a : SBlk wr w.heap.size n S R
  b : SBlk wr (w.heap.size + 1) m S2 R2
  old : Below w.heap.size w wr
theorem Two.below {w wr w' : World} {n m : Nat} {S R S2 R2 : ByteArray} (h : Two w wr n S R m S2 R2) (hb : Below wr.heap.size wr w') : Two w w' n S R m S2 R2 := by
  have h1 := h.b.cells.2.2.2.2.2.2
  exact ⟨h.a.below hb (by omega), h.b.below hb h1, h.old.trans (hb.mono (by omega))⟩
theorem Two.new (w : World) (n : Nat) (S R : ByteArray) (m : Nat) (S2 R2 : ByteArray) : Two w (boxS (boxS w n S R) m S2 R2) n S R m S2 R2 := by
  refine ⟨(boxS_SBlk w n S R).below (boxS_below (boxS w n S R) m S2 R2) (by rw [boxS_size]; omega), ?_, (boxS_below w n S R).trans ((boxS_below _ _ _ _).mono (by rw [boxS_size]; omega))⟩
  have h := boxS_SBlk (boxS w n S R) m S2 R2
  rw [boxS_size] at h
  exact h
end Go.Proofs.YtdonjgjkhndfcaaGreatDoor

namespace Go.Proofs.YtdonjgjkhndfcaaGreatDoor.Gs
set_option linter.unusedVariables false
/-- Whether an element behind an order is related as the next element of another structure. -/
def fitsI (a b : St) (o : List Nat) (x : Nat) : Bool :=
  (a.s x == b.s o.length) && (a.r x x == b.r o.length o.length) && (List.range o.length).all fun k => (a.r x (o.getD k 0) == b.r o.length k) && (a.r (o.getD k 0) x == b.r k o.length)
theorem fitsI_iff {a b : St} {o : List Nat} {x : Nat} : fitsI a b o x = true ↔ a.s x = b.s o.length ∧ a.r x x = b.r o.length o.length ∧ ∀ k, k < o.length → a.r x (o.getD k 0) = b.r o.length k ∧ a.r (o.getD k 0) x = b.r k o.length := by
  unfold fitsI
  simp only [Bool.and_eq_true, beq_iff_eq, List.all_eq_true, List.mem_range, and_assoc]
/-- All orders that begin with some elements, where so many are left. -/
def shapesF (a b : St) : Nat → List Nat → List (List Nat)
  | 0, o => [o]
  | k + 1, o => (List.range a.n).flatMap fun x => if o.contains x || !fitsI a b o x then [] else shapesF a b k (o ++ [x])
/-- Some elements of a, in an order in which they are as the first elements of b. -/
structure Turns (a b : St) (o : List Nat) : Prop where
  nodup : o.Nodup
  lt : ∀ x ∈ o, x < a.n
  s : ∀ i, i < o.length → a.s (o.getD i 0) = b.s i
  r : ∀ i j, i < o.length → j < o.length → a.r (o.getD i 0) (o.getD j 0) = b.r i j
theorem Turns.nil (a b : St) : Turns a b [] := ⟨List.nodup_nil, by simp, by simp, by simp⟩
theorem gd_lt {o : List Nat} {x i : Nat} (h : i < o.length) : (o ++ [x]).getD i 0 = o.getD i 0 := by simp [h, List.getElem?_append_left h]
theorem gd_eq {o : List Nat} {x : Nat} : (o ++ [x]).getD o.length 0 = x := by simp
theorem nodup_snoc {o : List Nat} {x : Nat} : (o ++ [x]).Nodup ↔ o.Nodup ∧ x ∉ o := by
  rw [List.nodup_append]
  constructor
  · rintro ⟨h1, _, h3⟩
    exact ⟨h1, fun hx => h3 x hx x (by simp) rfl⟩
  · rintro ⟨h1, h2⟩
    refine ⟨h1, by simp, fun y hy z hz => ?_⟩
    obtain rfl : z = x := by simpa using hz
    rintro rfl
    exact h2 hy
theorem turns_snoc {a b : St} {o : List Nat} {x : Nat} : Turns a b (o ++ [x]) ↔ Turns a b o ∧ x < a.n ∧ x ∉ o ∧ fitsI a b o x = true := by
  have hl : (o ++ [x]).length = o.length + 1 := by simp
  rw [fitsI_iff]
  constructor
  · intro h
    have hd := nodup_snoc.1 h.nodup
    refine ⟨⟨hd.1, fun y hy => h.lt y (by simp [hy]), fun i hi => ?_, fun i j hi hj => ?_⟩, h.lt x (by simp), hd.2, ?_, ?_, fun k hk => ⟨?_, ?_⟩⟩
    · have := h.s i (by omega); rwa [gd_lt hi] at this
    · have := h.r i j (by omega) (by omega); rwa [gd_lt hi, gd_lt hj] at this
    · have := h.s o.length (by omega); rwa [gd_eq] at this
    · have := h.r o.length o.length (by omega) (by omega); rwa [gd_eq] at this
    · have := h.r o.length k (by omega) (by omega); rwa [gd_eq, gd_lt hk] at this
    · have := h.r k o.length (by omega) (by omega); rwa [gd_eq, gd_lt hk] at this
  · rintro ⟨h, hx, hm, f1, f2, f3⟩
    refine ⟨nodup_snoc.2 ⟨h.nodup, hm⟩, fun y hy => ?_, fun i hi => ?_, fun i j hi hj => ?_⟩
    · rcases List.mem_append.1 hy with hy | hy
      · exact h.lt y hy
      · obtain rfl : y = x := by simpa using hy
        exact hx
    · rcases Nat.lt_or_ge i o.length with h1 | h1
      · rw [gd_lt h1]; exact h.s i h1
      · obtain rfl : i = o.length := by omega
        rw [gd_eq]; exact f1
    · rcases Nat.lt_or_ge i o.length with h1 | h1
      · rcases Nat.lt_or_ge j o.length with h2 | h2
        · rw [gd_lt h1, gd_lt h2]; exact h.r i j h1 h2
        · obtain rfl : j = o.length := by omega
          rw [gd_lt h1, gd_eq]; exact (f3 i h1).2
      · obtain rfl : i = o.length := by omega
        rcases Nat.lt_or_ge j o.length with h2 | h2
        · rw [gd_eq, gd_lt h2]; exact (f3 j h2).1
        · obtain rfl : j = o.length := by omega
          rw [gd_eq]; exact f2
theorem Turns.take {a b : St} {o : List Nat} (h : Turns a b o) (i : Nat) : Turns a b (o.take i) := by
  have hl : (o.take i).length = min i o.length := List.length_take
  have hg : ∀ k, k < (o.take i).length → (o.take i).getD k 0 = o.getD k 0 := fun k hk => by simp; rw [List.getElem?_take_of_lt (by omega)]
  refine ⟨h.nodup.sublist (List.take_sublist _ _), fun x hx => h.lt x (List.mem_of_mem_take hx), fun k hk => ?_, fun k j hk hj => ?_⟩
  · rw [hg k hk]; exact h.s k (by omega)
  · rw [hg k hk, hg j hj]; exact h.r k j (by omega) (by omega)
theorem shapesF_mem {a b : St} : ∀ (k : Nat) {o p : List Nat}, Turns a b o → (p ∈ shapesF a b k o ↔ Turns a b p ∧ p.length = o.length + k ∧ p.take o.length = o)
  | 0, o, p, h => by
    simp only [shapesF, List.mem_singleton]
    constructor
    · rintro rfl; exact ⟨h, by simp, by simp⟩
    · rintro ⟨_, h2, h3⟩
      rw [← h3, List.take_of_length_le (by omega)]
  | k + 1, o, p, h => by
    simp only [shapesF, List.mem_flatMap, List.mem_range]
    constructor
    · rintro ⟨x, hx, hp⟩
      by_cases hc : (o.contains x || !fitsI a b o x) = true
      · rw [if_pos hc] at hp; cases hp
      · rw [if_neg hc] at hp
        simp only [Bool.or_eq_true, not_or, List.contains_iff_mem, Bool.not_eq_true', Bool.not_eq_false] at hc
        have h1 : Turns a b (o ++ [x]) := turns_snoc.2 ⟨h, hx, hc.1, hc.2⟩
        obtain ⟨q1, q2, q3⟩ := (shapesF_mem k h1).1 hp
        rw [List.length_append, List.length_singleton] at q2 q3
        refine ⟨q1, by omega, ?_⟩
        have := congrArg (List.take o.length) q3
        rw [List.take_take, Nat.min_eq_left (by omega), List.take_left] at this
        exact this
    · rintro ⟨h1, h2, h3⟩
      have hlt : o.length < p.length := by omega
      have hs : p.take (o.length + 1) = o ++ [p[o.length]] := by rw [List.take_succ_eq_append_getElem hlt, h3]
      have ht := h1.take (o.length + 1)
      rw [hs] at ht
      have hq := turns_snoc.1 ht
      refine ⟨p[o.length], hq.2.1, ?_⟩
      rw [if_neg (by simp only [Bool.or_eq_true, not_or, List.contains_iff_mem, Bool.not_eq_true', Bool.not_eq_false]; exact ⟨hq.2.2.1, hq.2.2.2⟩)]
      refine (shapesF_mem k ht).2 ⟨h1, by simp; omega, ?_⟩
      rw [List.length_append, List.length_singleton]; exact hs
/-- All orders that turn a into b, which has as many elements. -/
def shapes (a b : St) : List (List Nat) := shapesF a b a.n []
theorem shapes_mem {a b : St} {p : List Nat} : p ∈ shapes a b ↔ Turns a b p ∧ p.length = a.n := by
  unfold shapes
  rw [shapesF_mem a.n (Turns.nil a b)]
  simp
end Go.Proofs.YtdonjgjkhndfcaaGreatDoor.Gs

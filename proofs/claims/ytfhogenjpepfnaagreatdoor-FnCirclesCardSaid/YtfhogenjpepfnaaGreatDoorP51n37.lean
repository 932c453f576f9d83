/- Contracts of the program's functions and what they compute: part 37. Conditions: those that each theorem states. -/
import Derived.Test.YtfhogenjpepfnaaGreatDoorP51n33
import Derived.Test.YtfhogenjpepfnaaGreatDoorP51n36
import Derived.Test.YtfhogenjpepfnaaGreatDoorP51n23
namespace Go.Proofs.YtfhogenjpepfnaaGreatDoor
open Go.RowKit
set_option linter.unusedVariables false
set_option maxRecDepth 100000
def zS6 : ByteArray := ⟨#[48, 48, 48, 48, 48, 48]⟩
def cR6 : ByteArray := ⟨#[48, 49, 48, 48, 48, 49, 49, 48, 49, 48, 48, 48, 48, 49, 48, 49, 48, 48, 48, 48, 49, 48, 49, 48, 48, 48, 48, 49, 48, 49, 49, 48, 48, 48, 49, 48]⟩
def zS7 : ByteArray := ⟨#[48, 48, 48, 48, 48, 48, 48]⟩
def cR7 : ByteArray := ⟨#[48, 49, 48, 48, 48, 48, 49, 49, 48, 49, 48, 48, 48, 48, 48, 49, 48, 49, 48, 48, 48, 48, 48, 49, 48, 49, 48, 48, 48, 48, 48, 49, 48, 49, 48, 48, 48, 48, 48, 49, 48, 49, 49, 48, 48, 48, 48, 49, 48]⟩
def zS8 : ByteArray := ⟨#[48, 48, 48, 48, 48, 48, 48, 48]⟩
def cR8 : ByteArray := ⟨#[48, 49, 48, 48, 48, 48, 48, 49, 49, 48, 49, 48, 48, 48, 48, 48, 48, 49, 48, 49, 48, 48, 48, 48, 48, 48, 49, 48, 49, 48, 48, 48, 48, 48, 48, 49, 48, 49, 48, 48, 48, 48, 48, 48, 49, 48, 49, 48, 48, 48, 48, 48, 48, 49, 48, 49, 49, 48, 48, 48, 48, 48, 49, 48]⟩
def dR33 : ByteArray := ⟨#[48, 49, 49, 48, 48, 48, 49, 48, 49, 48, 48, 48, 49, 49, 48, 48, 48, 48, 48, 48, 48, 48, 49, 49, 48, 48, 48, 49, 48, 49, 48, 48, 48, 49, 49, 48]⟩
def dR34 : ByteArray := ⟨#[48, 49, 49, 48, 48, 48, 48, 49, 48, 49, 48, 48, 48, 48, 49, 49, 48, 48, 48, 48, 48, 48, 48, 48, 48, 49, 48, 49, 48, 48, 48, 49, 48, 49, 48, 48, 48, 48, 48, 49, 48, 49, 48, 48, 48, 49, 48, 49, 48]⟩
def dR35 : ByteArray := ⟨#[48, 49, 49, 48, 48, 48, 48, 48, 49, 48, 49, 48, 48, 48, 48, 48, 49, 49, 48, 48, 48, 48, 48, 48, 48, 48, 48, 48, 49, 48, 48, 49, 48, 48, 48, 49, 48, 49, 48, 48, 48, 48, 48, 48, 49, 48, 49, 48, 48, 48, 48, 48, 48, 49, 48, 49, 48, 48, 48, 49, 48, 48, 49, 48]⟩
def dR43 : ByteArray := ⟨#[48, 49, 48, 49, 48, 48, 48, 49, 48, 49, 48, 48, 48, 48, 48, 49, 48, 49, 48, 48, 48, 49, 48, 49, 48, 48, 48, 48, 48, 48, 48, 48, 48, 49, 49, 48, 48, 48, 48, 49, 48, 49, 48, 48, 48, 48, 49, 49, 48]⟩
def dR44 : ByteArray := ⟨#[48, 49, 48, 49, 48, 48, 48, 48, 49, 48, 49, 48, 48, 48, 48, 48, 48, 49, 48, 49, 48, 48, 48, 48, 49, 48, 49, 48, 48, 48, 48, 48, 48, 48, 48, 48, 48, 49, 48, 49, 48, 48, 48, 48, 49, 48, 49, 48, 48, 48, 48, 48, 48, 49, 48, 49, 48, 48, 48, 48, 49, 48, 49, 48]⟩
def dR53 : ByteArray := ⟨#[48, 49, 48, 48, 49, 48, 48, 48, 49, 48, 49, 48, 48, 48, 48, 48, 48, 49, 48, 49, 48, 48, 48, 48, 48, 48, 49, 48, 49, 48, 48, 48, 49, 48, 48, 49, 48, 48, 48, 48, 48, 48, 48, 48, 48, 48, 49, 49, 48, 48, 48, 48, 48, 49, 48, 49, 48, 48, 48, 48, 48, 49, 49, 48]⟩
/-- What the law's walk wants of a pair. -/
structure CirV (n m : Nat) (N : Nat) (Z D C : ByteArray) : Prop where
  hN : n + m = N
  pos : 1 ≤ N ∧ N ≤ 8
  two : circlesRes n m = .tuple #[strV N Z D, .bool true]
  one : circleV N = strV N Z C
  va : validB N Z D = true
  vb : validB N Z C = true
  shp : (Gs.shapes (stOf N Z D) (stOf N Z C)).isEmpty = true
  bal : ballsTo N Z D Z C 1 N = (decide (3 < n) && decide (3 < m))
  pa : (clsN (piF N D) N).1.getD (N - 1) 0 = 1
  pb : (clsN (piF N C) N).1.getD (N - 1) 0 = 0
  win : Gs.wins 1 (stOf N Z D) [] (stOf N Z C) [] = true
theorem cirV33 : CirV 3 3 6 zS6 dR33 cR6 :=
  ⟨rfl, by decide, by kernel_rfl, by kernel_rfl, by decide +kernel, by decide +kernel, by decide +kernel, by decide +kernel, by decide +kernel, by decide +kernel, by decide +kernel⟩
theorem cirV34 : CirV 3 4 7 zS7 dR34 cR7 :=
  ⟨rfl, by decide, by kernel_rfl, by kernel_rfl, by decide +kernel, by decide +kernel, by decide +kernel, by decide +kernel, by decide +kernel, by decide +kernel, by decide +kernel⟩
theorem cirV35 : CirV 3 5 8 zS8 dR35 cR8 :=
  ⟨rfl, by decide, by kernel_rfl, by kernel_rfl, by decide +kernel, by decide +kernel, by decide +kernel, by decide +kernel, by decide +kernel, by decide +kernel, by decide +kernel⟩
theorem cirV43 : CirV 4 3 7 zS7 dR43 cR7 :=
  ⟨rfl, by decide, by kernel_rfl, by kernel_rfl, by decide +kernel, by decide +kernel, by decide +kernel, by decide +kernel, by decide +kernel, by decide +kernel, by decide +kernel⟩
theorem cirV44 : CirV 4 4 8 zS8 dR44 cR8 :=
  ⟨rfl, by decide, by kernel_rfl, by kernel_rfl, by decide +kernel, by decide +kernel, by decide +kernel, by decide +kernel, by decide +kernel, by decide +kernel, by decide +kernel⟩
theorem cirV53 : CirV 5 3 8 zS8 dR53 cR8 :=
  ⟨rfl, by decide, by kernel_rfl, by kernel_rfl, by decide +kernel, by decide +kernel, by decide +kernel, by decide +kernel, by decide +kernel, by decide +kernel, by decide +kernel⟩
end Go.Proofs.YtfhogenjpepfnaaGreatDoor

namespace Go.Proofs.YtfhogenjpepfnaaGreatDoor
open Go.RowKit
set_option linter.unusedVariables false
set_option maxRecDepth 100000
/-- How many are related to an element in a way. -/
def nbK (a : Gs.St) (x k : Nat) : Nat := ((List.range a.n).filter fun y => decide (y ≠ x) && decide (Col.way a x y = k)).length
/-- All elements are alike: so many in each way. -/
def uniB (a : Gs.St) (p q r s : Nat) : Bool := (List.range a.n).all fun x => decide (Col.first a x = [0]) && decide (nbK a x 0 = p) && decide (nbK a x 1 = q) && decide (nbK a x 2 = r) && decide (nbK a x 3 = s)
theorem uniB_at {a : Gs.St} {p q r s : Nat} (h : uniB a p q r s = true) {x : Nat} (hx : x < a.n) : Col.first a x = [0] ∧ nbK a x 0 = p ∧ nbK a x 1 = q ∧ nbK a x 2 = r ∧ nbK a x 3 = s := by
  unfold uniB at h
  rw [List.all_eq_true] at h
  have := h x (List.mem_range.2 hx)
  simp only [Bool.and_eq_true, decide_eq_true_eq] at this
  exact ⟨this.1.1.1.1, this.1.1.1.2, this.1.1.2, this.1.2, this.2⟩
theorem getD_rep0 (n j : Nat) : (List.replicate n 0).getD j 0 = 0 := by
  rw [List.getD_eq_getElem?_getD, List.getElem?_replicate]
  split <;> rfl
theorem ways_rep (a : Gs.St) (n x k : Nat) : Col.ways a (List.replicate n 0) x k a.n = List.replicate (nbK a x k) 0 := by
  unfold Col.ways nbK
  rw [List.eq_replicate_iff]
  refine ⟨List.length_map _, fun y hy => ?_⟩
  obtain ⟨z, _, rfl⟩ := List.mem_map.1 hy
  exact getD_rep0 n z
/-- The description of an element where all have one colour. -/
def dscU (p q r s : Nat) : List Nat :=
  [0] ++ (p :: Col.sortL (List.replicate p 0)) ++ (q :: Col.sortL (List.replicate q 0)) ++ (r :: Col.sortL (List.replicate r 0)) ++ (s :: Col.sortL (List.replicate s 0))
theorem descr_uni {a : Gs.St} {p q r s : Nat} (h : uniB a p q r s = true) (n : Nat) {x : Nat} (hx : x < a.n) : Col.descr a (List.replicate n 0) x = dscU p q r s := by
  obtain ⟨_, h0, h1, h2, h3⟩ := uniB_at h hx
  unfold Col.descr dscU
  rw [ways_rep, ways_rep, ways_rep, ways_rep, h0, h1, h2, h3, getD_rep0]
  simp only [List.length_replicate]
theorem cols_rep (n : Nat) (d : List Nat) : Col.cols (List.replicate n d) = List.replicate n 0 := by
  unfold Col.cols
  rw [List.eq_replicate_iff]
  refine ⟨by simp, fun y hy => ?_⟩
  obtain ⟨z, hz, rfl⟩ := List.mem_map.1 hy
  rw [(List.mem_replicate.1 hz).2]
  unfold Col.rk
  rw [List.countP_eq_zero]
  intro e he
  rw [Col.mem_srt] at he
  rw [(List.mem_replicate.1 he).2, Col.cmp_self]
  decide
theorem map_rep {α : Type} (n : Nat) (f : Nat → α) (d : α) (h : ∀ x, x < n → f x = d) : (List.range n).map f = List.replicate n d := by
  rw [List.eq_replicate_iff]
  refine ⟨by simp, fun y hy => ?_⟩
  obtain ⟨z, hz, rfl⟩ := List.mem_map.1 hy
  exact h z (List.mem_range.1 hz)
theorem after_uni {a b : Gs.St} {p q r s : Nat} (ha : uniB a p q r s = true) (hb : uniB b p q r s = true) : ∀ t, Col.after [a, b] t = List.replicate (a.n + b.n) 0
  | 0 => by
    have e : Col.firsts [a, b] = List.replicate (a.n + b.n) [0] := by
      simp only [Col.firsts, List.append_nil]
      rw [map_rep a.n _ [0] (fun x hx => (uniB_at ha hx).1), map_rep b.n _ [0] (fun x hx => (uniB_at hb hx).1), List.replicate_append_replicate]
    rw [Col.after, e, cols_rep]
  | t + 1 => by
    have e : Col.descrs [a, b] (List.replicate (a.n + b.n) 0) = List.replicate (a.n + b.n) (dscU p q r s) := by
      simp only [Col.descrs, List.append_nil, List.take_replicate, List.drop_replicate]
      rw [map_rep a.n _ _ (fun x hx => descr_uni ha _ hx), map_rep b.n _ _ (fun x hx => descr_uni hb _ hx), List.replicate_append_replicate]
    rw [Col.after, after_uni ha hb t, e, cols_rep]
theorem evTo_uni {a b : Gs.St} {p q r s : Nat} (ha : uniB a p q r s = true) (hb : uniB b p q r s = true) (hn : a.n = b.n) : ∀ t, evTo a b t = true
  | 0 => rfl
  | t + 1 => by
    unfold evTo
    rw [evTo_uni ha hb hn t, Bool.true_and]
    unfold evB
    rw [after_uni ha hb t, List.take_replicate, List.drop_replicate, hn]
    simp
theorem scB_uni {a b : Gs.St} {p q r s : Nat} (ha : uniB a p q r s = true) (hb : uniB b p q r s = true) (hn : a.n = b.n) : scB a b = true := evTo_uni ha hb hn _
theorem cirC33 : scB (stOf 6 zS6 dR33) (stOf 6 zS6 cR6) = true := scB_uni (p := 3) (q := 0) (r := 0) (s := 2) (by decide +kernel) (by decide +kernel) rfl
theorem cirC34 : scB (stOf 7 zS7 dR34) (stOf 7 zS7 cR7) = true := scB_uni (p := 4) (q := 0) (r := 0) (s := 2) (by decide +kernel) (by decide +kernel) rfl
theorem cirC35 : scB (stOf 8 zS8 dR35) (stOf 8 zS8 cR8) = true := scB_uni (p := 5) (q := 0) (r := 0) (s := 2) (by decide +kernel) (by decide +kernel) rfl
theorem cirC43 : scB (stOf 7 zS7 dR43) (stOf 7 zS7 cR7) = true := scB_uni (p := 4) (q := 0) (r := 0) (s := 2) (by decide +kernel) (by decide +kernel) rfl
theorem cirC44 : scB (stOf 8 zS8 dR44) (stOf 8 zS8 cR8) = true := scB_uni (p := 5) (q := 0) (r := 0) (s := 2) (by decide +kernel) (by decide +kernel) rfl
theorem cirC53 : scB (stOf 8 zS8 dR53) (stOf 8 zS8 cR8) = true := scB_uni (p := 5) (q := 0) (r := 0) (s := 2) (by decide +kernel) (by decide +kernel) rfl
/-- What the pairs that give two circles are. -/
theorem cir_ok (n m : Nat) (hn : n = 3 ∨ n = 4 ∨ n = 5) (hm : m = 3 ∨ m = 4 ∨ m = 5) (h8 : n + m ≤ 8) : ∃ (N : Nat) (Z D C : ByteArray), CirV n m N Z D C ∧ scB (stOf N Z D) (stOf N Z C) = true := by
  rcases hn with rfl | rfl | rfl <;> rcases hm with rfl | rfl | rfl
  · exact ⟨_, _, _, _, cirV33, cirC33⟩
  · exact ⟨_, _, _, _, cirV34, cirC34⟩
  · exact ⟨_, _, _, _, cirV35, cirC35⟩
  · exact ⟨_, _, _, _, cirV43, cirC43⟩
  · exact ⟨_, _, _, _, cirV44, cirC44⟩
  · omega
  · exact ⟨_, _, _, _, cirV53, cirC53⟩
  · omega
  · omega
end Go.Proofs.YtfhogenjpepfnaaGreatDoor

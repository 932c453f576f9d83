/- A turn of a game of pebbles, plainly. No condition. -/
import Derived.Test.YtnhlhjehocngcaaDoorPebAw
namespace Go.Proofs.YtnhlhjehocngcaaDoor
open Go.RowKit
set_option linter.unusedVariables false
set_option maxRecDepth 100000

/-- The ways with another pair at a place are lost. -/
def clrN (N : List Bool) (s step : Nat) : Nat → List Bool
  | 0 => N
  | k + 1 => (clrN N s step k).set (s + step * k) false
theorem clrN_len (N : List Bool) (s step : Nat) : ∀ k, (clrN N s step k).length = N.length
  | 0 => rfl
  | k + 1 => by unfold clrN; rw [List.length_set, clrN_len N s step k]
/-- Whether a way is left as it is. -/
def keepB (n m : Nat) (W : List Bool) (step s : Nat) : Bool := decide (s / step % (n * m + 1) ≠ 0) || ansB n m W s step
def trS (n m : Nat) (W : List Bool) (step : Nat) (N : List Bool) : Nat → List Bool
  | 0 => N
  | s + 1 => if keepB n m W step s then trS n m W step N s else clrN (trS n m W step N s) s step (n * m + 1)
theorem trS_len (n m : Nat) (W : List Bool) (step : Nat) (N : List Bool) : ∀ s, (trS n m W step N s).length = N.length
  | 0 => rfl
  | s + 1 => by
    unfold trS
    split
    · exact trS_len n m W step N s
    · rw [clrN_len]; exact trS_len n m W step N s
def trI (n m : Nat) (W : List Bool) (F : List Bool) : Nat → List Bool
  | 0 => F
  | i + 1 => trS n m W ((n * m + 1) ^ i) (trI n m W F i) F.length
theorem trI_len (n m : Nat) (W F : List Bool) : ∀ i, (trI n m W F i).length = F.length
  | 0 => rfl
  | i + 1 => by unfold trI; rw [trS_len]; exact trI_len n m W F i
/-- What is won with one turn more. -/
def turnU (n m k : Nat) (F W : List Bool) : List Bool := trI n m W F k
theorem turnU_len (n m k : Nat) (F W : List Bool) : (turnU n m k F W).length = F.length := trI_len n m W F k
/-- A way without a pair at a place: with each pair it is a way. -/
theorem dig0_lt {P k i s q : Nat} (hP : 0 < P) (hi : i < k) (hs : s < P ^ k) (h0 : s / P ^ i % P = 0) (hq : q < P) : s + P ^ i * q < P ^ k := by
  obtain ⟨j, rfl⟩ : ∃ j, k = i + 1 + j := ⟨k - (i + 1), by omega⟩
  have e1 : P ^ (i + 1 + j) = P ^ i * P * P ^ j := by rw [Nat.pow_add, Nat.pow_succ]
  have hpi : 0 < P ^ i := Nat.pow_pos hP
  obtain ⟨a, ha⟩ : ∃ a, s / P ^ i / P = a := ⟨_, rfl⟩
  have h1 : s / P ^ i = P * a := by
    have := Nat.div_add_mod (s / P ^ i) P
    rw [h0, ha, Nat.add_zero] at this
    exact this.symm
  have h2 : s = P ^ i * (P * a) + s % P ^ i := by
    have := Nat.div_add_mod s (P ^ i)
    rw [h1] at this
    exact this.symm
  have h3 : s % P ^ i < P ^ i := Nat.mod_lt _ hpi
  generalize s % P ^ i = r at h2 h3
  have ha2 : a < P ^ j := by
    rw [e1] at hs
    have h4 : P ^ i * P * a ≤ s := by rw [h2, Nat.mul_assoc]; omega
    exact Nat.lt_of_mul_lt_mul_left (Nat.lt_of_le_of_lt h4 hs)
  have h5 : P ^ i * P * (a + 1) ≤ P ^ i * P * P ^ j := Nat.mul_le_mul_left _ ha2
  have h6 : P ^ i * (q + 1) ≤ P ^ i * P := Nat.mul_le_mul_left _ hq
  rw [Nat.mul_add, Nat.mul_one] at h5 h6
  rw [e1]
  have h7 : P ^ i * (P * a) = P ^ i * P * a := by rw [Nat.mul_assoc]
  omega
/-- The game in memory. -/
def PebQ (w : World) (p n : Nat) (S R : ByteArray) (m : Nat) (S2 R2 : ByteArray) (k : Nat) (F W : List Bool) : Prop :=
  ∃ fv wv, PebG w p n S R m S2 R2 k fv wv ∧ BoolsAt w fv F ∧ BoolsAt w wv W ∧ fv.ownBlock ≠ some p ∧ wv.ownBlock ≠ some p
theorem PebQ.below {w w' : World} {p n m k : Nat} {S R S2 R2 : ByteArray} {F W : List Bool} (h : PebQ w p n S R m S2 R2 k F W) (hb : Below w.heap.size w w') : PebQ w' p n S R m S2 R2 k F W := by
  obtain ⟨fv, wv, h1, h2, h3, h4, h5⟩ := h
  exact ⟨fv, wv, h1.below hb, h2.below hb, h3.below hb, h4, h5⟩
/-- What turn keeps. -/
structure Tn (w : World) (p n : Nat) (S R : ByteArray) (m : Nat) (S2 R2 : ByteArray) (k : Nat) (fv wv : Value) (F W : List Bool) (nv : Value) (N : List Bool) (wr : World) : Prop where
  g : PebG wr p n S R m S2 R2 k fv wv
  f : BoolsAt wr fv F
  b : BoolsAt wr wv W
  fs : ∀ j, fv.ownBlock = some j → j < w.heap.size
  ws : ∀ j, wv.ownBlock = some j → j < w.heap.size
  own : OwnL w.heap.size wr nv N
  pl : p < w.heap.size
  old : Below w.heap.size w wr
section
variable {w wr w' : World} {p n m k : Nat} {S R S2 R2 : ByteArray} {fv wv nv nv' : Value} {F W N N' : List Bool}
theorem Tn.below (h : Tn w p n S R m S2 R2 k fv wv F W nv N wr) (hb : Below wr.heap.size wr w') : Tn w p n S R m S2 R2 k fv wv F W nv N w' :=
  ⟨h.g.below hb, h.f.below hb, h.b.below hb, h.fs, h.ws, h.own.below hb, h.pl, h.old.trans (hb.mono h.old.size)⟩
theorem Tn.push (h : Tn w p n S R m S2 R2 k fv wv F W nv N wr) (ho : OwnL w.heap.size w' nv' N') (hg : wr.grownBy w' nv.ownBlock) : Tn w p n S R m S2 R2 k fv wv F W nv' N' w' := by
  have hlt := h.own.lt
  refine ⟨⟨(hg.block p h.g.lt (fun e => by have := (hlt p e.symm).1; have := h.pl; omega)).trans h.g.blk⟩, h.f.kept (fun j hj hl => hg.block j hl (fun e => by have := (hlt j e.symm).1; have := h.fs j hj; omega)) hg.size,
    h.b.kept (fun j hj hl => hg.block j hl (fun e => by have := (hlt j e.symm).1; have := h.ws j hj; omega)) hg.size, h.fs, h.ws, ho, h.pl, h.old.grown hg h.old.size (fun j hj => (hlt j hj).1)⟩
theorem Tn.cell {g cap len : Nat} (h : Tn w p n S R m S2 R2 k fv wv F W (.slice (some ⟨g, 0, none⟩) len cap) N wr) {j : Nat} (hj : j < N.length) : wr.cell? ⟨g, j, none⟩ = some (.bool (N.getD j false)) ∧ wr.frozen? ⟨g, j, none⟩ = false := by
  obtain ⟨g2, c2, e, _, _, _, _, h1, h2⟩ := h.own.cells (by omega)
  injection e with e1
  injection e1 with e1
  injection e1 with e1
  subst e1
  exact ⟨h1 j hj, h2 j⟩
theorem Tn.set {g cap len : Nat} (h : Tn w p n S R m S2 R2 k fv wv F W (.slice (some ⟨g, 0, none⟩) len cap) N wr) (hl : N.length = len) (j : Nat) (b : Bool) :
    Tn w p n S R m S2 R2 k fv wv F W (.slice (some ⟨g, 0, none⟩) len cap) (N.set j b) (wr.setCell ⟨g, j, none⟩ (.bool b)) := by
  have hlt := h.own.lt g rfl
  have hg : wr.grownBy (wr.setCell ⟨g, j, none⟩ (.bool b)) (some g) := ⟨rfl, rfl, rfl, by simp, fun i hi hne => Below.heap_setCell _ _ _ _ (fun e => hne (by rw [e]))⟩
  exact h.push (h.own.set hl j b) hg
end
end Go.Proofs.YtnhlhjehocngcaaDoor

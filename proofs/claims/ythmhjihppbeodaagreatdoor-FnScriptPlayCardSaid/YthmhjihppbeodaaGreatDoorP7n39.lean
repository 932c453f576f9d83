/- Contracts of the program's functions and what they compute: part 39. Conditions: those that each theorem states. -/
import Derived.Test.YthmhjihppbeodaaGreatDoorP7n36
import Derived.Test.YthmhjihppbeodaaGreatDoorP7n37
import Derived.Test.YthmhjihppbeodaaGreatDoorP7n38
import Derived.Deep.RegionHeld3
namespace Go.Proofs.YthmhjihppbeodaaGreatDoor
open Go.RowKit
set_option linter.unusedVariables false
set_option maxRecDepth 100000
/-- The reader, the two results and the first structure. -/
structure Pr (w : World) (b K x : Nat) (n : Int) (S R : ByteArray) (n1 : Int) (S1 R1 : ByteArray) (n2 : Int) (S2 R2 : ByteArray) (wr : World) : Prop where
  rd : RdB wr b K
  r1 : SBlk wr w.heap.size n1 S1 R1
  r2 : SBlk wr (w.heap.size + 1) n2 S2 R2
  a : SBlk wr x n S R
  ne : b < w.heap.size ∧ w.heap.size + 1 < x
  old : w.grownBy wr (some b)
section
variable {w wr w' : World} {b K K' x : Nat} {n n1 n2 m : Int} {S R S1 R1 S2 R2 T U : ByteArray}
theorem SBlk.grown {w w' : World} {b g : Nat} {n : Int} {S R : ByteArray} (h : SBlk w g n S R) (hg : w.grownBy w' (some b)) (hne : g ≠ b) : SBlk w' g n S R :=
  (hg.block g h.cells.2.2.2.2.2.2 (by intro e; injection e with e; exact hne e)).trans h
theorem Pr.pick (h : Pr w b K x n S R n1 S1 R1 n2 S2 R2 wr) (hr : RdB w' b K') (hg : wr.grownBy w' (some b)) : Pr w b K' x n S R n1 S1 R1 n2 S2 R2 w' :=
  ⟨hr, h.r1.grown hg (by have := h.ne; omega), h.r2.grown hg (by have := h.ne; omega), h.a.grown hg (by have := h.ne; omega), h.ne, h.old.trans hg⟩
theorem Pr.below (h : Pr w b K x n S R n1 S1 R1 n2 S2 R2 wr) (hb : Below wr.heap.size wr w') : Pr w b K x n S R n1 S1 R1 n2 S2 R2 w' :=
  h.pick (h.rd.grown (grown_belowS hb)) (grown_belowS hb)
theorem Pr.drew (h : Pr w b K x n S R n1 S1 R1 n2 S2 R2 wr) : Pr w b K x n S R n1 S1 R1 n2 S2 R2 wr.drew := h.below (Below.refl _ _).drew
theorem Pr.mono (h : Pr w b K x n S R n1 S1 R1 n2 S2 R2 wr) (hK : K ≤ K') : Pr w b K' x n S R n1 S1 R1 n2 S2 R2 wr := ⟨h.rd.mono hK, h.r1, h.r2, h.a, h.ne, h.old⟩
theorem Pr.s1 (h : Pr w b K x n S R n1 S1 R1 n2 S2 R2 wr) (m : Int) (T U : ByteArray) : Pr w b K x n S R m T U n2 S2 R2 (((wr.setCell ⟨w.heap.size, 0, none⟩ (.int .i64 m)).setCell ⟨w.heap.size, 1, none⟩ (.string T)).setCell ⟨w.heap.size, 2, none⟩ (.string U)) := by
  have hne := h.ne
  exact ⟨rdB_set (rdB_set (rdB_set h.rd hne.1) hne.1) hne.1, h.r1.set3, ((h.r2.far (by simp) _).far (by simp) _).far (by simp) _, ((h.a.far (by simp; omega) _).far (by simp; omega) _).far (by simp; omega) _, hne, grown_setS (grown_setS (grown_setS h.old (Nat.le_refl _)) (Nat.le_refl _)) (Nat.le_refl _)⟩
theorem Pr.s2 (h : Pr w b K x n S R n1 S1 R1 n2 S2 R2 wr) (m : Int) (T U : ByteArray) : Pr w b K x n S R n1 S1 R1 m T U (((wr.setCell ⟨w.heap.size + 1, 0, none⟩ (.int .i64 m)).setCell ⟨w.heap.size + 1, 1, none⟩ (.string T)).setCell ⟨w.heap.size + 1, 2, none⟩ (.string U)) := by
  have hne := h.ne
  have hl : b < w.heap.size + 1 := by omega
  exact ⟨rdB_set (rdB_set (rdB_set h.rd hl) hl) hl, ((h.r1.far (by simp) _).far (by simp) _).far (by simp) _, h.r2.set3, ((h.a.far (by simp; omega) _).far (by simp; omega) _).far (by simp; omega) _, hne, grown_setS (grown_setS (grown_setS h.old (Nat.le_succ _)) (Nat.le_succ _)) (Nat.le_succ _)⟩
theorem Pr.s5 (h : Pr w b K x n S R n1 S1 R1 n2 S2 R2 wr) {y : Nat} (hy : w.heap.size + 1 < y) (hyx : y ≠ x) (m : Int) (T U : ByteArray) : Pr w b K x n S R n1 S1 R1 n2 S2 R2 (((wr.setCell ⟨y, 0, none⟩ (.int .i64 m)).setCell ⟨y, 1, none⟩ (.string T)).setCell ⟨y, 2, none⟩ (.string U)) := by
  have hne := h.ne
  have hl : b < y := by omega
  have hle : w.heap.size ≤ y := by omega
  exact ⟨rdB_set (rdB_set (rdB_set h.rd hl) hl) hl, ((h.r1.far (by simp; omega) _).far (by simp; omega) _).far (by simp; omega) _, ((h.r2.far (by simp; omega) _).far (by simp; omega) _).far (by simp; omega) _, ((h.a.far (by simp; omega) _).far (by simp; omega) _).far (by simp; omega) _, hne, grown_setS (grown_setS (grown_setS h.old hle) hle) hle⟩
theorem Pr.s51 (h : Pr w b K x n S R n1 S1 R1 n2 S2 R2 wr) {y : Nat} (hy : w.heap.size + 1 < y) (hyx : y ≠ x) (U : ByteArray) : Pr w b K x n S R n1 S1 R1 n2 S2 R2 (wr.setCell ⟨y, 2, none⟩ (.string U)) := by
  have hne := h.ne
  exact ⟨rdB_set h.rd (by omega), h.r1.far (by simp; omega) _, h.r2.far (by simp; omega) _, h.a.far (by simp; omega) _, hne, grown_setS h.old (by omega)⟩
end
/-- Two structures that are drawn. -/
def PairO (b K : Nat) (w : World) (e : Ending) (w' : World) : Prop := ∃ (n m : Nat) (S R T U : ByteArray), 1 ≤ n ∧ n ≤ 5 ∧ 1 ≤ m ∧ m ≤ 5 ∧ S.size = n ∧ R.size = n * n ∧ T.size = m ∧ U.size = m * m ∧ e = .returned (.tuple #[strV n S R, strV m T U]) ∧ RdB w' b K ∧ w.grownBy w' (some b)
theorem results_two {fn : Func} {p q : Tmp} (h : fn.results = #[.cell p 24, .cell q 24]) {tmps : Array Value} {w : World} {b c : Nat} {n m : Int} {S R T U : ByteArray} (hp : tmps.getD p undef = .pointer (some ⟨b, 0, none⟩)) (hb : SBlk w b n S R) (hq : tmps.getD q undef = .pointer (some ⟨c, 0, none⟩)) (hc : SBlk w c m T U) :
    (results fn tmps).run Tryz.prog w = .ok (.tuple #[strV n S R, strV m T U]) w := by
  have hl := run_loadVar_row (P := Tryz.prog) w b 24 24 #[.int .i64 n, .string S, .string R] (0, 0) _ hb Tryz.underlying24 rfl strInfo
  have hl2 := run_loadVar_row (P := Tryz.prog) w c 24 24 #[.int .i64 m, .string T, .string U] (0, 0) _ hc Tryz.underlying24 rfl strInfo
  have hp' : tmps[p]?.getD undef = .pointer (some ⟨b, 0, none⟩) := by simpa using hp
  have hq' : tmps[q]?.getD undef = .pointer (some ⟨c, 0, none⟩) := by simpa using hq
  simp [results, h, hp', hq', asAddr, Sem.run_bind, Result.andThen, hl, hl2, strV]
theorem Pr.fin {w wr : World} {b K K' x : Nat} {n : Int} {S R : ByteArray} {n1 n2 : Nat} {S1 R1 S2 R2 : ByteArray} (h : Pr w b K x n S R (n1 : Int) S1 R1 (n2 : Int) S2 R2 wr) (hK : K ≤ K')
    (hn : 1 ≤ n1 ∧ n1 ≤ 5) (hm : 1 ≤ n2 ∧ n2 ≤ 5) (hS : S1.size = n1) (hR : R1.size = n1 * n1) (hT : S2.size = n2) (hU : R2.size = n2 * n2) :
    PairO b K' w (.returned (.tuple #[strV (n1 : Int) S1 R1, strV (n2 : Int) S2 R2])) wr := ⟨n1, n2, S1, R1, S2, R2, hn.1, hn.2, hm.1, hm.2, hS, hR, hT, hU, rfl, h.rd.mono hK, h.old⟩
end Go.Proofs.YthmhjihppbeodaaGreatDoor

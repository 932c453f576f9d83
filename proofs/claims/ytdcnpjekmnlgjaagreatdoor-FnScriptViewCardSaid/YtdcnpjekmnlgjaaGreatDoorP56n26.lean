/- Contracts of the program's functions and what they compute: part 26. Conditions: those that each theorem states. -/
import Derived.Test.YtdcnpjekmnlgjaaGreatDoorP56n13
import Derived.Test.YtdcnpjekmnlgjaaGreatDoorP56n5
namespace Go.Proofs.YtdcnpjekmnlgjaaGreatDoor
open Go.RowKit
set_option linter.unusedVariables false
set_option maxRecDepth 100000
/-- The formulas of a view. -/
def viewB (f g : ByteArray) : Option (Fm.T × Fm.T) :=
  match readB f, readB g with
  | some φ, some ψ => if Fm.free φ / 2 = 0 ∧ Fm.free ψ / 4 = 0 then some (φ, ψ) else none
  | _, _ => none
theorem viewB_none1 {f g : ByteArray} (h : readB f = none) : viewB f g = none := by unfold viewB; rw [h]
theorem viewB_none2 {f g : ByteArray} (h : readB g = none) : viewB f g = none := by unfold viewB; rw [h]; cases readB f <;> rfl
theorem viewB_some {f g : ByteArray} {φ ψ : Fm.T} (h : readB f = some φ) (h2 : readB g = some ψ) : viewB f g = if Fm.free φ / 2 = 0 ∧ Fm.free ψ / 4 = 0 then some (φ, ψ) else none := by unfold viewB; rw [h, h2]
/-- What viewOf returns. -/
def ViewP (w : World) (res : Option (Fm.T × Fm.T)) (en : Ending) (w' : World) : Prop :=
  Below w.heap.size w w' ∧ ((res = none ∧ en = .returned (.tuple #[.pointer none, .pointer none, .bool false])) ∨
    ∃ (φ ψ : Fm.T) (p q : Nat), res = some (φ, ψ) ∧ en = .returned (.tuple #[ptrV p, ptrV q, .bool true]) ∧ Tree (fun b => w.heap.size ≤ b) w' φ p ∧ Tree (fun b => w.heap.size ≤ b) w' ψ q)
theorem viewOf_any (f g : ByteArray) (hf : f.size ≤ 9223372036854775807) (hg : g.size ≤ 9223372036854775807) (w : World) : Calls Tryz.prog 19 #[.string f, .string g] w (ViewP w (viewB f g)) := by
  go_enter Tryz.func19, Tryz.ntmps19
  go_wp2_with fail
  refine (parseFormula_any f _ hf).mono ?_
  rintro en w1 ⟨hb1, hor⟩
  have HB1 := Lib.hid hb1
  clear hb1
  rcases hor with ⟨hr, rfl⟩ | ⟨φ, p, hr, rfl, ht⟩
  · have HV := Lib.hid (viewB_none1 (g := g) hr)
    clear hr
    go_wp2_with fail
    refine (parseFormula_any g _ hg).mono ?_
    rintro en w2 ⟨hb2, hor⟩
    have HB2 := Lib.hid (HB1.out.trans (hb2.mono HB1.out.size))
    clear hb2
    rcases hor with ⟨hr2, rfl⟩ | ⟨ψ, q, hr2, rfl, ht2⟩
    all_goals
      (try clear ht2)
      clear hr2
      (try unfold ptrV)
      go_wp2_with fail
      go_ret3
      exact ⟨HB2.out, .inl ⟨HV.out, rfl⟩⟩
  · have HT := Lib.hid ht
    have HR := Lib.hid hr
    clear ht hr
    unfold ptrV
    go_wp2_with fail
    refine (parseFormula_any g _ hg).mono ?_
    rintro en w2 ⟨hb2, hor⟩
    have HB2 := Lib.hid (HB1.out.trans (hb2.mono HB1.out.size))
    have HT2 := Lib.hid (HT.out.below hb2)
    rcases hor with ⟨hr2, rfl⟩ | ⟨ψ, q, hr2, rfl, ht2⟩
    · have HV := Lib.hid (viewB_none2 (f := f) hr2)
      clear hr2 hb2
      go_wp2_with fail
      go_ret3
      exact ⟨HB2.out, .inl ⟨HV.out, rfl⟩⟩
    · have HV := Lib.hid (viewB_some HR.out hr2)
      have HQ2 := Lib.hid (ht2.mono (F' := fun b => w.heap.size ≤ b) (fun b hb => Nat.le_trans HB1.out.size hb))
      obtain ⟨v1, u1, q1, nd1, _⟩ := HT2.out.node
      obtain ⟨v2, u2, q2, nd2, _⟩ := HQ2.out.node
      have c1 := nd1.cells.2.2.2.1
      have c2 := nd2.cells.2.2.2.1
      have l1 := Fm.free_lt φ
      have l2 := Fm.free_lt ψ
      clear nd1 nd2 hr2 hb2 ht2
      generalize Fm.free φ = f1 at *
      generalize Fm.free ψ = f2 at *
      unfold ptrV
      by_cases z1 : f1 / 2 = 0
      · by_cases z2 : f2 / 4 = 0
        · have HV2 := Lib.hid (HV.out.trans (if_pos ⟨z1, z2⟩))
          have y1 : ((f1 : Int) / 2) = 0 := by omega
          have y2 : ((f2 : Int) / 4) = 0 := by omega
          go_wp2_with fail
          go_ret3
          exact ⟨HB2.out, .inr ⟨φ, ψ, p, q, HV2.out, rfl, HT2.out, HQ2.out⟩⟩
        · have HV2 := Lib.hid (HV.out.trans (if_neg (fun h => z2 h.2)))
          have y1 : ((f1 : Int) / 2) = 0 := by omega
          have y2 : ¬ ((f2 : Int) / 4) = 0 := by omega
          go_wp2_with fail
          go_ret3
          exact ⟨HB2.out, .inl ⟨HV2.out, rfl⟩⟩
      · have HV2 := Lib.hid (HV.out.trans (if_neg (fun h => z1 h.1)))
        have y1 : ¬ ((f1 : Int) / 2) = 0 := by omega
        go_wp2_with fail
        go_ret3
        exact ⟨HB2.out, .inl ⟨HV2.out, rfl⟩⟩
end Go.Proofs.YtdcnpjekmnlgjaaGreatDoor

namespace Go.Proofs.YtdcnpjekmnlgjaaGreatDoor
open Go.RowKit
set_option linter.unusedVariables false
set_option maxRecDepth 100000
/-- A boxed structure and an empty result behind it. -/
structure BoxR (w wr : World) (n : Int) (S R : ByteArray) : Prop where
  a : SBlk wr w.heap.size n S R
  res : SBlk wr (w.heap.size + 1) 0 ByteArray.empty ByteArray.empty
  old : Below w.heap.size w wr
section
variable {w wr w' : World} {n : Int} {S R : ByteArray}
theorem BoxR.below (h : BoxR w wr n S R) (hb : Below wr.heap.size wr w') : BoxR w w' n S R :=
  ⟨h.a.below hb h.a.cells.2.2.2.2.2.2, h.res.below hb h.res.cells.2.2.2.2.2.2, h.old.trans (hb.mono h.old.size)⟩
theorem BoxR.first (w : World) (n : Int) (S R : ByteArray) : BoxR w ((boxS w n S R).alloc (.cells #[.int .i64 0, .string ByteArray.empty, .string ByteArray.empty] 24)) n S R := by
  have hB : Below (boxS w n S R).heap.size (boxS w n S R) ((boxS w n S R).alloc (.cells #[.int .i64 0, .string ByteArray.empty, .string ByteArray.empty] 24)) := (Below.refl _ _).alloc (Nat.le_refl _) _
  refine ⟨(boxS_SBlk w n S R).below hB (boxS_SBlk w n S R).cells.2.2.2.2.2.2, ?_, (boxS_below w n S R).trans (hB.mono (boxS_below w n S R).size)⟩
  have h := SBlk.new (boxS w n S R) 0 ByteArray.empty ByteArray.empty
  rw [boxS_size] at h
  exact h
theorem BoxR.fin (h : BoxR w wr n S R) (u v x : Value) : Below w.heap.size w (((wr.setCell ⟨w.heap.size + 1, 0, none⟩ u).setCell ⟨w.heap.size + 1, 1, none⟩ v).setCell ⟨w.heap.size + 1, 2, none⟩ x) :=
  ((h.old.setCell (by simp) _).setCell (by simp) _).setCell (by simp) _
end
end Go.Proofs.YtdcnpjekmnlgjaaGreatDoor

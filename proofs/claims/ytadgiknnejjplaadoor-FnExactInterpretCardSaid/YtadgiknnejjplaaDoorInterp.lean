/- The program's Interpret: its two tests. Conditions: the elements are the structure's own. -/
import Derived.Test.YtadgiknnejjplaaDoorHolds2
import Derived.Test.YtadgiknnejjplaaDoorMakeE
import Derived.Test.YtadgiknnejjplaaDoorParse2
namespace Go.Proofs.YtadgiknnejjplaaDoor
open Go.RowKit
set_option linter.unusedVariables false
set_option maxRecDepth 100000

theorem interp1_any (φ : Fm.T) (F G : Nat → Prop) (w : World) (hb kb n : Nat) (S R : ByteArray) (p bh bf x : Nat) (hB : Base F G w hb kb n S R) (hT : Tree F w φ p) (hx : x < n) (c1 : w.cell? ⟨bh, 0, none⟩ = some (ptrV hb)) (c2 : w.cell? ⟨bf, 0, none⟩ = some (ptrV p)) :
    Calls Tryd.prog 70 #[.int .i64 (x : Int), .pointer (some ⟨bh, 0, none⟩), .pointer (some ⟨bf, 0, none⟩)] w fun en w' => en = .returned (.bool (Fm.holds (stOf n S R) φ (env2 x 0))) ∧ EverP F G kb (stOf n S R) w w' := by
  have hbel : Below w.heap.size w (w.alloc (.cells #[.int .i64 (x : Int)] 3)) := (Below.refl w.heap.size w).alloc (Nat.le_refl _) _
  have hA := heap_alloc_new w (.cells #[.int .i64 (x : Int)] 3)
  have HC := Lib.hid (holds_one φ F G _ hb kb n S R p w.heap.size x (hB.below hbel) (hT.below hbel) hx (by unfold World.cell?; rw [hA]; rfl))
  have HE := Lib.hid (EverP.of_below hB.memo hbel)
  clear hB hT hA hbel
  unfold ptrV at HC c1 c2
  go_enter Tryd.func70, Tryd.ntmps70
  go_wp2_with fail
  refine HC.out.mono ?_; rintro _ w1 ⟨rfl, hev⟩
  have HEND := Lib.hid (HE.out.then (fun b hb => .inl hb) hev)
  clear hev
  go_wp2_with fail
  go_ret
  exact ⟨rfl, HEND.out⟩
theorem interp2_any (φ : Fm.T) (F G : Nat → Prop) (w : World) (hb kb n : Nat) (S R : ByteArray) (p bh bf x y : Nat) (hB : Base F G w hb kb n S R) (hT : Tree F w φ p) (hx : x < n) (hy : y < n) (c1 : w.cell? ⟨bh, 0, none⟩ = some (ptrV hb)) (c2 : w.cell? ⟨bf, 0, none⟩ = some (ptrV p)) :
    Calls Tryd.prog 72 #[.int .i64 (x : Int), .int .i64 (y : Int), .pointer (some ⟨bh, 0, none⟩), .pointer (some ⟨bf, 0, none⟩)] w fun en w' => en = .returned (.bool (Fm.holds (stOf n S R) φ (env2 x y))) ∧ EverP F G kb (stOf n S R) w w' := by
  have hbel : Below w.heap.size w (w.alloc (.cells #[.int .i64 (x : Int), .int .i64 (y : Int)] 3)) := (Below.refl w.heap.size w).alloc (Nat.le_refl _) _
  have hA := heap_alloc_new w (.cells #[.int .i64 (x : Int), .int .i64 (y : Int)] 3)
  have HC := Lib.hid (holds_two φ F G _ hb kb n S R p w.heap.size x y (hB.below hbel) (hT.below hbel) hx hy (by unfold World.cell?; rw [hA]; rfl) (by unfold World.cell?; rw [hA]; rfl))
  have HE := Lib.hid (EverP.of_below hB.memo hbel)
  clear hB hT hA hbel
  unfold ptrV at HC c1 c2
  go_enter Tryd.func72, Tryd.ntmps72
  go_wp2_with fail
  refine HC.out.mono ?_; rintro _ w1 ⟨rfl, hev⟩
  have HEND := Lib.hid (HE.out.then (fun b hb => .inl hb) hev)
  clear hev
  go_wp2_with fail
  go_ret
  exact ⟨rfl, HEND.out⟩
/-- The formulas of a view. -/
def viewB (f g : ByteArray) : Option (Fm.T × Fm.T) :=
  match readB f, readB g with
  | some φ, some ψ => if Fm.free φ / 2 = 0 ∧ Fm.free ψ / 4 = 0 then some (φ, ψ) else none
  | _, _ => none
theorem viewB_none1 {f g : ByteArray} (h : readB f = none) : viewB f g = none := by unfold viewB; rw [h]
theorem viewB_none2 {f g : ByteArray} (h : readB g = none) : viewB f g = none := by unfold viewB; rw [h]; cases readB f <;> rfl
theorem viewB_some {f g : ByteArray} {φ ψ : Fm.T} (h : readB f = some φ) (h2 : readB g = some ψ) : viewB f g = if Fm.free φ / 2 = 0 ∧ Fm.free ψ / 4 = 0 then some (φ, ψ) else none := by unfold viewB; rw [h, h2]
/-- What viewOf returns. -/
def ViewP (w : World) (res : Option (Fm.T × Fm.T)) (en : Ending) (w' : World) : Prop :=
  Below w.heap.size w w' ∧ ((res = none ∧ en = .returned (.tuple #[.pointer none, .pointer none, .bool false])) ∨
    ∃ (φ ψ : Fm.T) (p q : Nat), res = some (φ, ψ) ∧ en = .returned (.tuple #[ptrV p, ptrV q, .bool true]) ∧ Tree (fun b => w.heap.size ≤ b) w' φ p ∧ Tree (fun b => w.heap.size ≤ b) w' ψ q)
theorem viewOf_any (f g : ByteArray) (hf : f.size ≤ 9223372036854775807) (hg : g.size ≤ 9223372036854775807) (w : World) : Calls Tryd.prog 66 #[.string f, .string g] w (ViewP w (viewB f g)) := by
  go_enter Tryd.func66, Tryd.ntmps66
  go_wp2_with fail
  refine (parseFormula_any f _ hf).mono ?_
  rintro en w1 ⟨hb1, hor⟩
  have HB1 := Lib.hid hb1
  clear hb1
  rcases hor with ⟨hr, rfl⟩ | ⟨φ, p, hr, rfl, ht⟩
  · have HV := Lib.hid (viewB_none1 (g := g) hr)
    clear hr
    go_wp2_with fail
    refine (parseFormula_any g _ hg).mono ?_
    rintro en w2 ⟨hb2, hor⟩
    have HB2 := Lib.hid (HB1.out.trans (hb2.mono HB1.out.size))
    clear hb2
    rcases hor with ⟨hr2, rfl⟩ | ⟨ψ, q, hr2, rfl, ht2⟩
    all_goals
      (try clear ht2)
      clear hr2
      (try unfold ptrV)
      go_wp2_with fail
      go_ret3
      exact ⟨HB2.out, .inl ⟨HV.out, rfl⟩⟩
  · have HT := Lib.hid ht
    have HR := Lib.hid hr
    clear ht hr
    unfold ptrV
    go_wp2_with fail
    refine (parseFormula_any g _ hg).mono ?_
    rintro en w2 ⟨hb2, hor⟩
    have HB2 := Lib.hid (HB1.out.trans (hb2.mono HB1.out.size))
    have HT2 := Lib.hid (HT.out.below hb2)
    rcases hor with ⟨hr2, rfl⟩ | ⟨ψ, q, hr2, rfl, ht2⟩
    · have HV := Lib.hid (viewB_none2 (f := f) hr2)
      clear hr2 hb2
      go_wp2_with fail
      go_ret3
      exact ⟨HB2.out, .inl ⟨HV.out, rfl⟩⟩
    · have HV := Lib.hid (viewB_some HR.out hr2)
      have HQ2 := Lib.hid (ht2.mono (F' := fun b => w.heap.size ≤ b) (fun b hb => Nat.le_trans HB1.out.size hb))
      obtain ⟨v1, u1, q1, nd1, _⟩ := HT2.out.node
      obtain ⟨v2, u2, q2, nd2, _⟩ := HQ2.out.node
      have c1 := nd1.cells.2.2.2.1
      have c2 := nd2.cells.2.2.2.1
      have l1 := Fm.free_lt φ
      have l2 := Fm.free_lt ψ
      clear nd1 nd2 hr2 hb2 ht2
      generalize Fm.free φ = f1 at *
      generalize Fm.free ψ = f2 at *
      unfold ptrV
      by_cases z1 : f1 / 2 = 0
      · by_cases z2 : f2 / 4 = 0
        · have HV2 := Lib.hid (HV.out.trans (if_pos ⟨z1, z2⟩))
          have y1 : ((f1 : Int) / 2) = 0 := by omega
          have y2 : ((f2 : Int) / 4) = 0 := by omega
          go_wp2_with fail
          go_ret3
          exact ⟨HB2.out, .inr ⟨φ, ψ, p, q, HV2.out, rfl, HT2.out, HQ2.out⟩⟩
        · have HV2 := Lib.hid (HV.out.trans (if_neg (fun h => z2 h.2)))
          have y1 : ((f1 : Int) / 2) = 0 := by omega
          have y2 : ¬ ((f2 : Int) / 4) = 0 := by omega
          go_wp2_with fail
          go_ret3
          exact ⟨HB2.out, .inl ⟨HV2.out, rfl⟩⟩
      · have HV2 := Lib.hid (HV.out.trans (if_neg (fun h => z1 h.1)))
        have y1 : ¬ ((f1 : Int) / 2) = 0 := by omega
        go_wp2_with fail
        go_ret3
        exact ⟨HB2.out, .inl ⟨HV2.out, rfl⟩⟩
end Go.Proofs.YtadgiknnejjplaaDoor

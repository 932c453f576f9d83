/- Contracts of the program's functions and what they compute: part 43. Conditions: those that each theorem states. -/
import Derived.Test.YthmhjihppbeodaaGreatDoorP7n5
import Derived.Test.YthmhjihppbeodaaGreatDoorP7n19
import Derived.Test.YthmhjihppbeodaaGreatDoorP7n14
import Derived.Test.YthmhjihppbeodaaGreatDoorP7n2
import Derived.Test.YthmhjihppbeodaaGreatDoorP7n4
import Derived.Test.YthmhjihppbeodaaGreatDoorP7n15
import Derived.Test.YthmhjihppbeodaaGreatDoorP7n1
import Derived.Test.YthmhjihppbeodaaGreatDoorP7n8
import Derived.Test.YthmhjihppbeodaaGreatDoorP7n21
import Derived.Test.YthmhjihppbeodaaGreatDoorP7n36
import Derived.Test.YthmhjihppbeodaaGreatDoorP7n37
import Derived.IntWalk
import Derived.Laws.EntriesVeiled
import Derived.Deep.RegionHeld3
import Derived.Laws.IdiomStrings
import Derived.Deep.RegionLaw
import Derived.Deep.DeepCutAuto
import Derived.Deep.CutBlock
import Derived.Deep.AppendLies
import Derived.Maps.AppendAt
namespace Go.Proofs.YthmhjihppbeodaaGreatDoor
open Go.RowKit
set_option linter.unusedVariables false
set_option maxRecDepth 100000
theorem gsSame_yes (v u : Value) (L : List Nat) (w : World) (hv : NumsAt w v L) (hu : NumsAt w u L) (hl : L.length ≤ 1000) :
    Calls Tryz.prog 7 #[v, u] w fun e w' => e = .returned (.bool true) ∧ Below w.heap.size w w' := by
  obtain ⟨a, ca, rfl, c1, c2, hca⟩ := hv.view
  obtain ⟨b, cb, rfl, d1, d2, hcb⟩ := hu.view
  unfold maxLen at c2 d2
  have HCA := Lib.hid hca; have HCB := Lib.hid hcb
  clear hca hcb hv hu
  have HB := Lib.hid (Below.refl w.heap.size w)
  go_enter Tryz.func7, Tryz.ntmps7
  go_wp2_with fail
  go_loopw [5] (fun i wr => ∃ k : Nat, k ≤ L.length ∧ i = .int .i64 (k : Int) ∧ Hid (Below w.heap.size w wr)) (fun i _ => L.length - (intOf i).toNat)
  case atStart => exact ⟨0, by omega, rfl, HB.out⟩
  case round =>
    obtain ⟨k, hk, rfl, HB2⟩ := hrel
    by_cases hlt : k < L.length
    · obtain ⟨ga, oa, rfl, hga, hcka⟩ := HCA.out (by omega)
      obtain ⟨gb, ob, rfl, hgb, hckb⟩ := HCB.out (by omega)
      have e1 := (HB2.out.cell (p := ⟨ga, oa + k, none⟩) hga).trans (hcka k hlt)
      have e2 := (HB2.out.cell (p := ⟨gb, ob + k, none⟩) hgb).trans (hckb k hlt)
      obtain ⟨x, hx⟩ : ∃ x, L.getD k 0 = x := ⟨_, rfl⟩
      rw [hx] at e1 e2
      have hkI : (k : Int) < (L.length : Int) := by omega
      clear hcka hckb hx
      go_upto_region 6 with fail
      have f1 := fun s => Since.cell e1 s
      have f2 := fun s => Since.cell e2 s
      refine wp_region_since (by kernel_rfl) (by kernel_rfl) ?_
      repeat (go_big_quiet_step (first | (with_reducible exact f1 _) | (with_reducible exact f2 _)))
      refine wpQuiet_nil ?_
      intro w1 hb
      have HB3 := Lib.hid (HB2.out.trans (hb.mono HB2.out.size))
      clear f1 f2 hb
      go_wp2_with fail
      go_roundw
      case rel => exact ⟨k + 1, by omega, by go_num, HB3.out⟩
      case measure => simp [intOf]; omega
    · have hkI : ¬ (k : Int) < (L.length : Int) := by omega
      go_wp2_with fail
      go_ret
      exact ⟨rfl, HB2.out⟩
end Go.Proofs.YthmhjihppbeodaaGreatDoor

namespace Go.Proofs.YthmhjihppbeodaaGreatDoor
open Go.RowKit
set_option linter.unusedVariables false
set_option maxRecDepth 100000
/-- Both structures exchanged. -/
def DS.swap (a : DS) : DS := { a with n := a.m, S := a.T, R := a.U, m := a.n, T := a.S, U := a.R }
end Go.Proofs.YthmhjihppbeodaaGreatDoor

namespace Go.Proofs.YthmhjihppbeodaaGreatDoor
open Go.RowKit
set_option linter.unusedVariables false
set_option maxRecDepth 100000
/-- The left structure laid anew. -/
def DS.left (a : DS) (n : Nat) (S R : ByteArray) : DS := { a with n := (n : Int), S := S, R := R }
end Go.Proofs.YthmhjihppbeodaaGreatDoor

namespace Go.Proofs.YthmhjihppbeodaaGreatDoor
open Go.RowKit
set_option linter.unusedVariables false
set_option maxRecDepth 100000
/-- A slice of the call's own, cut. -/
theorem Own.take {B g cap : Nat} {w : World} {L : List Nat} (h : Own B w (.slice (some ⟨g, 0, none⟩) L.length cap) L) (i : Nat) (hi : i ≤ L.length) : Own B w (.slice (some ⟨g, 0, none⟩) i cap) (L.take i) := by
  have hl : (L.take i).length = i := by rw [List.length_take]; omega
  refine ⟨⟨by simp, ?_⟩, by simp, h.low⟩
  rw [hl]
  rcases h.own.2 with ⟨h1, h2⟩ | ⟨g', cap', cur, he, hb, hg, hnc, hcm, hcs, htake⟩
  · cases h1
  · injection he with e1 e2 e3
    injection e1 with e1
    injection e1 with e1
    subst e1; subst e3
    refine .inr ⟨g, cap, cur, rfl, hb, hg, by omega, hcm, hcs, ?_⟩
    rw [List.map_take, ← htake, List.take_take]
    congr 1
    omega
end Go.Proofs.YthmhjihppbeodaaGreatDoor

namespace Go.Proofs.YthmhjihppbeodaaGreatDoor
open Go.RowKit
set_option linter.unusedVariables false
set_option maxRecDepth 100000
theorem outT_foldl : ∀ (os : List ByteArray) (t : ByteArray), (os.foldl (fun t o => t ++ (o ++ ⟨#[10]⟩)) t).size = t.size + (os.map fun o => o.size + 1).sum
  | [], t => by simp
  | o :: os, t => by
    rw [List.foldl_cons, outT_foldl os, ByteArray.size_append, ByteArray.size_append, List.map_cons, List.sum_cons]
    show t.size + (o.size + 1) + _ = _
    omega
theorem outT_size (os : List ByteArray) : (outT os).size = (os.map fun o => o.size + 1).sum := by
  unfold outT
  rw [outT_foldl]
  show 0 + _ = _
  omega
theorem sum_take (l : List Nat) : ∀ j, (l.take j).sum ≤ l.sum := by
  induction l with
  | nil => intro j; simp
  | cons x l ih =>
    intro j
    cases j with
    | zero => simp
    | succ j => have := ih j; simp only [List.take_succ_cons, List.sum_cons]; omega
theorem outT_take (os : List ByteArray) (j : Nat) : (outT (os.take j)).size ≤ (outT os).size := by
  rw [outT_size, outT_size, List.map_take]
  exact sum_take _ _
theorem linesL_size : ∀ ls : List ByteArray, (linesL (ls.map fun s => s.data.toList)).length = (ls.map fun o => o.size + 1).sum
  | [] => rfl
  | l :: ls => by
    have := linesL_size ls
    simp only [List.map_cons, linesL, List.length_append, List.length_cons, List.sum_cons, this]
    have : l.data.toList.length = l.size := by simp
    omega
theorem linesB_size (ls : List ByteArray) : (linesB ls).size = (ls.map fun o => o.size + 1).sum := by
  rw [← linesL_size]
  show (linesL _).toArray.size = _
  simp
end Go.Proofs.YthmhjihppbeodaaGreatDoor

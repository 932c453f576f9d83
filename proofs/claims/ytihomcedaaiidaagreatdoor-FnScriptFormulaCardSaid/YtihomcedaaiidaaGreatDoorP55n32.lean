/- Contracts of the program's functions and what they compute: part 32. Conditions: those that each theorem states. -/
import Derived.Test.YtihomcedaaiidaaGreatDoorP55n1
import Derived.Test.YtihomcedaaiidaaGreatDoorP55n6
import Derived.Test.YtihomcedaaiidaaGreatDoorP55n19
import Derived.Test.YtihomcedaaiidaaGreatDoorP55n31
import Derived.Test.YtihomcedaaiidaaGreatDoorP55n25
import Derived.Test.YtihomcedaaiidaaGreatDoorP55n26
import Derived.Test.YtihomcedaaiidaaGreatDoorP55n12
import Derived.Test.YtihomcedaaiidaaGreatDoorP55n23
import Derived.IntWalk
import Derived.Maps.AppendAt
import Derived.OwnWalk
import Derived.Deep.QuietTactic
import Derived.BigQuiet
namespace Go.Proofs.YtihomcedaaiidaaGreatDoor
open Go.RowKit
/-- One text stands before another. -/
def LB (a b : ByteArray) : Prop := Op.bytesLess a.toList b.toList = true
end Go.Proofs.YtihomcedaaiidaaGreatDoor

namespace Go.Proofs.YtihomcedaaiidaaGreatDoor
open Go.RowKit
set_option linter.unusedVariables false
set_option maxRecDepth 100000
/-- What ReverseSentence returns. -/
def rvRes (f : ByteArray) : Option Fm.T :=
  match readB f with
  | some χ => if Fm.free χ = 0 then pbRes f ⟨#[80, 97]⟩ ⟨#[69, 98, 97]⟩ else none
  | none => none
theorem rv_none {f : ByteArray} (h : readB f = none) : rvRes f = none := by unfold rvRes; rw [h]
theorem rv_some {f : ByteArray} {χ : Fm.T} (h : readB f = some χ) : rvRes f = if Fm.free χ = 0 then pbRes f ⟨#[80, 97]⟩ ⟨#[69, 98, 97]⟩ else none := by unfold rvRes; rw [h]
theorem implReverse_any (f : ByteArray) (hf : f.size ≤ 9223372036854775807) (w : World) : Calls Tryz.prog 9 #[.string f] w fun e w' => e = .returned (shortV (rvRes f)) ∧ Below w.heap.size w w' := by
  obtain ⟨R, hR⟩ : ∃ R, rvRes f = R := ⟨_, rfl⟩
  rw [hR]
  go_enter Tryz.func9, Tryz.ntmps9
  go_wp2_with fail
  refine (parseFormula_any f _ hf).mono ?_
  rintro en w1 ⟨hb1, hor⟩
  have HB1 := Lib.hid hb1
  clear hb1
  rcases hor with ⟨hr, rfl⟩ | ⟨χ, p, hr, rfl, ht⟩
  · have HV : Hid (shortV R = .tuple #[.string ⟨#[]⟩, .bool false]) := by show _ = _; rw [← hR, rv_none hr]; rfl
    clear hr hR
    go_wp2_with fail
    go_ret2
    exact ⟨congrArg Ending.returned HV.out.symm, HB1.out⟩
  · obtain ⟨v, u, qs, nd, _⟩ := ht.node
    have c3 := nd.cells.2.2.2.1
    have HI := Lib.hid (hR.symm.trans (rv_some hr))
    have hfl := Fm.free_lt χ
    clear nd ht hr hR
    generalize Fm.free χ = fr at *
    unfold ptrV
    by_cases h0 : fr = 0
    · have HC := Lib.hid (fun w => implPullBack_any f ⟨#[80, 97]⟩ ⟨#[69, 98, 97]⟩ hf (by decide) (by decide) w)
      have hRR := HI.out.trans (if_pos h0)
      rw [← hRR] at HC
      obtain ⟨s, b, hsf⟩ := short_form R
      rw [hsf] at HC
      have HSF := Lib.hid hsf
      clear hRR hsf HI
      go_wp2_with fail
      refine (HC.out _).mono ?_; rintro e w2 ⟨rfl, hb2⟩
      have HB2 := Lib.hid (HB1.out.trans (hb2.mono HB1.out.size))
      clear hb2
      go_wp2_with fail
      go_ret2
      exact ⟨congrArg Ending.returned HSF.out.symm, HB2.out⟩
    · have HV : Hid (shortV R = .tuple #[.string ⟨#[]⟩, .bool false]) := by show _ = _; rw [HI.out, if_neg h0]; rfl
      clear HI
      go_wp2_with fail
      go_ret2
      exact ⟨congrArg Ending.returned HV.out.symm, HB1.out⟩
end Go.Proofs.YtihomcedaaiidaaGreatDoor

namespace Go.Proofs.YtihomcedaaiidaaGreatDoor
open Go.RowKit
set_option linter.unusedVariables false
namespace Fm
/-- The turned formula. -/
def swap : T → T
  | .lit b => .lit b
  | .set v => .set v
  | .rel true v w => .rel true w v
  | .rel false v w => .rel false v w
  | .neg f => .neg (swap f)
  | .bin o f g => .bin o (swap f) (swap g)
  | .qu q v f => .qu q v (swap f)
theorem putV_swap : ∀ φ : T, putV (.set 0) (.rel true 1 0) φ id = some (swap φ)
  | .lit b => rfl
  | .set v => rfl
  | .rel true v w => rfl
  | .rel false v w => rfl
  | .neg f => by simp only [putV]; rw [putV_swap f]; rfl
  | .bin o f g => by simp only [putV]; rw [putV_swap f, putV_swap g]; rfl
  | .qu q v f => by
    simp only [putV]
    rw [fresh_id]
    show (putV _ _ f (fput id v v)).map _ = _
    rw [fput_id, putV_swap f]; rfl
theorem free_swap : ∀ φ : T, free (swap φ) = free φ
  | .lit b => rfl
  | .set v => rfl
  | .rel true v w => Nat.or_comm _ _
  | .rel false v w => rfl
  | .neg f => free_swap f
  | .bin o f g => by simp only [swap, free]; rw [free_swap f, free_swap g]
  | .qu q v f => by simp only [swap, free]; rw [free_swap f]
theorem len_swap : ∀ φ : T, (text (swap φ)).length = (text φ).length
  | .lit b => rfl
  | .set v => rfl
  | .rel true v w => rfl
  | .rel false v w => rfl
  | .neg f => by simp only [swap, text, List.length_cons]; rw [len_swap f]
  | .bin o f g => by simp only [swap, text, List.length_cons, List.length_append]; rw [len_swap f, len_swap g]
  | .qu q v f => by simp only [swap, text, List.length_cons]; rw [len_swap f]
end Fm
theorem readB_text {ψ : Fm.T} (h : (Fm.text ψ).length ≤ 4000) : readB (txtS (Fm.text ψ)) = some ψ := by
  unfold readB txtS
  exact Fm.read_iff.2 ⟨by simp, by simpa using h⟩
theorem rvRes_some {f : ByteArray} {χ : Fm.T} (h : readB f = some χ) (h0 : Fm.free χ = 0) : rvRes f = some (Fm.swap χ) := by
  rw [rv_some h, if_pos h0]
  have e1 : readB ⟨#[80, 97]⟩ = some (.set 0) := Fm.read_iff.2 ⟨rfl, by decide⟩
  have e2 : readB ⟨#[69, 98, 97]⟩ = some (.rel true 1 0) := Fm.read_iff.2 ⟨rfl, by decide⟩
  have e3 : viewB ⟨#[80, 97]⟩ ⟨#[69, 98, 97]⟩ = some (.set 0, .rel true 1 0) := by
    rw [viewB_some e1 e2, if_pos (by decide)]
  rw [pb_some h e3, Fm.putG_some, Fm.putV_swap]
end Go.Proofs.YtihomcedaaiidaaGreatDoor

namespace Go.Proofs.YtihomcedaaiidaaGreatDoor
open Go.RowKit
set_option linter.unusedVariables false
set_option maxRecDepth 100000
/-- A slice that reads as numbers. -/
def IntsAt (w : World) (v : Value) (L : List Int) : Prop :=
  (v = .slice none 0 0 ∧ L = []) ∨ ∃ g o cap, v = .slice (some ⟨g, o, none⟩) L.length cap ∧ L.length ≤ cap ∧ cap ≤ maxLen ∧ g < w.heap.size ∧ ∀ j, j < L.length → w.cell? ⟨g, o + j, none⟩ = some (.int .i64 (L.getD j 0))
theorem IntsAt.view {w : World} {v : Value} {L : List Int} (h : IntsAt w v L) : ∃ (a : Option Addr) (cap : Nat), v = .slice a L.length cap ∧ L.length ≤ cap ∧ cap ≤ maxLen ∧
    (0 < L.length → ∃ g o, a = some ⟨g, o, none⟩ ∧ g < w.heap.size ∧ ∀ j, j < L.length → w.cell? ⟨g, o + j, none⟩ = some (.int .i64 (L.getD j 0))) := by
  rcases h with ⟨rfl, rfl⟩ | ⟨g, o, cap, rfl, h1, h2, h3, h4⟩
  · exact ⟨none, 0, rfl, Nat.le_refl _, by decide, fun h => absurd h (by simp)⟩
  · exact ⟨_, cap, rfl, h1, h2, fun _ => ⟨g, o, rfl, h3, h4⟩⟩
theorem IntsAt.below {w w' : World} {v : Value} {L : List Int} (h : IntsAt w v L) (hb : Below w.heap.size w w') : IntsAt w' v L := by
  rcases h with h | ⟨g, o, cap, rfl, h1, h2, hg, hc⟩
  · exact .inl h
  · exact .inr ⟨g, o, cap, rfl, h1, h2, Nat.lt_of_lt_of_le hg hb.size, fun j hj => (hb.cell (p := ⟨g, o + j, none⟩) hg).trans (hc j hj)⟩
/-- The slice v of the world w is the call's own since block B, and holds the numbers L. -/
structure OwnI (B : Nat) (w : World) (v : Value) (L : List Int) : Prop where
  own : w.ownsRow B 3 1 v L.length (L.map (Value.int .i64))
  ne : v ≠ .slice none 0 0
  low : B ≤ w.heap.size
theorem OwnI.cells {B : Nat} {w : World} {v : Value} {L : List Int} (h : OwnI B w v L) :
    ∃ g cap, v = .slice (some ⟨g, 0, none⟩) L.length cap ∧ B ≤ g ∧ g < w.heap.size ∧ L.length ≤ cap ∧ cap ≤ maxLen ∧ ∀ j, j < L.length → w.cell? ⟨g, j, none⟩ = some (.int .i64 (L.getD j 0)) := by
  rcases h.own.2 with ⟨h1, h2⟩ | ⟨g, cap, cur, rfl, hb, hg, hnc, hcm, hcs, htake⟩
  · exact absurd h1 h.ne
  · refine ⟨g, cap, rfl, hb, (h.own.lt g rfl).2, hnc, hcm, fun j hj => ?_⟩
    rw [h.own.cellAt j (by omega)]
    simp [hj]
theorem OwnI.lit0 (B : Nat) (w : World) (hB : B ≤ w.heap.size) : OwnI B (w.alloc (.cells #[] 3)) (.slice (some ⟨w.heap.size, 0, none⟩) 0 0) [] :=
  ⟨World.ownsRow_made w #[] 0 hB (by decide) rfl, by simp, by simp; omega⟩
theorem OwnI.kept {B : Nat} {w w' : World} {v : Value} {L : List Int} (h : OwnI B w v L) (hb : ∀ k, v.ownBlock = some k → k < w.heap.size → w'.heap[k]? = w.heap[k]?) (hs : w.heap.size ≤ w'.heap.size) : OwnI B w' v L := by
  refine ⟨⟨h.own.1, ?_⟩, h.ne, Nat.le_trans h.low hs⟩
  rcases h.own.2 with hn | ⟨g, cap, cur, rfl, hb', hgg, rest⟩
  · exact .inl hn
  · exact .inr ⟨g, cap, cur, rfl, hb', by rw [hb g rfl (Array.getElem?_eq_some_iff.1 hgg).1]; exact hgg, rest⟩
theorem OwnI.below {B : Nat} {w w' : World} {v : Value} {L : List Int} (h : OwnI B w v L) (hb : Below w.heap.size w w') : OwnI B w' v L := h.kept (fun k _ hk => hb.block k hk) hb.size
theorem OwnI.mono {B B' : Nat} {w : World} {v : Value} {L : List Int} (h : OwnI B w v L) (hB : B' ≤ B) : OwnI B' w v L := by
  refine ⟨⟨h.own.1, ?_⟩, h.ne, Nat.le_trans hB h.low⟩
  rcases h.own.2 with hn | ⟨g, cap, cur, rfl, hb', rest⟩
  · exact .inl hn
  · exact .inr ⟨g, cap, cur, rfl, Nat.le_trans hB hb', rest⟩
theorem OwnI.block {B : Nat} {w : World} {v : Value} {L : List Int} (h : OwnI B w v L) : ∃ k, v.ownBlock = some k ∧ B ≤ k ∧ k < w.heap.size := by
  obtain ⟨g, cap, rfl, h1, h2, _⟩ := h.cells
  exact ⟨g, rfl, h1, h2⟩
theorem OwnI.grown {B b : Nat} {w w' : World} {v : Value} {L : List Int} (h : OwnI B w v L) (hg : w.grownBy w' (some b)) (hb : b < B) : OwnI B w' v L :=
  h.kept (fun k hk hl => hg.block k hl (by
    obtain ⟨j, hj, h1, _⟩ := h.block
    rw [hk] at hj; injection hj with hj
    intro e; injection e with e; omega)) hg.size
end Go.Proofs.YtihomcedaaiidaaGreatDoor

namespace Go.Proofs.YtihomcedaaiidaaGreatDoor
open Go.RowKit
set_option linter.unusedVariables false
set_option maxRecDepth 100000
/-- The first of some. -/
def fsO {α : Type} (g : Nat → Option α) : Nat → Option α
  | 0 => none
  | k + 1 => match fsO g k with
    | some s => some s
    | none => g k
/-- A variable's name; a fact with its sign. -/
def vnB (i : Nat) : ByteArray := ⟨#[UInt8.ofNat (97 + i)]⟩
def sgB (s : ByteArray) (is : Bool) : ByteArray := if is then s else ⟨#[33]⟩ ++ s
def elB (L : List Int) (i : Nat) : Nat := (L.getD i 0).toNat
def fa3 (a b : Gs.St) (L M : List Int) (i k : Nat) : Option ByteArray :=
  if L.getD k 0 < 0 then none
  else if decide (L.getD k 0 = L.getD i 0) != decide (M.getD k 0 = M.getD i 0) then some (sgB (⟨#[61]⟩ ++ vnB k ++ vnB i) (decide (L.getD k 0 = L.getD i 0)))
  else if a.r (elB L k) (elB L i) != b.r (elB M k) (elB M i) then some (sgB (⟨#[69]⟩ ++ vnB k ++ vnB i) (a.r (elB L k) (elB L i)))
  else if a.r (elB L i) (elB L k) != b.r (elB M i) (elB M k) then some (sgB (⟨#[69]⟩ ++ vnB i ++ vnB k) (a.r (elB L i) (elB L k)))
  else none
def fa1 (a b : Gs.St) (L M : List Int) (i : Nat) : Option ByteArray :=
  if L.getD i 0 < 0 then none
  else if a.s (elB L i) != b.s (elB M i) then some (sgB (⟨#[80]⟩ ++ vnB i) (a.s (elB L i)))
  else fsO (fa3 a b L M i) (i + 1)
end Go.Proofs.YtihomcedaaiidaaGreatDoor

namespace Go.Proofs.YtihomcedaaiidaaGreatDoor
open Go.RowKit
set_option linter.unusedVariables false
set_option maxRecDepth 100000
/-- A list of numbers that a call has built. -/
def ListI (L : List Int) (w : World) (e : Ending) (w' : World) : Prop := ∃ v, e = .returned v ∧ OwnI w.heap.size w' v L ∧ Below w.heap.size w w'
end Go.Proofs.YtihomcedaaiidaaGreatDoor

namespace Go.Proofs.YtihomcedaaiidaaGreatDoor
open Go.RowKit
set_option linter.unusedVariables false
set_option maxRecDepth 100000
theorem OwnI.setI {B g n cap : Nat} {w : World} {L : List Int} (h : OwnI B w (.slice (some ⟨g, 0, none⟩) n cap) L) (hn : L.length = n) (j : Nat) (z : Int) : OwnI B (w.setCell ⟨g, j, none⟩ (.int .i64 z)) (.slice (some ⟨g, 0, none⟩) n cap) (L.set j z) := by
  have h1 := h.own
  rw [hn] at h1
  refine ⟨?_, by simp, by simpa [World.setCell] using h.low⟩
  rw [List.length_set, List.map_set, hn]
  exact (h1.stored j (.int .i64 z)).1
theorem OwnI.frozen {B g n cap : Nat} {w : World} {L : List Int} (h : OwnI B w (.slice (some ⟨g, 0, none⟩) n cap) L) (hn : L.length = n) (j : Nat) : w.frozen? ⟨g, j, none⟩ = false := by
  have h1 := h.own
  rw [hn] at h1
  exact h1.frozenAt j
end Go.Proofs.YtihomcedaaiidaaGreatDoor

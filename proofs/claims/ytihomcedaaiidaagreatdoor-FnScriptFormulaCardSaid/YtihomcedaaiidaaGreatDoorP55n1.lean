/- Contracts of the program's functions and what they compute: part 1. Conditions: those that each theorem states. -/
import Derived.Test.YtihomcedaaiidaaGreatDoorChecked
import Derived.WalkKit
import Derived.WalkSpells
import Derived.WalkLawsBesides
import Derived.Lib.Hide
import Derived.Below
import Derived.OwnWalk
import Derived.Deep.AppendLies
import Derived.Deep.QuietTactic
import Derived.BigQuiet
import Derived.Lib.Strings
import Derived.Lib.Slices
import Derived.Lib.Walk
import Derived.Lib.Bytealg
import Derived.Lib.Split
import Derived.Lib.CutLaws
namespace Go.Proofs.YtihomcedaaiidaaGreatDoor
open Go.RowKit
theorem ret_bool {a b : Bool} (h : a = b) : Ending.returned (.bool a) = .returned (.bool b) := by rw [h]
theorem ret_int {k : IntKind} {a b : Int} (h : a = b) : Ending.returned (.int k a) = .returned (.int k b) := by rw [h]
/-- It is nil; or it leads to a row of 'cap' cells, the numbers 'zs' (the first 'len' are its elements), each fitting its kind. -/
def IsRow (k : IntKind) (w : World) (a : Option Addr) (len cap : Nat) (zs : List Int) : Prop :=
  (a = none ∧ len = 0 ∧ cap = 0 ∧ zs = []) ∨
  ∃ x, a = some x ∧ len ≤ cap ∧ cap ≤ maxLen ∧ zs.length = cap ∧ (∀ i, i < zs.length → w.cell? (x.add i) = some (.int k (zs.getD i 0))) ∧ ∀ n ∈ zs, (Lit.int k n).wf = true
end Go.Proofs.YtihomcedaaiidaaGreatDoor
namespace Go.Proofs.YtihomcedaaiidaaGreatDoor
open Go.RowKit
set_option linter.unusedVariables false
/-- Of what w had nothing has turned but in the blocks F. -/
structure Off (F : Nat → Prop) (w w' : World) : Prop where
  os : w'.os = w.os
  tape : w'.tape = w.tape
  output : w'.output = w.output
  size : w.heap.size ≤ w'.heap.size
  block : ∀ k, k < w.heap.size → ¬ F k → w'.heap[k]? = w.heap[k]?
theorem Off.refl (F : Nat → Prop) (w : World) : Off F w w := ⟨rfl, rfl, rfl, Nat.le_refl _, fun _ _ _ => rfl⟩
theorem Off.trans {F F1 : Nat → Prop} {w w1 w2 : World} (h : Off F w w1) (h1 : Off F1 w1 w2) (hF : ∀ b, F1 b → F b ∨ w.heap.size ≤ b) : Off F w w2 :=
  ⟨h1.os.trans h.os, h1.tape.trans h.tape, h1.output.trans h.output, Nat.le_trans h.size h1.size, fun k hk hn =>
    (h1.block k (Nat.lt_of_lt_of_le hk h.size) (fun e => (hF k e).elim hn (by omega))).trans (h.block k hk hn)⟩
theorem Off.of_below {F : Nat → Prop} {w w' : World} (h : Below w.heap.size w w') : Off F w w' := ⟨h.os, h.tape, h.output, h.size, fun k hk _ => h.block k hk⟩
theorem Off.below {F : Nat → Prop} {w w' : World} {B : Nat} (h : Off F w w') (hB : B ≤ w.heap.size) (hF : ∀ b, F b → B ≤ b) : Below B w w' :=
  ⟨h.os, h.tape, h.output, h.size, fun k hk => h.block k (by omega) (fun e => by have := hF k e; omega)⟩
theorem Off.mono {F F' : Nat → Prop} {w w' : World} (h : Off F w w') (hF : ∀ b, F b → F' b) : Off F' w w' :=
  ⟨h.os, h.tape, h.output, h.size, fun k hk hn => h.block k hk (fun e => hn (hF k e))⟩
theorem Off.cell {F : Nat → Prop} {w w' : World} (h : Off F w w') {p : Addr} (hp : p.block < w.heap.size) (hF : ¬ F p.block) : w'.cell? p = w.cell? p := World.cell?_of_block (w := w) (h.block p.block hp hF)
theorem Off.grown {F : Nat → Prop} {w w' : World} {row : Option Nat} (hg : w.grownBy w' row) (hF : ∀ b, row = some b → F b) : Off F w w' :=
  ⟨hg.os, hg.tape, hg.output, hg.size, fun k hk hn => hg.block k hk (fun e => hn (hF k e.symm))⟩
/-- The slice v of the world w holds the numbers L. -/
def NumsAt (w : World) (v : Value) (L : List Nat) : Prop :=
  (v = .slice none 0 0 ∧ L = []) ∨ ∃ g o cap, v = .slice (some ⟨g, o, none⟩) L.length cap ∧ L.length ≤ cap ∧ cap ≤ maxLen ∧ g < w.heap.size ∧ ∀ j, j < L.length → w.cell? ⟨g, o + j, none⟩ = some (.int .i64 ((L.getD j 0 : Nat) : Int))
theorem NumsAt.view {w : World} {v : Value} {L : List Nat} (h : NumsAt w v L) : ∃ (a : Option Addr) (cap : Nat), v = .slice a L.length cap ∧ L.length ≤ cap ∧ cap ≤ maxLen ∧
    (0 < L.length → ∃ g o, a = some ⟨g, o, none⟩ ∧ g < w.heap.size ∧ ∀ j, j < L.length → w.cell? ⟨g, o + j, none⟩ = some (.int .i64 ((L.getD j 0 : Nat) : Int))) := by
  rcases h with ⟨rfl, rfl⟩ | ⟨g, o, cap, rfl, h1, h2, h3, h4⟩
  · exact ⟨none, 0, rfl, Nat.le_refl _, by decide, fun h => absurd h (by simp)⟩
  · exact ⟨_, cap, rfl, h1, h2, fun _ => ⟨g, o, rfl, h3, h4⟩⟩
theorem NumsAt.kept {w w' : World} {v : Value} {L : List Nat} (h : NumsAt w v L) (hb : ∀ k, v.ownBlock = some k → k < w.heap.size → w'.heap[k]? = w.heap[k]?) (hs : w.heap.size ≤ w'.heap.size) : NumsAt w' v L := by
  rcases h with h | ⟨g, o, cap, rfl, h1, h2, hg, hc⟩
  · exact .inl h
  · exact .inr ⟨g, o, cap, rfl, h1, h2, by omega, fun j hj => (World.cell?_of_block (w := w) (hb g rfl hg)).trans (hc j hj)⟩
theorem NumsAt.below {w w' : World} {v : Value} {L : List Nat} (h : NumsAt w v L) (hb : Below w.heap.size w w') : NumsAt w' v L := h.kept (fun k _ hk => hb.block k hk) hb.size
theorem NumsAt.off {F : Nat → Prop} {w w' : World} {v : Value} {L : List Nat} (h : NumsAt w v L) (hb : Off F w w') (hF : ∀ k, v.ownBlock = some k → ¬ F k) : NumsAt w' v L := h.kept (fun k hk hl => hb.block k hl (hF k hk)) hb.size
theorem NumsAt.nil (w : World) : NumsAt w (.slice none 0 0) [] := .inl ⟨rfl, rfl⟩
/-- The first i numbers. -/
theorem NumsAt.take {w : World} {a : Option Addr} {cap : Nat} {L : List Nat} (h : NumsAt w (.slice a L.length cap) L) (i : Nat) (hi : i ≤ L.length) (h0 : 0 < L.length) : NumsAt w (.slice a i cap) (L.take i) := by
  have hl : (L.take i).length = i := by rw [List.length_take]; omega
  rcases h with ⟨_, rfl⟩ | ⟨g, o, cap', he, h1, h2, hg, hc⟩
  · simp at h0
  · injection he with e1 e2 e3
    subst e1; subst e3
    refine .inr ⟨g, o, cap, by rw [hl], by omega, h2, hg, fun j hj => ?_⟩
    rw [hl] at hj
    rw [hc j (by omega)]
    simp [hj]
theorem natInfo3 : (Tryz.prog.info? 3).map (fun i => (i.zero, i.size, i.bytes)) = some (some (.int .i64 0), 1, 8) := by kernel_rfl
end Go.Proofs.YtihomcedaaiidaaGreatDoor
namespace Go.Proofs.YtihomcedaaiidaaGreatDoor
open Go.RowKit
set_option linter.unusedVariables false
/-- The worlds since w: of what w had nothing has turned. -/
def Since (w : World) : Type := {w' : World // Below w.heap.size w w'}
def Since.w {w : World} (s : Since w) : World := s.1
theorem Since.below {w : World} (s : Since w) : Below w.heap.size w s.w := s.2
theorem Since.cell {w : World} {p : Addr} {v : Value} (h : w.cell? p = some v) (s : Since w) : s.w.cell? p = some v :=
  (s.below.cell (World.block_lt_of_cell? w p h)).trans h
theorem Since.heap {w : World} {b : Nat} {o : Obj} (h : w.heap[b]? = some o) (s : Since w) : s.w.heap[b]? = some o := by
  have hb : b < w.heap.size := by
    rcases Nat.lt_or_ge b w.heap.size with h' | h'
    · exact h'
    · simp [Array.getElem?_eq_none h'] at h
  exact (s.below.block b hb).trans h
def Since.refl (w : World) : Since w := ⟨w, Below.refl _ _⟩
instance since_some (w : World) : Nonempty (Since w) := ⟨Since.refl w⟩
theorem wp_region_since {P : Program} {id : Nat} {Q : Exit → Act → World → Prop} {a : Act} {w : World} {l : List Oper} (hm : P.follows .mixedOrders = true) (hB : Region.lexB .any l.toArray = true)
    (h : wpQuiet P l.toArray (fun w' => ∃ s : Since w, w' = s.w) (fun a' => ∀ w', Below w.heap.size w w' → Q .normal a' w') l a) : (Code.region id l.toArray true).wp P Q a w := by
  simp only [Region.lexB, Bool.and_eq_true] at hB
  refine wp_region_any hm (wpAny_of_quiet (C := fun w' => ∃ s : Since w, w' = s.w) (Q := fun a' => ∀ w', Below w.heap.size w w' → Q .normal a' w') (fun _ w' ⟨s, hs⟩ h => h w' (by rw [hs]; exact s.below)) _ _ _ _ ⟨⟨{ w with drawn := w.drawn + 1 }, ⟨rfl, rfl, rfl, Nat.le_refl _, fun _ _ => rfl⟩⟩, rfl⟩ ?_)
  have := wpAnyQ_lex (P := P) (C := fun w' => ∃ s : Since w, w' = s.w) (md := .any) hB.1 l 0 (Array.replicate l.toArray.size false) a (by simp) (by simpa using hB.2) h
  simpa using this
theorem Since.call {P : Program} {f : FuncId} {args : Array Value} {w : World} {s : Since w} {v : Value}
    (h : Calls P f args s.w fun e w' => e = .returned v ∧ Below s.w.heap.size s.w w') : Calls P f args s.w fun e w'' => e = .returned v ∧ ∃ s' : Since w, w'' = s'.w :=
  h.mono fun e w' ⟨he, hb⟩ => ⟨he, ⟨⟨w', s.below.trans (hb.mono s.below.size)⟩, rfl⟩⟩
theorem Since.call_same {P : Program} {f : FuncId} {args : Array Value} {w : World} {s : Since w} {v : Value}
    (h : Calls P f args s.w fun e w' => e = .returned v ∧ s.w = w') : Calls P f args s.w fun e w'' => e = .returned v ∧ ∃ s' : Since w, w'' = s'.w :=
  h.mono fun e w' ⟨he, hw⟩ => ⟨he, s, hw.symm⟩
end Go.Proofs.YtihomcedaaiidaaGreatDoor

namespace Go.Proofs.YtihomcedaaiidaaGreatDoor
open Go.RowKit
set_option linter.unusedVariables false
set_option maxHeartbeats 1000000 in
set_option maxRecDepth 100000 in
theorem liteIndexByte_any (s : ByteArray) (c : Int) (w : World) :
    Calls Tryz.prog 132 #[.string s, .int .u8 c] w fun e w' => e = .returned (.int .i64 (Lib.indexByte s.data.toList c.toNat.toUInt8)) ∧ w' = w := by
  go_enter Tryz.func132, Tryz.ntmps132
  go_wp2
  rw [run_callFunc_extern Tryz.func194 (by kernel_rfl) (by kernel_rfl) (by kernel_rfl) (e := Extern.BytealgIndexByte.indexByte) (by kernel_rfl), Lib.run_indexByteString]
  simp only [Result.andThen]
  rw [Oper.upon_value]
  go_wp2
  go_ret
  exact ⟨rfl, rfl⟩
set_option maxHeartbeats 1000000 in
theorem indexByte_any (s : ByteArray) (c : Int) (w : World) :
    Calls Tryz.prog 93 #[.string s, .int .u8 c] w fun e w' => e = .returned (.int .i64 (Lib.indexByte s.data.toList c.toNat.toUInt8)) ∧ w' = w := by
  go_enter Tryz.func93, Tryz.ntmps93
  go_wp2_with (go_at_call 132; refine (liteIndexByte_any _ _ _).mono ?_; rintro e w' ⟨rfl, rfl⟩)
  go_ret
  exact ⟨rfl, rfl⟩
set_option maxHeartbeats 2000000 in
set_option maxRecDepth 100000 in
theorem liteIndex_one (s : ByteArray) (c : UInt8) (w : World) :
    Calls Tryz.prog 150 #[.string s, .string ⟨#[c]⟩] w fun e w' => e = .returned (.int .i64 (Lib.indexByte s.data.toList c)) ∧ w' = w := by
  go_enter Tryz.func150, Tryz.ntmps150
  go_wp2_with (go_at_call 132; refine (liteIndexByte_any _ _ _).mono ?_; rintro e w' ⟨rfl, rfl⟩)
  · have h : ([c] == s.toList) = true := by assumption
    go_ret
    refine ⟨?_, rfl⟩
    have e : s.data.toList = [c] := by rw [← Lib.toList_data]; exact (beq_iff_eq.1 h).symm
    rw [e]
    simp [Lib.indexByte]
  · go_ret
    exact ⟨rfl, rfl⟩
set_option maxHeartbeats 1000000 in
theorem index_one (s : ByteArray) (c : UInt8) (w : World) :
    Calls Tryz.prog 101 #[.string s, .string ⟨#[c]⟩] w fun e w' => e = .returned (.int .i64 (Lib.indexByte s.data.toList c)) ∧ w' = w := by
  go_enter Tryz.func101, Tryz.ntmps101
  go_wp2_with (go_at_call 150; refine (liteIndex_one _ _ _).mono ?_; rintro e w' ⟨rfl, rfl⟩)
  go_ret
  exact ⟨rfl, rfl⟩
set_option maxHeartbeats 1000000 in
theorem contains_one (s : ByteArray) (c : UInt8) (w : World) :
    Calls Tryz.prog 74 #[.string s, .string ⟨#[c]⟩] w fun e w' => e = .returned (.bool (decide (0 ≤ Lib.indexByte s.data.toList c))) ∧ w' = w := by
  go_enter Tryz.func74, Tryz.ntmps74
  go_wp2_with (go_at_call 101; refine (index_one _ _ _).mono ?_; rintro e w' ⟨rfl, rfl⟩)
  go_ret
  exact ⟨rfl, rfl⟩
end Go.Proofs.YtihomcedaaiidaaGreatDoor

namespace Go.Proofs.YtihomcedaaiidaaGreatDoor
open Go.RowKit
set_option linter.unusedVariables false
set_option maxRecDepth 100000
/-- A byte that is not there is not found. -/
theorem index_no (c : UInt8) : ∀ l : List UInt8, c ∉ l → Lib.index l [c] = -1
  | [], _ => by simp [Lib.index]
  | b :: l, h => by
    have h1 : c ≠ b := fun e => h (by simp [e])
    have h2 := index_no c l (fun e => h (by simp [e]))
    unfold Lib.index
    rw [h2]
    have : List.isPrefixOf [c] (b :: l) = false := by simp [List.isPrefixOf, h1]
    rw [this]
    simp
/-- The first place of a byte behind others. -/
theorem index_at (c : UInt8) (r : List UInt8) : ∀ l : List UInt8, c ∉ l → Lib.index (l ++ c :: r) [c] = (l.length : Int)
  | [], _ => by simp [Lib.index, List.isPrefixOf]
  | b :: l, h => by
    have h1 : c ≠ b := fun e => h (by simp [e])
    have h2 := index_at c r l (fun e => h (by simp [e]))
    show Lib.index (b :: (l ++ c :: r)) [c] = _
    unfold Lib.index
    rw [h2]
    have : List.isPrefixOf [c] (b :: (l ++ c :: r)) = false := by simp [List.isPrefixOf, h1]
    rw [this]
    simp only [Bool.false_eq_true, ↓reduceIte, List.length_cons]
    rw [if_neg (by simp)]
    omega
/-- Lines, each with its end. -/
def linesL : List (List UInt8) → List UInt8
  | [] => []
  | l :: ls => l ++ 10 :: linesL ls
theorem linesL_append (a b : List (List UInt8)) : linesL (a ++ b) = linesL a ++ linesL b := by
  induction a with
  | nil => rfl
  | cons x a ih =>
    show x ++ 10 :: linesL (a ++ b) = (x ++ 10 :: linesL a) ++ linesL b
    rw [ih]
    simp
theorem linesL_len : ∀ ls : List (List UInt8), ls.length ≤ (linesL ls).length
  | [] => Nat.le_refl _
  | l :: ls => by
    have := linesL_len ls
    show ls.length + 1 ≤ (l ++ 10 :: linesL ls).length
    rw [List.length_append, List.length_cons]
    omega
/-- The lines of a script. -/
def linesB (ls : List ByteArray) : ByteArray := ⟨(linesL (ls.map fun s => s.data.toList)).toArray⟩
end Go.Proofs.YtihomcedaaiidaaGreatDoor

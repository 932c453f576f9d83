/- Contracts of the program's functions and what they compute: part 1. Conditions: those that each theorem states. -/
import Derived.Test.YtofmagiahmmmgaaGreatDoorChecked
import Derived.WalkKit
import Derived.WalkSpells
import Derived.WalkLawsBesides
import Derived.Lib.Hide
import Derived.Below
import Derived.OwnWalk
import Derived.Deep.AppendLies
import Derived.Deep.QuietTactic
import Derived.BigQuiet
namespace Go.Proofs.YtofmagiahmmmgaaGreatDoor
open Go.RowKit
theorem ret_bool {a b : Bool} (h : a = b) : Ending.returned (.bool a) = .returned (.bool b) := by rw [h]
theorem ret_int {k : IntKind} {a b : Int} (h : a = b) : Ending.returned (.int k a) = .returned (.int k b) := by rw [h]
/-- It is nil; or it leads to a row of 'cap' cells, the numbers 'zs' (the first 'len' are its elements), each fitting its kind. -/
def IsRow (k : IntKind) (w : World) (a : Option Addr) (len cap : Nat) (zs : List Int) : Prop :=
  (a = none ∧ len = 0 ∧ cap = 0 ∧ zs = []) ∨
  ∃ x, a = some x ∧ len ≤ cap ∧ cap ≤ maxLen ∧ zs.length = cap ∧ (∀ i, i < zs.length → w.cell? (x.add i) = some (.int k (zs.getD i 0))) ∧ ∀ n ∈ zs, (Lit.int k n).wf = true
end Go.Proofs.YtofmagiahmmmgaaGreatDoor
namespace Go.Proofs.YtofmagiahmmmgaaGreatDoor
open Go.RowKit
set_option linter.unusedVariables false
/-- Of what w had nothing has turned but in the blocks F. -/
structure Off (F : Nat → Prop) (w w' : World) : Prop where
  os : w'.os = w.os
  tape : w'.tape = w.tape
  output : w'.output = w.output
  size : w.heap.size ≤ w'.heap.size
  block : ∀ k, k < w.heap.size → ¬ F k → w'.heap[k]? = w.heap[k]?
theorem Off.refl (F : Nat → Prop) (w : World) : Off F w w := ⟨rfl, rfl, rfl, Nat.le_refl _, fun _ _ _ => rfl⟩
theorem Off.trans {F F1 : Nat → Prop} {w w1 w2 : World} (h : Off F w w1) (h1 : Off F1 w1 w2) (hF : ∀ b, F1 b → F b ∨ w.heap.size ≤ b) : Off F w w2 :=
  ⟨h1.os.trans h.os, h1.tape.trans h.tape, h1.output.trans h.output, Nat.le_trans h.size h1.size, fun k hk hn =>
    (h1.block k (Nat.lt_of_lt_of_le hk h.size) (fun e => (hF k e).elim hn (by omega))).trans (h.block k hk hn)⟩
theorem Off.of_below {F : Nat → Prop} {w w' : World} (h : Below w.heap.size w w') : Off F w w' := ⟨h.os, h.tape, h.output, h.size, fun k hk _ => h.block k hk⟩
theorem Off.below {F : Nat → Prop} {w w' : World} {B : Nat} (h : Off F w w') (hB : B ≤ w.heap.size) (hF : ∀ b, F b → B ≤ b) : Below B w w' :=
  ⟨h.os, h.tape, h.output, h.size, fun k hk => h.block k (by omega) (fun e => by have := hF k e; omega)⟩
theorem Off.mono {F F' : Nat → Prop} {w w' : World} (h : Off F w w') (hF : ∀ b, F b → F' b) : Off F' w w' :=
  ⟨h.os, h.tape, h.output, h.size, fun k hk hn => h.block k hk (fun e => hn (hF k e))⟩
theorem Off.cell {F : Nat → Prop} {w w' : World} (h : Off F w w') {p : Addr} (hp : p.block < w.heap.size) (hF : ¬ F p.block) : w'.cell? p = w.cell? p := World.cell?_of_block (w := w) (h.block p.block hp hF)
theorem Off.grown {F : Nat → Prop} {w w' : World} {row : Option Nat} (hg : w.grownBy w' row) (hF : ∀ b, row = some b → F b) : Off F w w' :=
  ⟨hg.os, hg.tape, hg.output, hg.size, fun k hk hn => hg.block k hk (fun e => hn (hF k e.symm))⟩
/-- The slice v of the world w holds the numbers L. -/
def NumsAt (w : World) (v : Value) (L : List Nat) : Prop :=
  (v = .slice none 0 0 ∧ L = []) ∨ ∃ g o cap, v = .slice (some ⟨g, o, none⟩) L.length cap ∧ L.length ≤ cap ∧ cap ≤ maxLen ∧ g < w.heap.size ∧ ∀ j, j < L.length → w.cell? ⟨g, o + j, none⟩ = some (.int .i64 ((L.getD j 0 : Nat) : Int))
theorem NumsAt.view {w : World} {v : Value} {L : List Nat} (h : NumsAt w v L) : ∃ (a : Option Addr) (cap : Nat), v = .slice a L.length cap ∧ L.length ≤ cap ∧ cap ≤ maxLen ∧
    (0 < L.length → ∃ g o, a = some ⟨g, o, none⟩ ∧ g < w.heap.size ∧ ∀ j, j < L.length → w.cell? ⟨g, o + j, none⟩ = some (.int .i64 ((L.getD j 0 : Nat) : Int))) := by
  rcases h with ⟨rfl, rfl⟩ | ⟨g, o, cap, rfl, h1, h2, h3, h4⟩
  · exact ⟨none, 0, rfl, Nat.le_refl _, by decide, fun h => absurd h (by simp)⟩
  · exact ⟨_, cap, rfl, h1, h2, fun _ => ⟨g, o, rfl, h3, h4⟩⟩
theorem NumsAt.kept {w w' : World} {v : Value} {L : List Nat} (h : NumsAt w v L) (hb : ∀ k, v.ownBlock = some k → k < w.heap.size → w'.heap[k]? = w.heap[k]?) (hs : w.heap.size ≤ w'.heap.size) : NumsAt w' v L := by
  rcases h with h | ⟨g, o, cap, rfl, h1, h2, hg, hc⟩
  · exact .inl h
  · exact .inr ⟨g, o, cap, rfl, h1, h2, by omega, fun j hj => (World.cell?_of_block (w := w) (hb g rfl hg)).trans (hc j hj)⟩
theorem NumsAt.below {w w' : World} {v : Value} {L : List Nat} (h : NumsAt w v L) (hb : Below w.heap.size w w') : NumsAt w' v L := h.kept (fun k _ hk => hb.block k hk) hb.size
theorem NumsAt.off {F : Nat → Prop} {w w' : World} {v : Value} {L : List Nat} (h : NumsAt w v L) (hb : Off F w w') (hF : ∀ k, v.ownBlock = some k → ¬ F k) : NumsAt w' v L := h.kept (fun k hk hl => hb.block k hl (hF k hk)) hb.size
theorem NumsAt.nil (w : World) : NumsAt w (.slice none 0 0) [] := .inl ⟨rfl, rfl⟩
/-- The first i numbers. -/
theorem NumsAt.take {w : World} {a : Option Addr} {cap : Nat} {L : List Nat} (h : NumsAt w (.slice a L.length cap) L) (i : Nat) (hi : i ≤ L.length) (h0 : 0 < L.length) : NumsAt w (.slice a i cap) (L.take i) := by
  have hl : (L.take i).length = i := by rw [List.length_take]; omega
  rcases h with ⟨_, rfl⟩ | ⟨g, o, cap', he, h1, h2, hg, hc⟩
  · simp at h0
  · injection he with e1 e2 e3
    subst e1; subst e3
    refine .inr ⟨g, o, cap, by rw [hl], by omega, h2, hg, fun j hj => ?_⟩
    rw [hl] at hj
    rw [hc j (by omega)]
    simp [hj]
/-- The slice v of the world w is the call's own since block B, and holds the numbers L. -/
structure Own (B : Nat) (w : World) (v : Value) (L : List Nat) : Prop where
  own : w.ownsRow B 3 1 v L.length (L.map fun n : Nat => Value.int .i64 (n : Int))
  ne : v ≠ .slice none 0 0
  low : B ≤ w.heap.size
theorem Own.nums {B : Nat} {w : World} {v : Value} {L : List Nat} (h : Own B w v L) : NumsAt w v L := by
  rcases h.own.2 with ⟨h1, h2⟩ | ⟨g, cap, cur, rfl, hb, hg, hnc, hcm, hcs, htake⟩
  · exact absurd h1 h.ne
  · refine .inr ⟨g, 0, cap, rfl, hnc, hcm, (h.own.lt g rfl).2, fun j hj => ?_⟩
    rw [Nat.zero_add, h.own.cellAt j (by omega)]
    simp [hj]
theorem Own.cells {B : Nat} {w : World} {v : Value} {L : List Nat} (h : Own B w v L) :
    ∃ g cap, v = .slice (some ⟨g, 0, none⟩) L.length cap ∧ B ≤ g ∧ g < w.heap.size ∧ L.length ≤ cap ∧ cap ≤ maxLen ∧ ∀ j, j < L.length → w.cell? ⟨g, j, none⟩ = some (.int .i64 ((L.getD j 0 : Nat) : Int)) := by
  rcases h.own.2 with ⟨h1, h2⟩ | ⟨g, cap, cur, rfl, hb, hg, hnc, hcm, hcs, htake⟩
  · exact absurd h1 h.ne
  · refine ⟨g, cap, rfl, hb, (h.own.lt g rfl).2, hnc, hcm, fun j hj => ?_⟩
    rw [h.own.cellAt j (by omega)]
    simp [hj]
theorem Own.lit0 (B : Nat) (w : World) (hB : B ≤ w.heap.size) : Own B (w.alloc (.cells #[] 3)) (.slice (some ⟨w.heap.size, 0, none⟩) 0 0) [] :=
  ⟨World.ownsRow_made w #[] 0 hB (by decide) rfl, by simp, by simp; omega⟩
theorem Own.kept {B : Nat} {w w' : World} {v : Value} {L : List Nat} (h : Own B w v L) (hb : ∀ k, v.ownBlock = some k → k < w.heap.size → w'.heap[k]? = w.heap[k]?) (hs : w.heap.size ≤ w'.heap.size) : Own B w' v L := by
  refine ⟨⟨h.own.1, ?_⟩, h.ne, Nat.le_trans h.low hs⟩
  rcases h.own.2 with hn | ⟨g, cap, cur, rfl, hb', hgg, rest⟩
  · exact .inl hn
  · exact .inr ⟨g, cap, cur, rfl, hb', by rw [hb g rfl (Array.getElem?_eq_some_iff.1 hgg).1]; exact hgg, rest⟩
theorem Own.below {B : Nat} {w w' : World} {v : Value} {L : List Nat} (h : Own B w v L) (hb : Below w.heap.size w w') : Own B w' v L := h.kept (fun k _ hk => hb.block k hk) hb.size
theorem Own.off {B : Nat} {F : Nat → Prop} {w w' : World} {v : Value} {L : List Nat} (h : Own B w v L) (hb : Off F w w') (hF : ∀ k, v.ownBlock = some k → ¬ F k) : Own B w' v L := h.kept (fun k hk hl => hb.block k hl (hF k hk)) hb.size
theorem Own.alloc {B : Nat} {w : World} {v : Value} {L : List Nat} (h : Own B w v L) (o : Obj) : Own B (w.alloc o) v L := h.below ((Below.refl _ _).alloc (Nat.le_refl _) _)
theorem natInfo3 : (Tryz.prog.info? 3).map (fun i => (i.zero, i.size, i.bytes)) = some (some (.int .i64 0), 1, 8) := by kernel_rfl
/-- One number is appended to a slice of the call's own. -/
theorem wpList_own1 {ops : Array Oper} {rest : List Oper} {o : Oper} {a : Act} {Q : Exit → Act → World → Prop} {B : Nat} {w : World} {v : Value} {L : List Nat}
    (hown : Own B w v L) (hL : L.length ≤ 2000000) (hgd : o.guard = none) (s x : Operand)
    (ho : o.op = .call { callee := .builtin .append, args := #[s, x], argTypes := #[33, 33] }) (y : Nat) (b : Nat) (hb : w.heap.size = b)
    (hs : a.eval s = v) (hx : a.eval x = .slice (some ⟨b, 0, none⟩) 1 1)
    (h : ∀ v' w', Own B w' v' (L ++ [y]) → w.grownBy w' v.ownBlock → wpList Tryz.prog ops Q rest (a.put o.dst v') w') :
    wpList Tryz.prog ops Q (o :: rest) a (w.alloc (.cells #[.int .i64 (y : Int)] 3)) := by
  subst hb
  obtain ⟨i, hi, hz, h1, h2⟩ := info_parts natInfo3
  have hbase : B ≤ w.heap.size := hown.low
  refine wpList_append_own _ hgd s x 33 ho B 3 i (.int .i64 0) 1 8 Tryz.underlying33 hi hz h1 h2 rfl (by decide) v L.length _ hs (hown.own.alloc _) ⟨w.heap.size, 0, none⟩ 1 1 [.int .i64 (y : Int)] hx rfl ?_ ?_ ?_ ?_ ?_ ?_
  · intro j u hj
    match j, hj with
    | 0, hj => simp at hj; subst hj; simp [Addr.add]
  · intro u hu
    simp at hu; subst hu; rfl
  · unfold maxLen; omega
  · omega
  · simp; omega
  · intro v' w' h2 h3 h4
    refine h v' w' ⟨?_, ?_, ?_⟩ ?_
    · simpa using h2
    · intro e
      exact hown.ne (h4.1 e).1
    · have := h3.size
      simp at this
      omega
    · refine ⟨h3.os, h3.tape, h3.output, ?_, fun k hk hne => ?_⟩
      · have := h3.size
        simp at this
        omega
      · rw [h3.block k (by simp; omega) hne]
        exact Below.heap_alloc _ _ _ hk
/-- The numbers of a slice are appended to a slice of the call's own. -/
theorem wpList_ownAll {ops : Array Oper} {rest : List Oper} {o : Oper} {a : Act} {Q : Exit → Act → World → Prop} {B : Nat} {w : World} {v u : Value} {L M : List Nat}
    (hown : Own B w v L) (hM : NumsAt w u M) (hL : L.length + M.length ≤ 2000000) (hgd : o.guard = none) (s x : Operand)
    (ho : o.op = .call { callee := .builtin .append, args := #[s, x], argTypes := #[33, 33] })
    (hs : a.eval s = v) (hx : a.eval x = u)
    (h : ∀ v' w', Own B w' v' (L ++ M) → w.grownBy w' v.ownBlock → wpList Tryz.prog ops Q rest (a.put o.dst v') w') :
    wpList Tryz.prog ops Q (o :: rest) a w := by
  obtain ⟨i, hi, hz, h1, h2⟩ := info_parts natInfo3
  rcases hM with ⟨rfl, rfl⟩ | ⟨g, off, cap, rfl, m1, m2, mg, mc⟩
  · refine wpList_plain hgd fun K hK' => ?_
    have hrun := run_append_owned_none (P := Tryz.prog) w B 33 o.type 3 i 1 Tryz.underlying33 hi v L.length _ hown.own
    unfold Oper.wp
    simp [execOp, ho, resolve, invoke, builtin, hs, hx, hrun, Result.andThen]
    exact hK' _ _ (h v w (by simpa using hown) (World.grownBy.refl _ _))
  · refine wpList_append_own _ hgd s x 33 ho B 3 i (.int .i64 0) 1 8 Tryz.underlying33 hi hz h1 h2 rfl (by decide) v L.length _ hs hown.own ⟨g, off, none⟩ M.length cap (M.map fun n : Nat => Value.int .i64 (n : Int)) hx (by simp) ?_ ?_ ?_ ?_ hown.low ?_
    · intro j u hj
      have hj' : j < M.length := by
        have := (List.getElem?_eq_some_iff.1 hj).1
        simpa using this
      have e : (⟨g, off, none⟩ : Addr).add j = ⟨g, off + j, none⟩ := by unfold Addr.add; split <;> simp_all
      rw [e, mc j hj']
      simpa [hj'] using hj
    · intro u hu
      obtain ⟨n, _, rfl⟩ := List.mem_map.1 hu
      rfl
    · unfold maxLen; omega
    · omega
    · intro v' w' h2 h3 h4
      refine h v' w' ⟨?_, ?_, ?_⟩ h3
      · simpa using h2
      · intro e
        exact hown.ne (h4.1 e).1
      · have := h3.size
        have := hown.low
        omega
end Go.Proofs.YtofmagiahmmmgaaGreatDoor
namespace Go.Proofs.YtofmagiahmmmgaaGreatDoor
open Go.RowKit
set_option linter.unusedVariables false
/-- The worlds since w: of what w had nothing has turned. -/
def Since (w : World) : Type := {w' : World // Below w.heap.size w w'}
def Since.w {w : World} (s : Since w) : World := s.1
theorem Since.below {w : World} (s : Since w) : Below w.heap.size w s.w := s.2
theorem Since.cell {w : World} {p : Addr} {v : Value} (h : w.cell? p = some v) (s : Since w) : s.w.cell? p = some v :=
  (s.below.cell (World.block_lt_of_cell? w p h)).trans h
theorem Since.heap {w : World} {b : Nat} {o : Obj} (h : w.heap[b]? = some o) (s : Since w) : s.w.heap[b]? = some o := by
  have hb : b < w.heap.size := by
    rcases Nat.lt_or_ge b w.heap.size with h' | h'
    · exact h'
    · simp [Array.getElem?_eq_none h'] at h
  exact (s.below.block b hb).trans h
def Since.refl (w : World) : Since w := ⟨w, Below.refl _ _⟩
instance since_some (w : World) : Nonempty (Since w) := ⟨Since.refl w⟩
theorem wp_region_since {P : Program} {id : Nat} {Q : Exit → Act → World → Prop} {a : Act} {w : World} {l : List Oper} (hm : P.follows .mixedOrders = true) (hB : Region.lexB .any l.toArray = true)
    (h : wpQuiet P l.toArray (fun w' => ∃ s : Since w, w' = s.w) (fun a' => ∀ w', Below w.heap.size w w' → Q .normal a' w') l a) : (Code.region id l.toArray true).wp P Q a w := by
  simp only [Region.lexB, Bool.and_eq_true] at hB
  refine wp_region_any hm (wpAny_of_quiet (C := fun w' => ∃ s : Since w, w' = s.w) (Q := fun a' => ∀ w', Below w.heap.size w w' → Q .normal a' w') (fun _ w' ⟨s, hs⟩ h => h w' (by rw [hs]; exact s.below)) _ _ _ _ ⟨⟨{ w with drawn := w.drawn + 1 }, ⟨rfl, rfl, rfl, Nat.le_refl _, fun _ _ => rfl⟩⟩, rfl⟩ ?_)
  have := wpAnyQ_lex (P := P) (C := fun w' => ∃ s : Since w, w' = s.w) (md := .any) hB.1 l 0 (Array.replicate l.toArray.size false) a (by simp) (by simpa using hB.2) h
  simpa using this
theorem Since.call {P : Program} {f : FuncId} {args : Array Value} {w : World} {s : Since w} {v : Value}
    (h : Calls P f args s.w fun e w' => e = .returned v ∧ Below s.w.heap.size s.w w') : Calls P f args s.w fun e w'' => e = .returned v ∧ ∃ s' : Since w, w'' = s'.w :=
  h.mono fun e w' ⟨he, hb⟩ => ⟨he, ⟨⟨w', s.below.trans (hb.mono s.below.size)⟩, rfl⟩⟩
theorem Since.call_same {P : Program} {f : FuncId} {args : Array Value} {w : World} {s : Since w} {v : Value}
    (h : Calls P f args s.w fun e w' => e = .returned v ∧ s.w = w') : Calls P f args s.w fun e w'' => e = .returned v ∧ ∃ s' : Since w, w'' = s'.w :=
  h.mono fun e w' ⟨he, hw⟩ => ⟨he, s, hw.symm⟩
end Go.Proofs.YtofmagiahmmmgaaGreatDoor

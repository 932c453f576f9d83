/- Lists of numbers that a call builds by appending one number at a time: what is known of the slice. No condition but small lengths. -/
import Derived.Test.YtmabpmkkleelaaaDoorBase
import Derived.OwnWalk
import Derived.Deep.AppendLies
namespace Go.Proofs.YtmabpmkkleelaaaDoor
open Go.RowKit
set_option linter.unusedVariables false

/-- The slice v of the world w holds the numbers L in a block from B on. -/
structure Nums (B : Nat) (w : World) (v : Value) (L : List Int) : Prop where
  own : w.ownsRow B 3 1 v L.length (L.map (Value.int .i64))
  ne : v ≠ .slice none 0 0
  low : B ≤ w.heap.size
theorem Nums.grown {B : Nat} {w w' : World} {v : Value} {L : List Int} {b : Nat} (h : Nums B w v L) (hg : w.grownBy w' (some b)) (hb : b < B) : Nums B w' v L := by
  refine ⟨h.own.kept hg ?_, h.ne, Nat.le_trans h.low hg.size⟩
  cases hv : v.ownBlock with
  | none => exact .inl rfl
  | some k =>
    refine .inr fun e => ?_
    have := (h.own.lt k hv).1
    injection e with e
    omega
theorem Nums.kept {B : Nat} {w w' : World} {v : Value} {L : List Int} (h : Nums B w v L) (hb : Below w.heap.size w w') : Nums B w' v L := by
  refine ⟨h.own.kept (w' := w') (row := none) ⟨hb.os, hb.tape, hb.output, hb.size, fun i hi _ => hb.block i hi⟩ ?_, h.ne, Nat.le_trans h.low hb.size⟩
  cases hv : v.ownBlock <;> simp
theorem Nums.lit0 (B : Nat) (w : World) (hB : B ≤ w.heap.size) : Nums B (w.alloc (.cells #[] 3)) (.slice (some ⟨w.heap.size, 0, none⟩) 0 0) [] :=
  ⟨World.ownsRow_made w #[] 0 hB (by decide) rfl, by simp, by simp; omega⟩
theorem Nums.cells {B : Nat} {w : World} {v : Value} {L : List Int} (h : Nums B w v L) :
    ∃ g cap, v = .slice (some ⟨g, 0, none⟩) L.length cap ∧ B ≤ g ∧ g < w.heap.size ∧ L.length ≤ cap ∧ cap ≤ maxLen ∧ ∀ j (hj : j < L.length), w.cell? ⟨g, j, none⟩ = some (.int .i64 L[j]) := by
  have ho := h.own
  rcases ho.2 with ⟨h1, _⟩ | ⟨g, cap, cur, hv, hb, hg, hnc, hcm, hcs, htake⟩
  · exact absurd h1 h.ne
  · have hlt : g < w.heap.size := by
      rcases Nat.lt_or_ge g w.heap.size with h' | h'
      · exact h'
      · simp [Array.getElem?_eq_none h'] at hg
    refine ⟨g, cap, hv, hb, hlt, hnc, hcm, fun j hj => ?_⟩
    subst hv
    rw [ho.cellAt j (by omega)]
    simp [hj]

theorem intInfo3' : (Tryd.prog.info? 3).map (fun i => (i.zero, i.size, i.bytes)) = some (some (.int .i64 0), 1, 8) := by kernel_rfl

theorem wpList_appN {ops : Array Oper} {rest : List Oper} {o : Oper} {a : Act} {Q : Exit → Act → World → Prop} {B : Nat} {w : World} {v : Value} {L : List Int}
    (hown : Nums B w v L) (hL : L.length ≤ 2000000) (hgd : o.guard = none) (s x : Operand)
    (ho : o.op = .call { callee := .builtin .append, args := #[s, x], argTypes := #[35, 35] }) (y : Int) (b : Nat) (hb : w.heap.size = b)
    (hs : a.eval s = v) (hx : a.eval x = .slice (some ⟨b, 0, none⟩) 1 1)
    (h : ∀ v' w', Nums B w' v' (L ++ [y]) → w.grownBy w' v.ownBlock → wpList Tryd.prog ops Q rest (a.put o.dst v') w') :
    wpList Tryd.prog ops Q (o :: rest) a (w.alloc (.cells #[.int .i64 y] 3)) := by
  subst hb
  obtain ⟨i, hi, hz, h1, h2⟩ := info_parts intInfo3'
  have hbase : B ≤ w.heap.size := hown.low
  refine wpList_append_own _ hgd s x 35 ho B 3 i (.int .i64 0) 1 8 Tryd.underlying35 hi hz h1 h2 rfl (by decide) v L.length (L.map (Value.int .i64)) hs (hown.own.alloc _) ⟨w.heap.size, 0, none⟩ 1 1 [.int .i64 y] hx rfl ?_ ?_ ?_ ?_ ?_ ?_
  · intro j u hj
    match j, hj with
    | 0, hj => simp at hj; subst hj; simp [Addr.add]
  · intro u hu
    simp at hu; subst hu; rfl
  · unfold maxLen; omega
  · omega
  · simp; omega
  · intro v' w' h2 h3 h4
    have hz' : (w.alloc (.cells #[.int .i64 y] 3)).heap.size = w.heap.size + 1 := by simp
    refine h v' w' ⟨?_, ?_, ?_⟩ ?_
    · simpa using h2
    · intro e
      exact hown.ne (h4.1 e).1
    · have := h3.size
      omega
    · refine ⟨h3.os, h3.tape, h3.output, ?_, fun k hk hne => ?_⟩
      · have := h3.size
        omega
      · rw [h3.block k (by omega) hne]
        exact Below.heap_alloc _ _ _ hk
end Go.Proofs.YtmabpmkkleelaaaDoor

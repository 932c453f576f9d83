/- Lists of texts that a call builds by appending one text at a time: what is known of the slice. No condition but small lengths. -/
import Derived.Test.YtnhlhjehocngcaaDoorBase
import Derived.OwnWalk
import Derived.Deep.AppendLies
namespace Go.Proofs.YtnhlhjehocngcaaDoor
open Go.RowKit
set_option linter.unusedVariables false

/-- The slice v of the world w holds the texts L; it was made since the world w0; of what w0 had nothing has turned. -/
structure Strs (w0 w : World) (v : Value) (L : List ByteArray) : Prop where
  own : w.ownsRow w0.heap.size 9 1 v L.length (L.map Value.string)
  ne : v ≠ .slice none 0 0
  old : Below w0.heap.size w0 w
theorem Strs.kept {w0 w w' : World} {v : Value} {L : List ByteArray} (h : Strs w0 w v L) (hb : Below w.heap.size w w') : Strs w0 w' v L := by
  refine ⟨h.own.kept (w' := w') (row := none) ⟨hb.os, hb.tape, hb.output, hb.size, fun i hi _ => hb.block i hi⟩ ?_, h.ne, h.old.trans (hb.mono h.old.size)⟩
  cases hv : v.ownBlock <;> simp
theorem Strs.alloc {w0 w : World} {v : Value} {L : List ByteArray} (h : Strs w0 w v L) (o : Obj) : Strs w0 (w.alloc o) v L :=
  h.kept ((Below.refl _ _).alloc (Nat.le_refl _) _)
theorem Strs.lit0 (w : World) : Strs w (w.alloc (.cells #[] 9)) (.slice (some ⟨w.heap.size, 0, none⟩) 0 0) [] :=
  ⟨World.ownsRow_made w #[] 0 (Nat.le_refl _) (by decide) rfl, by simp, (Below.refl _ _).alloc (Nat.le_refl _) _⟩
theorem Strs.cells {w0 w : World} {v : Value} {L : List ByteArray} (h : Strs w0 w v L) :
    ∃ g cap, v = .slice (some ⟨g, 0, none⟩) L.length cap ∧ w0.heap.size ≤ g ∧ g < w.heap.size ∧ L.length ≤ cap ∧ cap ≤ maxLen ∧ ∀ j (hj : j < L.length), w.cell? ⟨g, j, none⟩ = some (.string L[j]) := by
  have ho := h.own
  rcases ho.2 with ⟨h1, _⟩ | ⟨g, cap, cur, hv, hb, hg, hnc, hcm, hcs, htake⟩
  · exact absurd h1 h.ne
  · have hlt : g < w.heap.size := by
      rcases Nat.lt_or_ge g w.heap.size with h' | h'
      · exact h'
      · simp [Array.getElem?_eq_none h'] at hg
    refine ⟨g, cap, hv, hb, hlt, hnc, hcm, fun j hj => ?_⟩
    subst hv
    rw [ho.cellAt j (by omega)]
    simp [hj]

theorem strInfo9 : (Tryd.prog.info? 9).map (fun i => (i.zero, i.size, i.bytes)) = some (some (.string ByteArray.empty), 1, 16) := by kernel_rfl

theorem wpList_app1 {ops : Array Oper} {rest : List Oper} {o : Oper} {a : Act} {Q : Exit → Act → World → Prop} {w0 w : World} {v : Value} {L : List ByteArray}
    (hown : Strs w0 w v L) (hL : L.length ≤ 2000000) (hgd : o.guard = none) (s x : Operand)
    (ho : o.op = .call { callee := .builtin .append, args := #[s, x], argTypes := #[114, 114] }) (y : ByteArray)
    (B : Nat) (hB : w.heap.size = B) (hs : a.eval s = v) (hx : a.eval x = .slice (some ⟨B, 0, none⟩) 1 1)
    (h : ∀ v' w', Strs w0 w' v' (L ++ [y]) → wpList Tryd.prog ops Q rest (a.put o.dst v') w') :
    wpList Tryd.prog ops Q (o :: rest) a (w.alloc (.cells #[.string y] 9)) := by
  subst hB
  obtain ⟨i, hi, hz, h1, h2⟩ := info_parts strInfo9
  have hbase : w0.heap.size ≤ w.heap.size := hown.old.size
  refine wpList_append_own _ hgd s x 114 ho w0.heap.size 9 i (.string ByteArray.empty) 1 16 Tryd.underlying114 hi hz h1 h2 rfl (by decide) v L.length (L.map .string) hs (hown.own.alloc _) ⟨w.heap.size, 0, none⟩ 1 1 [.string y] hx rfl ?_ ?_ ?_ ?_ ?_ ?_
  · intro j u hj
    match j, hj with
    | 0, hj => simp at hj; subst hj; simp [Addr.add]
  · intro u hu
    simp at hu; subst hu; rfl
  · unfold maxLen; omega
  · omega
  · simp; omega
  · intro v' w' h2 h3 h4
    refine h v' w' ⟨?_, ?_, ?_⟩
    · simpa using h2
    · intro e
      exact hown.ne (h4.1 e).1
    · refine (hown.old.alloc hbase _).grown h3 (by simp; omega) fun k hk => ?_
      exact (hown.own.lt k hk).1
end Go.Proofs.YtnhlhjehocngcaaDoor

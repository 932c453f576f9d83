/- Contracts of the program's functions and what they compute: part 22. Conditions: those that each theorem states. -/
import Derived.Test.YtofmagiahmmmgaaGreatDoorP53n20
import Derived.Test.YtofmagiahmmmgaaGreatDoorP53n21
namespace Go.Proofs.YtofmagiahmmmgaaGreatDoor
open Go.RowKit
set_option linter.unusedVariables false
set_option maxRecDepth 100000
/-- A row of lists that is built. -/
structure Rw (W wr : World) (v : Value) (xs : List Value) (ds : List (List Nat)) : Prop where
  own : OwnV W.heap.size wr v xs
  ls : ListsAt wr xs ds
  ne : ∀ x ∈ xs, ∀ g, x.ownBlock = some g → v.ownBlock ≠ some g
  old : Below W.heap.size W wr
section
variable {W wr w' : World} {v v' : Value} {xs : List Value} {ds : List (List Nat)}
theorem Rw.below (h : Rw W wr v xs ds) (hb : Below wr.heap.size wr w') : Rw W w' v xs ds := ⟨h.own.below hb, h.ls.below hb, h.ne, h.old.trans (hb.mono h.old.size)⟩
theorem Rw.nil (W wr : World) (h : Below W.heap.size W wr) : Rw W (wr.alloc (.cells #[] 33)) (.slice (some ⟨wr.heap.size, 0, none⟩) 0 0) [] [] :=
  ⟨OwnV.lit0 _ _ h.size, ListsAt.nil _, fun x hx => (by cases hx), h.alloc h.size _⟩
theorem nums_block {w : World} {v : Value} {L : List Nat} (h : NumsAt w v L) {g : Nat} (hg : v.ownBlock = some g) : g < w.heap.size := by
  rcases h with ⟨h0, _⟩ | ⟨g', o, c, h0, _, _, hl, _⟩
  · rw [h0] at hg; cases hg
  · rw [h0] at hg
    have : g' = g := Option.some.inj hg
    omega
/-- A list is put behind the row. -/
theorem Rw.push (h : Rw W wr v xs ds) {x : Value} {d : List Nat} (hx : NumsAt wr x d) (hxv : ∀ g, x.ownBlock = some g → v.ownBlock ≠ some g) (ho : OwnV W.heap.size w' v' (xs ++ [x])) (hg : wr.grownBy w' v.ownBlock) (hat : v'.ownBlock = v.ownBlock ∨ ∃ k, v'.ownBlock = some k ∧ wr.heap.size ≤ k) : Rw W w' v' (xs ++ [x]) (ds ++ [d]) := by
  have hk : ∀ {y : Value} {e : List Nat}, NumsAt wr y e → (∀ g, y.ownBlock = some g → v.ownBlock ≠ some g) → NumsAt w' y e := fun hy hn => hy.kept (fun k hk hl => hg.block k hl (fun e => hn k hk e.symm)) hg.size
  refine ⟨ho, ListsAt.snoc ⟨h.ls.len, fun j hj => hk (h.ls.at' j hj) (h.ne _ (List.getElem_mem hj))⟩ (hk hx hxv), fun y hy g hgy => ?_, h.old.grown hg h.old.size (fun k hk => (h.own.own.lt k hk).1)⟩
  have hyl : (∀ g, y.ownBlock = some g → v.ownBlock ≠ some g) ∧ g < wr.heap.size := by
    rcases List.mem_append.1 hy with hy | hy
    · obtain ⟨j, hj, rfl⟩ := List.mem_iff_getElem.1 hy
      exact ⟨h.ne _ hy, nums_block (h.ls.at' j hj) hgy⟩
    · obtain rfl : y = x := by simpa using hy
      exact ⟨hxv, nums_block hx hgy⟩
  rcases hat with e | ⟨k, e, hk2⟩
  · rw [e]; exact hyl.1 g hgy
  · rw [e]
    intro e2
    injection e2 with e2
    have := hyl.2
    omega
end
theorem OwnV.mono {B B' : Nat} {w : World} {v : Value} {xs : List Value} (h : OwnV B' w v xs) (hB : B ≤ B') : OwnV B w v xs := by
  refine ⟨⟨h.own.1, ?_⟩, h.ne, Nat.le_trans hB h.low⟩
  rcases h.own.2 with hn | ⟨g, cap, cur, rfl, hb', rest⟩
  · exact .inl hn
  · exact .inr ⟨g, cap, cur, rfl, Nat.le_trans hB hb', rest⟩
/-- One slice is appended: as one step of a region whose order is open. -/
theorem step_ownV {ops : Array Oper} {o : Oper} {a : Act} {K : Act → World → Prop} {Q : Exit → Act → World → Prop} {E : Prop} {B : Nat} {w : World} {v : Value} {xs : List Value}
    (hown : OwnV B w v xs) (hL : Hid (xs.length ≤ 100000)) (hgd : o.guard = none) (s x : Operand)
    (ho : o.op = .call { callee := .builtin .append, args := #[s, x], argTypes := #[131, 131] }) (y : Value) (hy : y.oneCell' = true) (b : Nat) (hb : w.heap.size = b)
    (hs : a.eval s = v) (hx : a.eval x = .slice (some ⟨b, 0, none⟩) 1 1)
    (h : ∀ g cap w', OwnV B w' (.slice (some ⟨g, 0, none⟩) (xs.length + 1) cap) (xs ++ [y]) → w.grownBy w' v.ownBlock → (v.ownBlock = some g ∨ w.heap.size ≤ g) → K (a.put o.dst (.slice (some ⟨g, 0, none⟩) (xs.length + 1) cap)) w') :
    if Region.wanted o (yielded ops a.tmps) = true then Oper.wp Tryz.prog o a (w.alloc (.cells #[y] 33)) K Q else E := by
  have hL := hL.out
  subst hb
  obtain ⟨i, hi, hz, h1, h2⟩ := info_parts listsInfo
  have hbase : B ≤ w.heap.size := hown.low
  refine step_append_lies _ hgd s x 131 ho B 33 i (.slice none 0 0) 1 24 Tryz.underlying131 hi hz h1 h2 rfl (by decide) v xs.length xs hs ?_ ⟨w.heap.size, 0, none⟩ 1 1 [y] hx rfl ?_ ?_ (by decide) ?_ ?_ ?_ _ rfl ?_
  · exact (hown.below ((Below.refl _ _).alloc (Nat.le_refl _) _)).own
  · intro j u hj
    match j, hj with
    | 0, hj => simp at hj; subst hj; simp [Addr.add]
  · intro u hu
    simp at hu; subst hu; exact hy
  · unfold maxLen; omega
  · omega
  · simp; omega
  · intro g cap w' h2 h3 h4 h5
    refine h g cap w' ⟨?_, by simp, ?_⟩ ⟨h3.os, h3.tape, h3.output, ?_, fun k hk hne => ?_⟩ (h4.imp_right fun e => by rw [e]; simp)
    · simpa using h2
    · have := h3.size
      simp at this
      omega
    · have := h3.size
      simp at this
      omega
    · rw [h3.block k (by simp; omega) hne]
      exact Below.heap_alloc _ _ _ hk
/-- The structures of a list, as games see them. -/
def stPc (p : Nat × ByteArray × ByteArray) : Gs.St := stOf p.1 p.2.1 p.2.2
theorem firsts_snoc (l : List Gs.St) (a : Gs.St) : Col.firsts (l ++ [a]) = Col.firsts l ++ (List.range a.n).map (Col.first a) := by
  induction l with
  | nil => simp [Col.firsts]
  | cons b l ih => simp [Col.firsts, ih]
theorem many_snoc (l : List Gs.St) (a : Gs.St) : Col.many (l ++ [a]) = Col.many l + a.n := by
  induction l with
  | nil => simp [Col.many]
  | cons b l ih => simp [Col.many, ih]; omega
theorem descrs_snoc (l : List Gs.St) (a : Gs.St) (c : List Nat) : Col.descrs (l ++ [a]) c = Col.descrs l c ++ (List.range a.n).map (Col.descr a ((c.drop (Col.many l)).take a.n)) := by
  induction l generalizing c with
  | nil => simp [Col.descrs, Col.many]
  | cons b l ih =>
    simp only [List.cons_append, Col.descrs, Col.many]
    rw [ih, List.append_assoc, List.drop_drop]
theorem range_map_succ {α : Type} (f : Nat → α) (x : Nat) : (List.range (x + 1)).map f = (List.range x).map f ++ [f x] := by
  rw [List.range_succ, List.map_append]; rfl
/-- The structures lie in memory, one behind the other. -/
structure SsAt (w : World) (g : Nat) (l : List (Nat × ByteArray × ByteArray)) : Prop where
  lt : g < w.heap.size
  cell : ∀ (i : Nat) (h : i < l.length), w.cell? ⟨g, i * 3, none⟩ = some (.int .i64 (l[i].1 : Int)) ∧ w.cell? ⟨g, i * 3 + 1, none⟩ = some (.string l[i].2.1) ∧ w.cell? ⟨g, i * 3 + 2, none⟩ = some (.string l[i].2.2)
theorem SsAt.below {w w' : World} {g : Nat} {l : List (Nat × ByteArray × ByteArray)} (h : SsAt w g l) {B : Nat} (hB : g < B) (hb : Below B w w') : SsAt w' g l :=
  ⟨Nat.lt_of_lt_of_le h.lt hb.size, fun i hi => ⟨(hb.cell (p := ⟨g, i * 3, none⟩) hB).trans (h.cell i hi).1, (hb.cell (p := ⟨g, i * 3 + 1, none⟩) hB).trans (h.cell i hi).2.1, (hb.cell (p := ⟨g, i * 3 + 2, none⟩) hB).trans (h.cell i hi).2.2⟩⟩
end Go.Proofs.YtofmagiahmmmgaaGreatDoor

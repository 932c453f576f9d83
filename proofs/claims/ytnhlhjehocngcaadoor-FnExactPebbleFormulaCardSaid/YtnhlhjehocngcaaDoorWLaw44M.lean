/- The walk of the law FnExactPebbleFormula: it returns true. Condition: the arguments are readable. -/
import Derived.Test.YtnhlhjehocngcaaDoorPebJ6
import Derived.Test.YtnhlhjehocngcaaDoorNew
import Derived.StillTailTactics
import Derived.Test.YtnhlhjehocngcaaDoorPebF
import Derived.Test.YtnhlhjehocngcaaDoorPebJ2
import Derived.Test.YtnhlhjehocngcaaDoorPebI2
import Derived.Test.YtnhlhjehocngcaaDoorPebI1
import Derived.Test.YtnhlhjehocngcaaDoorPebI4
import Derived.Test.YtnhlhjehocngcaaDoorBits
import Derived.Test.YtnhlhjehocngcaaDoorBase
import Derived.Deep.QuietTactic
import Derived.BigQuiet
import Derived.OpenShut
import Derived.Laws.BitsAllLaws
import Derived.Laws.BitsLemmas
import Derived.Deep.Draws
import Derived.OwnWalk
import Derived.Maps.AppendAt
import Derived.Maps.RangeWalk
import Derived.Maps.Range
import Derived.Laws.OwnMore
/- The levels of the reference's l7Levels: slices of slices of numbers. No condition. -/
namespace Go.Proofs.YtnhlhjehocngcaaDoor
open Go.RowKit
set_option linter.unusedVariables false
set_option maxRecDepth 100000

theorem intsInfo : (Tryd.prog.info? 28).map (fun i => (i.zero, i.size, i.bytes)) = some (some (.slice none 0 0), 1, 24) := by kernel_rfl
/-- A slice of slices of numbers of the call's own. -/
structure OwnW (B : Nat) (w : World) (v : Value) (xs : List Value) : Prop where
  own : w.ownsRow B 28 1 v xs.length xs
  low : B ≤ w.heap.size
theorem OwnW.kept {B : Nat} {w w' : World} {v : Value} {xs : List Value} (h : OwnW B w v xs) (hb : ∀ k, v.ownBlock = some k → k < w.heap.size → w'.heap[k]? = w.heap[k]?) (hs : w.heap.size ≤ w'.heap.size) : OwnW B w' v xs := by
  refine ⟨⟨h.own.1, ?_⟩, Nat.le_trans h.low hs⟩
  rcases h.own.2 with hn | ⟨g, cap, cur, rfl, hb', hgg, rest⟩
  · exact .inl hn
  · exact .inr ⟨g, cap, cur, rfl, hb', by rw [hb g rfl (Array.getElem?_eq_some_iff.1 hgg).1]; exact hgg, rest⟩
theorem OwnW.below {B : Nat} {w w' : World} {v : Value} {xs : List Value} (h : OwnW B w v xs) (hb : Below w.heap.size w w') : OwnW B w' v xs := h.kept (fun k _ hk => hb.block k hk) hb.size
theorem OwnW.cells {B : Nat} {w : World} {v : Value} {xs : List Value} (h : OwnW B w v xs) (hne : 0 < xs.length) :
    ∃ g cap, v = .slice (some ⟨g, 0, none⟩) xs.length cap ∧ B ≤ g ∧ g < w.heap.size ∧ xs.length ≤ cap ∧ cap ≤ maxLen ∧ ∀ j, j < xs.length → w.cell? ⟨g, j, none⟩ = xs[j]? := by
  rcases h.own.2 with ⟨h1, h2⟩ | ⟨g, cap, cur, rfl, hb, hg, hnc, hcm, hcs, htake⟩
  · omega
  · exact ⟨g, cap, rfl, hb, (h.own.lt g rfl).2, hnc, hcm, fun j hj => h.own.cellAt j (by omega)⟩
theorem OwnW.one {B : Nat} {w : World} (x : Value) (hB : B ≤ w.heap.size) : OwnW B (w.alloc (.cells #[x] 28)) (.slice (some ⟨w.heap.size, 0, none⟩) 1 1) [x] :=
  ⟨⟨rfl, .inr ⟨w.heap.size, 1, #[x], rfl, hB, heap_alloc_new w _, Nat.le_refl 1, (by unfold maxLen; omega), rfl, rfl⟩⟩, by simp; omega⟩
theorem wpList_ownW {ops : Array Oper} {rest : List Oper} {o : Oper} {a : Act} {Q : Exit → Act → World → Prop} {B : Nat} {w : World} {v : Value} {xs : List Value}
    (hown : OwnW B w v xs) (hL : Hid (xs.length ≤ 1000)) (hgd : o.guard = none) (s x : Operand)
    (ho : o.op = .call { callee := .builtin .append, args := #[s, x], argTypes := #[66, 66] }) (y : Value) (hy : y.oneCell' = true) (b : Nat) (hb : w.heap.size = b)
    (hs : a.eval s = v) (hx : a.eval x = .slice (some ⟨b, 0, none⟩) 1 1)
    (h : ∀ g cap w', OwnW B w' (.slice (some ⟨g, 0, none⟩) (xs.length + 1) cap) (xs ++ [y]) → w.grownBy w' v.ownBlock → (v.ownBlock = some g ∨ w.heap.size ≤ g) → wpList Tryd.prog ops Q rest (a.put o.dst (.slice (some ⟨g, 0, none⟩) (xs.length + 1) cap)) w') :
    wpList Tryd.prog ops Q (o :: rest) a (w.alloc (.cells #[y] 28)) := by
  have hL := hL.out
  subst hb
  obtain ⟨i, hi, hz, h1, h2⟩ := info_parts intsInfo
  have hbase : B ≤ w.heap.size := hown.low
  refine wpList_append_lies _ hgd s x 66 ho B 28 i (.slice none 0 0) 1 24 Tryd.underlying66 hi hz h1 h2 rfl (by decide) v xs.length xs hs (hown.own.alloc _) ⟨w.heap.size, 0, none⟩ 1 1 [y] hx rfl ?_ ?_ (by decide) ?_ ?_ ?_ _ rfl ?_
  · intro j u hj
    match j, hj with
    | 0, hj => simp at hj; subst hj; simp [Addr.add]
  · intro u hu
    simp at hu; subst hu; exact hy
  · unfold maxLen; omega
  · omega
  · simp; omega
  · intro g cap w' h2 h3 h4 h5
    refine h g cap w' ⟨?_, ?_⟩ ?_ ?_
    · simpa using h2
    · have := h3.size
      simp at this
      omega
    · refine ⟨h3.os, h3.tape, h3.output, ?_, fun k hk hne => ?_⟩
      · have := h3.size
        simp at this
        omega
      · rw [h3.block k (by simp; omega) hne]
        exact Below.heap_alloc _ _ _ hk
    · rcases h4 with h | h
      · exact .inl h
      · exact .inr (by rw [h]; simp)
/-- A slice of levels. -/
structure Row (B : Nat) (wr : World) (v : Value) (xs : List Value) (cs : List (List Nat)) : Prop where
  own : OwnW B wr v xs
  len : xs.length = cs.length
  pos : 0 < xs.length
  at' : ∀ i, i < cs.length → ∃ x, xs[i]? = some x ∧ Own 0 wr x (cs.getD i [])
/-- What l7Levels keeps. -/
structure Lv (w : World) (n : Nat) (S R : ByteArray) (m : Nat) (S2 R2 : ByteArray) (va vb : Value) (xs ys : List Value) (cs ds : List (List Nat)) (wr : World) : Prop where
  sa : SBlk wr w.heap.size n S R
  sb : SBlk wr (w.heap.size + 1) m S2 R2
  ra : Row (w.heap.size + 2) wr va xs cs
  rb : Row (w.heap.size + 2) wr vb ys ds
  ne : va.ownBlock ≠ vb.ownBlock
  xa : ∀ x ∈ xs ++ ys, x.ownBlock ≠ va.ownBlock ∧ x.ownBlock ≠ vb.ownBlock
  old : Below w.heap.size w wr
section
variable {w wr w' wx : World} {n m : Nat} {S R S2 R2 : ByteArray} {va vb : Value} {xs ys : List Value} {cs ds : List (List Nat)}
theorem Row.below {B : Nat} {v : Value} (h : Row B wr v xs cs) (hb : Below wr.heap.size wr w') : Row B w' v xs cs :=
  ⟨h.own.below hb, h.len, h.pos, fun i hi => by
    obtain ⟨x, h1, h2⟩ := h.at' i hi
    exact ⟨x, h1, h2.below hb⟩⟩
theorem Lv.below (h : Lv w n S R m S2 R2 va vb xs ys cs ds wr) (hb : Below wr.heap.size wr w') : Lv w n S R m S2 R2 va vb xs ys cs ds w' := by
  have h1 := h.sb.cells.2.2.2.2.2.2
  exact ⟨h.sa.below hb (by omega), h.sb.below hb h1, h.ra.below hb, h.rb.below hb, h.ne, h.xa, h.old.trans (hb.mono (by omega))⟩
theorem Lv.swap (h : Lv w n S R m S2 R2 va vb xs ys cs ds wr) : ∀ x ∈ ys ++ xs, x.ownBlock ≠ vb.ownBlock ∧ x.ownBlock ≠ va.ownBlock := fun x hx => by
  have := h.xa x (by rw [List.mem_append] at hx ⊢; exact hx.symm)
  exact ⟨this.2, this.1⟩
/-- A row is grown by a level. -/
theorem Row.push {B : Nat} {v x : Value} {c : List Nat} {g cap : Nat} (h : Row B wx v xs cs) (hv : ∀ y ∈ xs, y.ownBlock ≠ v.ownBlock) (hx : Own 0 wx x c) (hxv : x.ownBlock ≠ v.ownBlock) (ho : OwnW B w' (.slice (some ⟨g, 0, none⟩) (xs.length + 1) cap) (xs ++ [x])) (hg : wx.grownBy w' v.ownBlock) : Row B w' (.slice (some ⟨g, 0, none⟩) (xs.length + 1) cap) (xs ++ [x]) (cs ++ [c]) := by
  have hk : ∀ (y : Value) (d : List Nat), Own 0 wx y d → y.ownBlock ≠ v.ownBlock → Own 0 w' y d := fun y d hy hn => hy.kept (fun b hb hl => hg.block b hl (fun e => hn (by rw [hb, e]))) hg.size
  refine ⟨ho, by simp [h.len], by simp, fun i hi => ?_⟩
  rw [List.length_append, List.length_singleton] at hi
  by_cases hlt : i < cs.length
  · obtain ⟨y, h1, h2⟩ := h.at' i hlt
    refine ⟨y, by rw [List.getElem?_append_left (by rw [h.len]; exact hlt)]; exact h1, ?_⟩
    rw [show (cs ++ [c]).getD i [] = cs.getD i [] by rw [List.getD_eq_getElem?_getD, List.getElem?_append_left hlt, ← List.getD_eq_getElem?_getD]]
    exact hk y _ h2 (hv y (List.mem_of_getElem? h1))
  · obtain rfl : i = cs.length := by omega
    refine ⟨x, by rw [← h.len]; simp, ?_⟩
    rw [show (cs ++ [c]).getD cs.length [] = c by simp]
    exact hk x c hx hxv
theorem Row.other {B : Nat} {v : Value} {row : Option Nat} (h : Row B wx v xs cs) (hv : ∀ y ∈ xs, y.ownBlock ≠ row) (hn : v.ownBlock ≠ row) (hg : wx.grownBy w' row) : Row B w' v xs cs :=
  ⟨h.own.kept (fun b hb hl => hg.block b hl (fun e => hn (by rw [hb, e]))) hg.size, h.len, h.pos, fun i hi => by
    obtain ⟨y, h1, h2⟩ := h.at' i hi
    exact ⟨y, h1, h2.kept (fun b hb hl => hg.block b hl (fun e => hv y (List.mem_of_getElem? h1) (by rw [hb, e]))) hg.size⟩⟩
theorem Row.has {B : Nat} {v : Value} (h : Row B wr v xs cs) : ∀ y ∈ xs, ∃ b, y.ownBlock = some b ∧ b < wr.heap.size := fun y hy => by
  obtain ⟨i, hi, e⟩ := List.mem_iff_getElem.1 hy
  obtain ⟨x, h1, h2⟩ := h.at' i (by rw [← h.len]; exact hi)
  rw [List.getElem?_eq_getElem hi, e] at h1
  injection h1 with h1
  subst h1
  obtain ⟨b, q1, _, q2⟩ := h2.block
  exact ⟨b, q1, q2⟩
theorem Row.home {B : Nat} {v : Value} (h : Row B wr v xs cs) : ∃ b, v.ownBlock = some b ∧ B ≤ b ∧ b < wr.heap.size := by
  obtain ⟨g, cap, rfl, h1, h2, _⟩ := h.own.cells h.pos
  exact ⟨g, rfl, h1, h2⟩
/-- The first side's row is grown by a level. -/
theorem Lv.pushA {x : Value} {c : List Nat} {g cap : Nat} (h : Lv w n S R m S2 R2 va vb xs ys cs ds wx) (hx : Own 0 wx x c) (hxn : x.ownBlock ≠ va.ownBlock) (hxm : x.ownBlock ≠ vb.ownBlock) (ho : OwnW (w.heap.size + 2) w' (.slice (some ⟨g, 0, none⟩) (xs.length + 1) cap) (xs ++ [x])) (hg : wx.grownBy w' va.ownBlock) (ha : va.ownBlock = some g ∨ wx.heap.size ≤ g) :
    Lv w n S R m S2 R2 (.slice (some ⟨g, 0, none⟩) (xs.length + 1) cap) vb (xs ++ [x]) ys (cs ++ [c]) ds w' := by
  have hx0 := h
  obtain ⟨ba, a1, a2, a3⟩ := h.ra.home
  obtain ⟨bb, b1, b2, b3⟩ := h.rb.home
  obtain ⟨bx, x1, x2, x3⟩ := hx.block
  have hgo : (Value.slice (some ⟨g, 0, none⟩) (xs.length + 1) cap).ownBlock = some g := rfl
  have hgb : ∀ b, b < wx.heap.size → va.ownBlock ≠ some b → some b ≠ some g := fun b hb hn e => by
    injection e with e
    rcases ha with h1 | h1
    · exact hn (by rw [h1, e])
    · omega
  have hall : ∀ y ∈ xs ++ ys, y.ownBlock ≠ some g := fun y hy => by
    obtain ⟨b, q1, q2⟩ : ∃ b, y.ownBlock = some b ∧ b < wx.heap.size := by
      rcases List.mem_append.1 hy with hy | hy
      · exact h.ra.has y hy
      · exact h.rb.has y hy
    rw [q1]
    exact hgb b (by omega) (fun e => (h.xa y hy).1 (by rw [q1, e]))
  have hsz := h.sb.cells.2.2.2.2.2.2
  have hself : ∀ b, b < w.heap.size + 2 → some b ≠ va.ownBlock := fun b hb e => by rw [a1] at e; injection e with e; omega
  refine ⟨(hg.block _ (by omega) (hself w.heap.size (by omega))).trans hx0.sa, (hg.block _ (by omega) (hself (w.heap.size + 1) (by omega))).trans hx0.sb, hx0.ra.push (fun y hy => (h.xa y (List.mem_append.2 (.inl hy))).1) hx hxn ho hg, hx0.rb.other (fun y hy => (h.xa y (List.mem_append.2 (.inr hy))).1) (fun e => h.ne e.symm) hg, ?_, fun y hy => ?_, hx0.old.grown hg hx0.old.size (fun b hb => by rw [a1] at hb; injection hb with hb; omega)⟩
  · rw [hgo, b1]
    exact fun e => hgb bb (by omega) (by rw [a1]; intro e2; exact h.ne (by rw [a1, b1, e2])) e.symm
  · rw [hgo]
    rcases List.mem_append.1 hy with hy | hy
    · rcases List.mem_append.1 hy with hy | hy
      · exact ⟨hall y (List.mem_append.2 (.inl hy)), (h.xa y (List.mem_append.2 (.inl hy))).2⟩
      · rw [List.mem_singleton.1 hy]
        exact ⟨by rw [x1]; exact hgb bx x3 (by rw [← x1]; exact fun e => hxn e.symm), hxm⟩
    · exact ⟨hall y (List.mem_append.2 (.inr hy)), (h.xa y (List.mem_append.2 (.inr hy))).2⟩
theorem Lv.pushB {x : Value} {c : List Nat} {g cap : Nat} (h : Lv w n S R m S2 R2 va vb xs ys cs ds wx) (hx : Own 0 wx x c) (hxn : x.ownBlock ≠ va.ownBlock) (hxm : x.ownBlock ≠ vb.ownBlock) (ho : OwnW (w.heap.size + 2) w' (.slice (some ⟨g, 0, none⟩) (ys.length + 1) cap) (ys ++ [x])) (hg : wx.grownBy w' vb.ownBlock) (ha : vb.ownBlock = some g ∨ wx.heap.size ≤ g) :
    Lv w n S R m S2 R2 va (.slice (some ⟨g, 0, none⟩) (ys.length + 1) cap) xs (ys ++ [x]) cs (ds ++ [c]) w' := by
  have hx0 := h
  obtain ⟨ba, a1, a2, a3⟩ := h.ra.home
  obtain ⟨bb, b1, b2, b3⟩ := h.rb.home
  obtain ⟨bx, x1, x2, x3⟩ := hx.block
  have hgo : (Value.slice (some ⟨g, 0, none⟩) (ys.length + 1) cap).ownBlock = some g := rfl
  have hgb : ∀ b, b < wx.heap.size → vb.ownBlock ≠ some b → some b ≠ some g := fun b hb hn e => by
    injection e with e
    rcases ha with h1 | h1
    · exact hn (by rw [h1, e])
    · omega
  have hall : ∀ y ∈ xs ++ ys, y.ownBlock ≠ some g := fun y hy => by
    obtain ⟨b, q1, q2⟩ : ∃ b, y.ownBlock = some b ∧ b < wx.heap.size := by
      rcases List.mem_append.1 hy with hy | hy
      · exact h.ra.has y hy
      · exact h.rb.has y hy
    rw [q1]
    exact hgb b (by omega) (fun e => (h.xa y hy).2 (by rw [q1, e]))
  have hsz := h.sb.cells.2.2.2.2.2.2
  have hself : ∀ b, b < w.heap.size + 2 → some b ≠ vb.ownBlock := fun b hb e => by rw [b1] at e; injection e with e; omega
  refine ⟨(hg.block _ (by omega) (hself w.heap.size (by omega))).trans hx0.sa, (hg.block _ (by omega) (hself (w.heap.size + 1) (by omega))).trans hx0.sb, hx0.ra.other (fun y hy => (h.xa y (List.mem_append.2 (.inl hy))).2) h.ne hg, hx0.rb.push (fun y hy => (h.xa y (List.mem_append.2 (.inr hy))).2) hx hxm ho hg, ?_, fun y hy => ?_, hx0.old.grown hg hx0.old.size (fun b hb => by rw [b1] at hb; injection hb with hb; omega)⟩
  · rw [hgo, a1]
    exact hgb ba (by omega) (by rw [b1]; intro e2; exact h.ne (by rw [a1, b1, e2]))
  · rw [hgo]
    rcases List.mem_append.1 hy with hy | hy
    · exact ⟨(h.xa y (List.mem_append.2 (.inl hy))).1, hall y (List.mem_append.2 (.inl hy))⟩
    · rcases List.mem_append.1 hy with hy | hy
      · exact ⟨(h.xa y (List.mem_append.2 (.inr hy))).1, hall y (List.mem_append.2 (.inr hy))⟩
      · rw [List.mem_singleton.1 hy]
        exact ⟨hxn, by rw [x1]; exact hgb bx x3 (by rw [← x1]; exact fun e => hxm e.symm)⟩
theorem Lv.off {F : Nat → Prop} (h : Lv w n S R m S2 R2 va vb xs ys cs ds wr) (ho : Off F wr w') (hlo : ∀ b, F b → w.heap.size + 2 ≤ b) (ha : ∀ b, (va.ownBlock = some b ∨ vb.ownBlock = some b ∨ ∃ x ∈ xs ++ ys, x.ownBlock = some b) → ¬ F b) : Lv w n S R m S2 R2 va vb xs ys cs ds w' := by
  have h1 := h.sb.cells.2.2.2.2.2.2
  have hno : ∀ b, b < w.heap.size + 2 → ¬ F b := fun b hb hf => by have := hlo b hf; omega
  have hr : ∀ (B : Nat) (v : Value) (zs : List Value) (es : List (List Nat)), (∀ b, v.ownBlock = some b → ¬ F b) → (∀ x ∈ zs, ∀ b, x.ownBlock = some b → ¬ F b) → Row B wr v zs es → Row B w' v zs es := fun B v zs es k1 k2 hR =>
    ⟨hR.own.kept (fun b hb hl => ho.block b hl (k1 b hb)) ho.size, hR.len, hR.pos, fun i hi => by
      obtain ⟨y, q1, q2⟩ := hR.at' i hi
      exact ⟨y, q1, q2.kept (fun b hb hl => ho.block b hl (k2 y (List.mem_of_getElem? q1) b hb)) ho.size⟩⟩
  refine ⟨(ho.block _ (by omega) (hno _ (by omega))).trans h.sa, (ho.block _ (by omega) (hno _ (by omega))).trans h.sb, hr _ _ _ _ (fun b hb => ha b (.inl hb)) (fun x hx b hb => ha b (.inr (.inr ⟨x, List.mem_append.2 (.inl hx), hb⟩))) h.ra, hr _ _ _ _ (fun b hb => ha b (.inr (.inl hb))) (fun x hx b hb => ha b (.inr (.inr ⟨x, List.mem_append.2 (.inr hx), hb⟩))) h.rb, h.ne, h.xa, h.old.trans (ho.below (by omega) (fun b hb => by have := hlo b hb; omega))⟩
end
/-- A table in a box of its own. -/
structure Tq (B : Nat) (wr : World) (tb gL gC : Nat) (F : Nat → Prop) (vs : Array Value) (D : List (List UInt8)) : Prop where
  t : Tbl wr gL gC F vs D
  box : wr.heap[tb]? = some (.cells #[.slice (some ⟨gL, 0, none⟩) 997 997, .slice (some ⟨gC, 0, none⟩) 1 1] 92 (0, 0))
  nb : ¬ F tb
  lo : ∀ b, F b → B ≤ b
  hi : B ≤ tb
section
variable {B tb gL gC : Nat} {F : Nat → Prop} {vs : Array Value} {D : List (List UInt8)} {w wr w' : World}
theorem Tq.lt (h : Tq B wr tb gL gC F vs D) : tb < wr.heap.size := (Array.getElem?_eq_some_iff.1 h.box).1
theorem Tq.cells (h : Tq B wr tb gL gC F vs D) : wr.cell? ⟨tb, 0, none⟩ = some (.slice (some ⟨gL, 0, none⟩) 997 997) ∧ wr.cell? ⟨tb, 1, none⟩ = some (.slice (some ⟨gC, 0, none⟩) 1 1) := by
  have hb := h.box
  constructor <;> (unfold World.cell?; rw [hb]; rfl)
theorem Tq.below (h : Tq B wr tb gL gC F vs D) (hb : Below wr.heap.size wr w') : Tq B w' tb gL gC F vs D :=
  ⟨h.t.below hb, (hb.block _ h.lt).trans h.box, h.nb, h.lo, h.hi⟩
theorem Tq.grown {g : Nat} (h : Tq B wr tb gL gC F vs D) (hg : wr.grownBy w' (some g)) (h1 : ¬ F g) (h2 : g ≠ tb) : Tq B w' tb gL gC F vs D :=
  ⟨h.t.off (Off.grown (F := fun b => b = g) hg (fun b hb => by injection hb with hb; exact hb.symm)) (fun b hf e => h1 (by rw [← e]; exact hf)), (hg.block _ h.lt (fun e => h2 (by injection e with e; exact e.symm))).trans h.box, h.nb, h.lo, h.hi⟩
theorem Tq.step {N : Nat} {str : Nat → List UInt8} {e : Ending} (h : Tq B wr tb gL gC F vs D) (hB : B ≤ wr.heap.size) (hl : LvP gL gC F D N str wr e w') :
    ∃ (x : Value) (c : List Nat) (F' : Nat → Prop) (vs' : Array Value) (E : List (List UInt8)), e = .returned x ∧ Own wr.heap.size w' x c ∧ LevN (D ++ E) N str c ∧ E.length ≤ N ∧ (∀ b, x.ownBlock = some b → ¬ F' b) ∧ (∀ b, F' b → F b ∨ wr.heap.size ≤ b) ∧ Tq B w' tb gL gC F' vs' (D ++ E) ∧ Off F wr w' := by
  obtain ⟨x, c, F', vs', E, rfl, h1, h2, h3, h4, h5, h6, h7⟩ := hl
  have := h.lt
  refine ⟨x, c, F', vs', E, rfl, h1, h3, h4, h7, h6, ⟨h2, (h5.block _ h.lt h.nb).trans h.box, fun hf => ?_, fun b hf => ?_, h.hi⟩, h5⟩
  · rcases h6 tb hf with q | q
    · exact h.nb q
    · omega
  · rcases h6 b hf with q | q
    · exact h.lo b q
    · omega
end
end Go.Proofs.YtnhlhjehocngcaaDoor
/- The reference's l7Levels. Conditions: the structures are valid, at most three pebbles and turns. -/
namespace Go.Proofs.YtnhlhjehocngcaaDoor
open Go.RowKit
set_option linter.unusedVariables false
set_option maxRecDepth 100000

/-- What a round of l7Levels keeps. -/
structure RdL (w : World) (n : Nat) (S R : ByteArray) (m : Nat) (S2 R2 : ByteArray) (va vb : Value) (xs ys : List Value) (cs ds : List (List Nat)) (tb gL gC : Nat) (F : Nat → Prop) (vs : Array Value) (D : List (List UInt8)) (wr : World) : Prop where
  l : Lv w n S R m S2 R2 va vb xs ys cs ds wr
  q : Tq (w.heap.size + 2) wr tb gL gC F vs D
  ap : ∀ b, (va.ownBlock = some b ∨ vb.ownBlock = some b ∨ ∃ x ∈ xs ++ ys, x.ownBlock = some b) → ¬ F b ∧ b ≠ tb
section
variable {w wr w' : World} {n m tb gL gC : Nat} {S R S2 R2 : ByteArray} {va vb : Value} {xs ys : List Value} {cs ds : List (List Nat)} {F : Nat → Prop} {vs : Array Value} {D : List (List UInt8)}
theorem Lv.blk (h : Lv w n S R m S2 R2 va vb xs ys cs ds wr) : ∀ b, (va.ownBlock = some b ∨ vb.ownBlock = some b ∨ ∃ x ∈ xs ++ ys, x.ownBlock = some b) → b < wr.heap.size := by
  intro b hb
  have hh : ∀ (v : Value) (k : Nat), (∃ g, v.ownBlock = some g ∧ k ≤ g ∧ g < wr.heap.size) → v.ownBlock = some b → b < wr.heap.size := fun v k ⟨g, h1, _, h2⟩ e => by rw [h1] at e; injection e with e; omega
  rcases hb with hb | hb | ⟨x, hx, hb⟩
  · exact hh va _ h.ra.home hb
  · exact hh vb _ h.rb.home hb
  · rcases List.mem_append.1 hx with hx | hx
    · obtain ⟨g, h1, h2⟩ := h.ra.has x hx
      rw [h1] at hb; injection hb with hb; omega
    · obtain ⟨g, h1, h2⟩ := h.rb.has x hx
      rw [h1] at hb; injection hb with hb; omega
theorem RdL.below (h : RdL w n S R m S2 R2 va vb xs ys cs ds tb gL gC F vs D wr) (hb : Below wr.heap.size wr w') : RdL w n S R m S2 R2 va vb xs ys cs ds tb gL gC F vs D w' := ⟨h.l.below hb, h.q.below hb, h.ap⟩
theorem RdL.step {N : Nat} {str : Nat → List UInt8} {e : Ending} (h : RdL w n S R m S2 R2 va vb xs ys cs ds tb gL gC F vs D wr) (hl : LvP gL gC F D N str wr e w') :
    ∃ (x : Value) (c : List Nat) (F' : Nat → Prop) (vs' : Array Value) (E : List (List UInt8)), e = .returned x ∧ Own 0 w' x c ∧ LevN (D ++ E) N str c ∧ E.length ≤ N ∧ (∀ b, x.ownBlock = some b → ¬ F' b ∧ b ≠ tb) ∧ x.ownBlock ≠ va.ownBlock ∧ x.ownBlock ≠ vb.ownBlock ∧ RdL w n S R m S2 R2 va vb xs ys cs ds tb gL gC F' vs' (D ++ E) w' := by
  have hw := h.l.sb.cells.2.2.2.2.2.2
  obtain ⟨x, c, F', vs', E, rfl, h1, h2, h3, h4, h5, h6, h7⟩ := h.q.step (by omega) hl
  obtain ⟨bx, x1, x2, x3⟩ := h1.block
  have hlt := h.q.lt
  have hold : ∀ b, (va.ownBlock = some b ∨ vb.ownBlock = some b ∨ ∃ x ∈ xs ++ ys, x.ownBlock = some b) → b ≠ bx := fun b hb => by
    have := h.l.blk b hb
    omega
  refine ⟨x, c, F', vs', E, rfl, h1.mono (Nat.zero_le _), h2, h3, fun b hb => ⟨h4 b hb, ?_⟩, fun e => ?_, fun e => ?_, h.l.off h7 h.q.lo (fun b hb => (h.ap b hb).1), h6, fun b hb => ⟨fun hf => ?_, (h.ap b hb).2⟩⟩
  · rw [x1] at hb; injection hb with hb; omega
  · exact hold bx (.inl (by rw [← e, x1])) rfl
  · exact hold bx (.inr (.inl (by rw [← e, x1]))) rfl
  · rcases h5 b hf with q | q
    · exact (h.ap b hb).1 q
    · have := h.l.blk b hb
      omega
theorem RdL.pushA {x : Value} {c : List Nat} {g cap : Nat} (h : RdL w n S R m S2 R2 va vb xs ys cs ds tb gL gC F vs D wr) (hx : Own 0 wr x c) (hf : ∀ b, x.ownBlock = some b → ¬ F b ∧ b ≠ tb) (hxn : x.ownBlock ≠ va.ownBlock) (hxm : x.ownBlock ≠ vb.ownBlock) (ho : OwnW (w.heap.size + 2) w' (.slice (some ⟨g, 0, none⟩) (xs.length + 1) cap) (xs ++ [x])) (hg : wr.grownBy w' va.ownBlock) (ha : va.ownBlock = some g ∨ wr.heap.size ≤ g) :
    RdL w n S R m S2 R2 (.slice (some ⟨g, 0, none⟩) (xs.length + 1) cap) vb (xs ++ [x]) ys (cs ++ [c]) ds tb gL gC F vs D w' := by
  obtain ⟨ba, a1, _, _⟩ := h.l.ra.home
  have hgk : ¬ F g ∧ g ≠ tb := by
    rcases ha with e | e
    · exact h.ap g (.inl e)
    · have := h.q.lt
      exact ⟨fun hf => by have := h.q.t.lt g hf; omega, by omega⟩
  refine ⟨h.l.pushA hx hxn hxm ho hg ha, by rw [a1] at hg; exact h.q.grown hg (h.ap ba (.inl a1)).1 (h.ap ba (.inl a1)).2, fun b hb => ?_⟩
  rcases hb with hb | hb | ⟨y, hy, hb⟩
  · have : g = b := by simpa [Value.ownBlock] using hb
    rw [← this]; exact hgk
  · exact h.ap b (.inr (.inl hb))
  · rcases List.mem_append.1 hy with hy | hy
    · rcases List.mem_append.1 hy with hy | hy
      · exact h.ap b (.inr (.inr ⟨y, List.mem_append.2 (.inl hy), hb⟩))
      · rw [List.mem_singleton.1 hy] at hb
        exact hf b hb
    · exact h.ap b (.inr (.inr ⟨y, List.mem_append.2 (.inr hy), hb⟩))
theorem RdL.pushB {x : Value} {c : List Nat} {g cap : Nat} (h : RdL w n S R m S2 R2 va vb xs ys cs ds tb gL gC F vs D wr) (hx : Own 0 wr x c) (hf : ∀ b, x.ownBlock = some b → ¬ F b ∧ b ≠ tb) (hxn : x.ownBlock ≠ va.ownBlock) (hxm : x.ownBlock ≠ vb.ownBlock) (ho : OwnW (w.heap.size + 2) w' (.slice (some ⟨g, 0, none⟩) (ys.length + 1) cap) (ys ++ [x])) (hg : wr.grownBy w' vb.ownBlock) (ha : vb.ownBlock = some g ∨ wr.heap.size ≤ g) :
    Lv w n S R m S2 R2 va (.slice (some ⟨g, 0, none⟩) (ys.length + 1) cap) xs (ys ++ [x]) cs (ds ++ [c]) w' := h.l.pushB hx hxn hxm ho hg ha
theorem RdL.new {gL gC : Nat} {B w1 : World} (h : Lv w n S R m S2 R2 va vb xs ys cs ds B) (ht : Tbl w1 gL gC F vs []) (hb : Below B.heap.size B w1) (hF : ∀ b, F b → B.heap.size ≤ b)
    (hw : Below w1.heap.size w1 w') (hbx : w'.heap[w1.heap.size]? = some (.cells #[.slice (some ⟨gL, 0, none⟩) 997 997, .slice (some ⟨gC, 0, none⟩) 1 1] 92 (0, 0))) : RdL w n S R m S2 R2 va vb xs ys cs ds w1.heap.size gL gC F vs [] w' := by
  have h1 := h.sb.cells.2.2.2.2.2.2
  have h2 := hb.size
  refine ⟨h.below (hb.trans (hw.mono h2)), ⟨ht.below hw, hbx, fun hf => by have := ht.lt _ hf; omega, fun b hf => by have := hF b hf; omega, by omega⟩, fun b hb' => ?_⟩
  have h3 := h.blk b hb'
  exact ⟨fun hf => by have := hF b hf; omega, by omega⟩
end
/-- What is known of the levels. -/
structure Lf (a b : Gs.St) (n m k t : Nat) (cs ds : List (List Nat)) : Prop where
  lc : cs.length = t + 1
  ld : ds.length = t + 1
  at' : ∀ i, i ≤ t → (cs.getD i []).length = (n + 1) ^ k ∧ (ds.getD i []).length = (m + 1) ^ k ∧ (∀ x ∈ cs.getD i [], x ≤ 1000000) ∧ (∀ x ∈ ds.getD i [], x ≤ 1000000) ∧ EqT a b n m k i (cs.getD i []) (ds.getD i [])
theorem LevN.le {D : List (List UInt8)} {N : Nat} {str : Nat → List UInt8} {c : List Nat} (h : LevN D N str c) (hD : D.length ≤ 100000) : ∀ x ∈ c, x ≤ 1000000 := fun x hx => by
  obtain ⟨i, hi, e⟩ := List.mem_iff_getElem.1 hx
  have h1 := h.2 i (by rw [← h.1]; exact hi)
  rw [show c.getD i 0 = x by rw [List.getD_eq_getElem?_getD, List.getElem?_eq_getElem hi, e]; rfl] at h1
  have := (List.getElem?_eq_some_iff.1 h1).1
  omega
theorem getD_snoc {α : Type} (L : List α) (x d : α) (i : Nat) : (L ++ [x]).getD i d = if i < L.length then L.getD i d else if i = L.length then x else d := by
  rw [List.getD_eq_getElem?_getD]
  split
  · rw [List.getElem?_append_left (by assumption), List.getD_eq_getElem?_getD]
  · split
    · subst_vars; simp
    · rw [List.getElem?_eq_none (by rw [List.length_append, List.length_singleton]; omega)]; rfl
theorem Lf.first {a b : Gs.St} {n m k : Nat} {D E : List (List UInt8)} {c d : List Nat} (hD : (D ++ E).Nodup) (hl : (D ++ E).length ≤ 100000) (h1 : LevN D ((n + 1) ^ k) (fun i => pebAt a (atL (n + 1) k i)) c) (h2 : LevN (D ++ E) ((m + 1) ^ k) (fun i => pebAt b (atL (m + 1) k i)) d) : Lf a b n m k 0 [c] [d] := by
  refine ⟨rfl, rfl, fun i hi => ?_⟩
  obtain rfl : i = 0 := by omega
  exact ⟨h1.1, h2.1, h1.more.le hl, h2.le hl, eqT_start hD h1.more h2⟩
theorem Lf.push {a b : Gs.St} {n m k t : Nat} {cs ds : List (List Nat)} {D E : List (List UInt8)} {c d : List Nat} (h : Lf a b n m k t cs ds) (hD : (D ++ E).Nodup) (hl : (D ++ E).length ≤ 100000) (h1 : LevN D ((n + 1) ^ k) (rndS n k (cs.getD t [])) c) (h2 : LevN (D ++ E) ((m + 1) ^ k) (rndS m k (ds.getD t [])) d) : Lf a b n m k (t + 1) (cs ++ [c]) (ds ++ [d]) := by
  refine ⟨by simp [h.lc], by simp [h.ld], fun i hi => ?_⟩
  rw [getD_snoc, getD_snoc, h.lc, h.ld]
  by_cases hlt : i < t + 1
  · rw [if_pos hlt, if_pos hlt]
    exact h.at' i (by omega)
  · obtain rfl : i = t + 1 := by omega
    rw [if_neg hlt, if_pos rfl, if_neg hlt, if_pos rfl]
    exact ⟨h1.1, h2.1, h1.more.le hl, h2.le hl, eqT_step hD (h.at' t (Nat.le_refl _)).2.2.2.2 h1.more h2⟩
/-- What l7Levels returns. -/
def LevAt (w : World) (v : Value) (cs : List (List Nat)) : Prop := ∃ g cap, v = .slice (some ⟨g, 0, none⟩) cs.length cap ∧ cs.length ≤ cap ∧ cap ≤ maxLen ∧ g < w.heap.size ∧ ∀ i, i < cs.length → ∃ x, w.cell? ⟨g, i, none⟩ = some x ∧ NumsAt w x (cs.getD i [])
theorem LevAt.below {w w' : World} {v : Value} {cs : List (List Nat)} (h : LevAt w v cs) (hb : Below w.heap.size w w') : LevAt w' v cs := by
  obtain ⟨g, cap, rfl, h1, h2, h3, h4⟩ := h
  refine ⟨g, cap, rfl, h1, h2, Nat.lt_of_lt_of_le h3 hb.size, fun i hi => ?_⟩
  obtain ⟨x, q1, q2⟩ := h4 i hi
  exact ⟨x, (hb.cell (p := ⟨g, i, none⟩) h3).trans q1, q2.below hb⟩
theorem Row.lev {B : Nat} {wr : World} {v : Value} {xs : List Value} {cs : List (List Nat)} (h : Row B wr v xs cs) : LevAt wr v cs := by
  obtain ⟨g, cap, rfl, h1, h2, h3, h4, h5⟩ := h.own.cells h.pos
  rw [h.len] at h3 h5
  refine ⟨g, cap, by rw [h.len], h3, h4, h2, fun i hi => ?_⟩
  obtain ⟨x, q1, q2⟩ := h.at' i hi
  exact ⟨x, (h5 i hi).trans q1, q2.nums⟩
def LevQ (a b : Gs.St) (n m k t : Nat) (w : World) (e : Ending) (w' : World) : Prop :=
  ∃ va vb cs ds, e = .returned (.tuple #[va, vb]) ∧ LevAt w' va cs ∧ LevAt w' vb ds ∧ Lf a b n m k t cs ds ∧ Below w.heap.size w w'
/-- The beginning of l7Levels. -/
structure R0 (w : World) (n : Nat) (S R : ByteArray) (m : Nat) (S2 R2 : ByteArray) (tb gL gC : Nat) (F : Nat → Prop) (vs : Array Value) (D : List (List UInt8)) (wr : World) : Prop where
  x : Bxp w wr n S R m S2 R2
  q : Tq (w.heap.size + 2) wr tb gL gC F vs D
section
variable {w wr w' : World} {n m tb gL gC : Nat} {S R S2 R2 : ByteArray} {F : Nat → Prop} {vs : Array Value} {D : List (List UInt8)}
theorem R0.below (h : R0 w n S R m S2 R2 tb gL gC F vs D wr) (hb : Below wr.heap.size wr w') : R0 w n S R m S2 R2 tb gL gC F vs D w' := ⟨h.x.below hb, h.q.below hb⟩
theorem R0.new {gL gC : Nat} {B w1 : World} (h : Bxp w B n S R m S2 R2) (ht : Tbl w1 gL gC F vs []) (hb : Below B.heap.size B w1) (hF : ∀ b, F b → B.heap.size ≤ b)
    (hw : Below w1.heap.size w1 w') (hbx : w'.heap[w1.heap.size]? = some (.cells #[.slice (some ⟨gL, 0, none⟩) 997 997, .slice (some ⟨gC, 0, none⟩) 1 1] 92 (0, 0))) : R0 w n S R m S2 R2 w1.heap.size gL gC F vs [] w' := by
  have h1 := h.b.cells.2.2.2.2.2.2
  have h2 := hb.size
  exact ⟨h.below (hb.trans (hw.mono h2)), ⟨ht.below hw, hbx, fun hf => by have := ht.lt _ hf; omega, fun b hf => by have := hF b hf; omega, by omega⟩⟩
theorem R0.step {N : Nat} {str : Nat → List UInt8} {e : Ending} (h : R0 w n S R m S2 R2 tb gL gC F vs D wr) (hl : LvP gL gC F D N str wr e w') :
    ∃ (x : Value) (c : List Nat) (F' : Nat → Prop) (vs' : Array Value) (E : List (List UInt8)), e = .returned x ∧ Own wr.heap.size w' x c ∧ LevN (D ++ E) N str c ∧ E.length ≤ N ∧ (∀ b, x.ownBlock = some b → ¬ F' b) ∧ Off F wr w' ∧ R0 w n S R m S2 R2 tb gL gC F' vs' (D ++ E) w' := by
  have h1 := h.x.b.cells.2.2.2.2.2.2
  obtain ⟨x, c, F', vs', E, rfl, q1, q2, q3, q4, q5, q6, q7⟩ := h.q.step (by omega) hl
  have hno : ∀ b, b < w.heap.size + 2 → ¬ F b := fun b hb hf => by have := h.q.lo b hf; omega
  exact ⟨x, c, F', vs', E, rfl, q1, q2, q3, q4, q7, ⟨(q7.block _ (by omega) (hno _ (by omega))).trans h.x.a, (q7.block _ h1 (hno _ (by omega))).trans h.x.b, h.x.old.trans (q7.below (by omega) (fun b hb => by have := h.q.lo b hb; omega))⟩, q6⟩
theorem R0.cells (h : R0 w n S R m S2 R2 tb gL gC F vs D wr) : wr.cell? ⟨w.heap.size, 0, none⟩ = some (.int .i64 (n : Int)) ∧ wr.cell? ⟨w.heap.size, 1, none⟩ = some (.string S) ∧ wr.cell? ⟨w.heap.size, 2, none⟩ = some (.string R) ∧ wr.cell? ⟨w.heap.size + 1, 0, none⟩ = some (.int .i64 (m : Int)) ∧ wr.cell? ⟨w.heap.size + 1, 1, none⟩ = some (.string S2) ∧ wr.cell? ⟨w.heap.size + 1, 2, none⟩ = some (.string R2) ∧ wr.cell? ⟨tb, 0, none⟩ = some (.slice (some ⟨gL, 0, none⟩) 997 997) ∧ wr.cell? ⟨tb, 1, none⟩ = some (.slice (some ⟨gC, 0, none⟩) 1 1) := by
  obtain ⟨c0, c1, c2, _⟩ := h.x.a.cells
  obtain ⟨d0, d1, d2, _⟩ := h.x.b.cells
  exact ⟨c0, c1, c2, d0, d1, d2, h.q.cells.1, h.q.cells.2⟩
end
/-- Both first levels lie in rows of their own. -/
theorem Lv.first {w w3 w5 : World} {n m tb gL gC : Nat} {S R S2 R2 : ByteArray} {F1 F2 : Nat → Prop} {vs1 vs2 : Array Value} {D1 D2 : List (List UInt8)} {x1 x2 : Value} {c1 c2 : List Nat} {B3 : Nat}
    (h3 : R0 w n S R m S2 R2 tb gL gC F1 vs1 D1 w3) (o1 : Own B3 w3 x1 c1) (hB3 : w.heap.size + 2 ≤ B3) (f1 : ∀ b, x1.ownBlock = some b → ¬ F1 b) (off : Off F1 (w3.alloc (.cells #[x1] 28)) w5)
    (h5 : R0 w n S R m S2 R2 tb gL gC F2 vs2 D2 w5) (o2 : Own (w3.heap.size + 1) w5 x2 c2) :
    Lv w n S R m S2 R2 (.slice (some ⟨w3.heap.size, 0, none⟩) 1 1) (.slice (some ⟨w5.heap.size, 0, none⟩) 1 1) [x1] [x2] [c1] [c2] (w5.alloc (.cells #[x2] 28)) := by
  have hsz := h3.x.b.cells.2.2.2.2.2.2
  have hs := off.size
  simp at hs
  have ha : OwnW (w.heap.size + 2) (w3.alloc (.cells #[x1] 28)) (.slice (some ⟨w3.heap.size, 0, none⟩) 1 1) [x1] := OwnW.one x1 (by omega)
  have ha5 := ha.kept (w' := w5) (fun b hb hl => off.block b hl (fun hf => by
    have e : w3.heap.size = b := by simpa [Value.ownBlock] using hb
    have := h3.q.t.lt b hf
    omega)) off.size
  have hb5 : OwnW (w.heap.size + 2) (w5.alloc (.cells #[x2] 28)) (.slice (some ⟨w5.heap.size, 0, none⟩) 1 1) [x2] := OwnW.one x2 (by omega)
  have hal : Below w5.heap.size w5 (w5.alloc (.cells #[x2] 28)) := (Below.refl _ _).alloc (Nat.le_refl _) _
  obtain ⟨b1, p1, p2, p3⟩ := o1.block
  obtain ⟨b2, r1, r2, r3⟩ := o2.block
  have o15 : Own 0 w5 x1 c1 := ((o1.mono (Nat.zero_le _)).alloc _).off off f1
  have h6 := h5.below hal
  refine ⟨h6.x.a, h6.x.b, ⟨ha5.below hal, rfl, by simp, fun i hi => ?_⟩, ⟨hb5, rfl, by simp, fun i hi => ?_⟩, ?_, ?_, h6.x.old⟩
  · obtain rfl : i = 0 := by simpa using hi
    exact ⟨x1, rfl, o15.below hal⟩
  · obtain rfl : i = 0 := by simpa using hi
    exact ⟨x2, rfl, (o2.mono (Nat.zero_le _)).below hal⟩
  · simp [Value.ownBlock]; omega
  · intro x hx
    simp at hx
    rcases hx with rfl | rfl
    · rw [p1]; simp [Value.ownBlock]; omega
    · rw [r1]; simp [Value.ownBlock]; omega
end Go.Proofs.YtnhlhjehocngcaaDoor
/- The reference's l7Levels, walked. Conditions: the structures are valid, at most three pebbles and turns. -/
namespace Go.Proofs.YtnhlhjehocngcaaDoor
open Go.RowKit
set_option linter.unusedVariables false
set_option maxRecDepth 100000

theorem Row.look {B g len cap i : Nat} {wr : World} {xs : List Value} {cs : List (List Nat)} (h : Row B wr (.slice (some ⟨g, 0, none⟩) len cap) xs cs) (hi : i < cs.length) : ∃ x, wr.cell? ⟨g, i, none⟩ = some x ∧ Own 0 wr x (cs.getD i []) ∧ x ∈ xs := by
  obtain ⟨g2, c2, e, h1, h2, h3, h4, h5⟩ := h.own.cells h.pos
  injection e with e1
  injection e1 with e1
  injection e1 with e1
  subst e1
  obtain ⟨x, q1, q2⟩ := h.at' i hi
  exact ⟨x, (h5 i (by rw [h.len]; exact hi)).trans q1, q2, List.mem_of_getElem? q1⟩
theorem RdL.cells {w wr : World} {n m tb gL gC : Nat} {S R S2 R2 : ByteArray} {va vb : Value} {xs ys : List Value} {cs ds : List (List Nat)} {F : Nat → Prop} {vs : Array Value} {D : List (List UInt8)} (h : RdL w n S R m S2 R2 va vb xs ys cs ds tb gL gC F vs D wr) : wr.cell? ⟨w.heap.size, 0, none⟩ = some (.int .i64 (n : Int)) ∧ wr.cell? ⟨w.heap.size, 1, none⟩ = some (.string S) ∧ wr.cell? ⟨w.heap.size, 2, none⟩ = some (.string R) ∧ wr.cell? ⟨w.heap.size + 1, 0, none⟩ = some (.int .i64 (m : Int)) ∧ wr.cell? ⟨w.heap.size + 1, 1, none⟩ = some (.string S2) ∧ wr.cell? ⟨w.heap.size + 1, 2, none⟩ = some (.string R2) ∧ wr.cell? ⟨tb, 0, none⟩ = some (.slice (some ⟨gL, 0, none⟩) 997 997) ∧ wr.cell? ⟨tb, 1, none⟩ = some (.slice (some ⟨gC, 0, none⟩) 1 1) := by
  obtain ⟨c0, c1, c2, _⟩ := h.l.sa.cells
  obtain ⟨d0, d1, d2, _⟩ := h.l.sb.cells
  exact ⟨c0, c1, c2, d0, d1, d2, h.q.cells.1, h.q.cells.2⟩
theorem step_ownW {ops : Array Oper} {o : Oper} {a : Act} {K : Act → World → Prop} {Q : Exit → Act → World → Prop} {E : Prop} {B : Nat} {w : World} {v : Value} {xs : List Value}
    (hown : OwnW B w v xs) (hL : Hid (xs.length ≤ 1000)) (hgd : o.guard = none) (s x : Operand)
    (ho : o.op = .call { callee := .builtin .append, args := #[s, x], argTypes := #[66, 66] }) (y : Value) (hy : y.oneCell' = true) (b : Nat) (hb : w.heap.size = b)
    (hs : a.eval s = v) (hx : a.eval x = .slice (some ⟨b, 0, none⟩) 1 1)
    (h : ∀ g cap w', OwnW B w' (.slice (some ⟨g, 0, none⟩) (xs.length + 1) cap) (xs ++ [y]) → w.grownBy w' v.ownBlock → (v.ownBlock = some g ∨ w.heap.size ≤ g) → g < w'.heap.size → K (a.put o.dst (.slice (some ⟨g, 0, none⟩) (xs.length + 1) cap)) w') :
    if Region.wanted o (yielded ops a.tmps) = true then Oper.wp Tryd.prog o a (w.alloc (.cells #[y] 28)) K Q else E := by
  have hL := hL.out
  subst hb
  obtain ⟨i, hi, hz, h1, h2⟩ := info_parts intsInfo
  have hbase : B ≤ w.heap.size := hown.low
  refine step_append_lies _ hgd s x 66 ho B 28 i (.slice none 0 0) 1 24 Tryd.underlying66 hi hz h1 h2 rfl (by decide) v xs.length xs hs (hown.own.alloc _) ⟨w.heap.size, 0, none⟩ 1 1 [y] hx rfl ?_ ?_ (by decide) ?_ ?_ ?_ _ rfl ?_
  · intro j u hj
    match j, hj with
    | 0, hj => simp at hj; subst hj; simp [Addr.add]
  · intro u hu
    simp at hu; subst hu; exact hy
  · unfold maxLen; omega
  · omega
  · simp; omega
  · intro g cap w' h2 h3 h4 h5
    refine h g cap w' ⟨?_, ?_⟩ ?_ ?_ h5
    · simpa using h2
    · have := h3.size
      simp at this
      omega
    · refine ⟨h3.os, h3.tape, h3.output, ?_, fun k hk hne => ?_⟩
      · have := h3.size
        simp at this
        omega
      · rw [h3.block k (by simp; omega) hne]
        exact Below.heap_alloc _ _ _ hk
    · rcases h4 with h | h
      · exact .inl h
      · exact .inr (by rw [h]; simp)
set_option maxHeartbeats 4000000 in
theorem l7Levels_any (n m k t : Nat) (S R S2 R2 : ByteArray) (w : World) (hS : S.size = n) (hR : R.size = n * n) (hS2 : S2.size = m) (hR2 : R2.size = m * m) (hn : n ≤ 8) (hm : m ≤ 8) (hk : k ≤ 3) (ht : t ≤ 3) :
    Calls Tryd.prog 45 #[strV n S R, strV m S2 R2, .int .i64 (k : Int), .int .i64 (t : Int)] w (LevQ (stOf n S R) (stOf m S2 R2) n m k t w) := by
  have HT := Lib.hid (Bxp.new w n S R m S2 R2)
  have hsz : (boxS (boxS w n S R) m S2 R2).heap.size = w.heap.size + 2 := by rw [boxS_size, boxS_size]
  obtain ⟨W, hW⟩ : ∃ W, boxS (boxS w n S R) m S2 R2 = W := ⟨_, rfl⟩
  rw [hW] at HT hsz
  unfold boxS at hW
  have HW := Lib.hid hW
  have HSZ := Lib.hid hsz
  clear hW hsz
  have HNEW := Lib.hid (fun w => l5New_any w)
  have HSA := Lib.hid (fun gL gC F vs D W (hT : Tbl W gL gC F vs D) (hD : D.length ≤ 100000) => l7Start_any gL gC n k F vs D S R W hT hD hS hR hn hk)
  have HSB := Lib.hid (fun gL gC F vs D W (hT : Tbl W gL gC F vs D) (hD : D.length ≤ 100000) => l7Start_any gL gC m k F vs D S2 R2 W hT hD hS2 hR2 hm hk)
  have HPN := Lib.hid (pw_le hn hk)
  have HPM := Lib.hid (pw_le hm hk)
  have HK := Lib.hid (And.intro hn (And.intro hm hk))
  have HRA := Lib.hid (fun gL gC F vs D v C W (hT : Tbl W gL gC F vs D) (hD : D.length ≤ 100000) (hv : Own 0 W v C) (hvF : ∀ b, v.ownBlock = some b → ¬ F b) (hC : C.length = (n + 1) ^ k) (hCb : ∀ x ∈ C, x ≤ 1000000) => l7Round_any gL gC n k 0 F vs D S R v C W hT hD hn hk hv hvF hC hCb)
  have HRB := Lib.hid (fun gL gC F vs D v C W (hT : Tbl W gL gC F vs D) (hD : D.length ≤ 100000) (hv : Own 0 W v C) (hvF : ∀ b, v.ownBlock = some b → ¬ F b) (hC : C.length = (m + 1) ^ k) (hCb : ∀ x ∈ C, x ≤ 1000000) => l7Round_any gL gC m k 0 F vs D S2 R2 v C W hT hD hm hk hv hvF hC hCb)
  unfold strV tblV at HSA HSB HRA HRB
  clear hS hR hS2 hR2 hn hm hk
  unfold strV
  go_enter Tryd.func45, Tryd.ntmps45
  go_upto_region 1 with fail
  rw [HW.out]
  go_wp2_with fail
  refine (HNEW.out _).mono ?_; rintro e w1 ⟨gL, gC, F, vs, rfl, hT, hb, hF⟩
  have HN1 := Lib.hid (And.intro hT (And.intro hb hF))
  clear hT hb hF
  unfold tblV
  go_upto_region 2 with fail
  obtain ⟨w2, hw2⟩ : ∃ w2, w1.alloc (.cells #[.slice (some ⟨gL, 0, none⟩) 997 997, .slice (some ⟨gC, 0, none⟩) 1 1] 92) = w2 := ⟨_, rfl⟩
  have HR2 : Hid (R0 w n S R m S2 R2 w1.heap.size gL gC F vs [] w2) := by
    rw [← hw2]
    exact R0.new HT.out HN1.out.1 HN1.out.2.1 HN1.out.2.2 ((Below.refl _ _).alloc (Nat.le_refl _) _) (heap_alloc_new w1 _)
  rw [hw2]
  clear hw2 HN1 HW HSZ HT
  obtain ⟨tb, htb⟩ : ∃ tb, w1.heap.size = tb := ⟨_, rfl⟩
  rw [htb] at HR2 ⊢
  clear htb
  obtain ⟨c0, c1, c2, d0, d1, d2, e0, e1⟩ := HR2.out.cells
  go_wp2_with fail
  refine (HSA.out gL gC F vs [] _ HR2.out.q.t (by simp)).mono ?_; rintro e w3 hq
  obtain ⟨x1, l1, F1, vs1, E1, rfl, q1, q2, q3, q4, q5, q6⟩ := HR2.out.step hq
  obtain ⟨g1, cap1, rfl, -⟩ := q1.cells
  generalize l1.length = ln1 at *
  have HR3 : Hid (R0 w n S R m S2 R2 tb gL gC F1 vs1 ([] ++ E1) w3 ∧ w.heap.size + 2 ≤ w2.heap.size) := ⟨q6, by have := HR2.out.x.b.cells.2.2.2.2.2.2; omega⟩
  have HX1 : Hid (Own w2.heap.size w3 (.slice (some ⟨g1, 0, none⟩) ln1 cap1) l1 ∧ LevN ([] ++ E1) ((n + 1) ^ k) (fun i => pebAt (stOf n S R) (atL (n + 1) k i)) l1 ∧ E1.length ≤ 729 ∧ ∀ b, (Value.slice (some ⟨g1, 0, none⟩) ln1 cap1).ownBlock = some b → ¬ F1 b) := ⟨q1, q2, Nat.le_trans q3 HPN.out, q4⟩
  clear hq q1 q2 q3 q4 q5 q6 c0 c1 c2 d0 d1 d2 e0 e1
  have HR4 := Lib.hid (HR3.out.1.below ((Below.refl _ _).alloc (Nat.le_refl _) (.cells #[.slice (some ⟨g1, 0, none⟩) ln1 cap1] 28)))
  go_upto_region 3 with fail
  obtain ⟨c0, c1, c2, d0, d1, d2, e0, e1⟩ := HR4.out.cells
  go_wp2_with fail
  refine (HSB.out gL gC F1 vs1 _ _ HR4.out.q.t (by have := HX1.out.2.2.1; simp; omega)).mono ?_; rintro e w5 hq
  obtain ⟨x2, l2, F2, vs2, E2, rfl, q1, q2, q3, q4, q5, q6⟩ := HR4.out.step hq
  obtain ⟨g2, cap2, rfl, -⟩ := q1.cells
  generalize l2.length = ln2 at *
  have HLV : Hid (Lv w n S R m S2 R2 (.slice (some ⟨w3.heap.size, 0, none⟩) 1 1) (.slice (some ⟨w5.heap.size, 0, none⟩) 1 1) [.slice (some ⟨g1, 0, none⟩) ln1 cap1] [.slice (some ⟨g2, 0, none⟩) ln2 cap2] [l1] [l2] (w5.alloc (.cells #[.slice (some ⟨g2, 0, none⟩) ln2 cap2] 28))) := Lv.first HR3.out.1 HX1.out.1 HR3.out.2 HX1.out.2.2.2 q5 q6 (by simpa using q1)
  have HLF : Hid (Lf (stOf n S R) (stOf m S2 R2) n m k 0 [l1] [l2]) := Lf.first q6.q.t.nodup (by have := HX1.out.2.2.1; have := HPM.out; simp; omega) HX1.out.2.1 q2
  clear hq q1 q2 q3 q4 q5 q6 c0 c1 c2 d0 d1 d2 e0 e1 HR4 HR3 HR2 HX1
  go_upto_region 4 with fail
  obtain ⟨w6, hw6⟩ : ∃ w6, w5.alloc (.cells #[.slice (some ⟨g2, 0, none⟩) ln2 cap2] 28) = w6 := ⟨_, rfl⟩
  rw [hw6] at HLV ⊢
  clear hw6
  generalize w3.heap.size = h3 at *
  generalize w5.heap.size = h5 at *
  go_wp2_with fail
  go_loopw [11, 12, 13] (fun va vb q wr => ∃ i : Nat, i ≤ t ∧ q = .int .i64 (i : Int) ∧ Hid (∃ xs ys cs ds, Lv w n S R m S2 R2 va vb xs ys cs ds wr ∧ Lf (stOf n S R) (stOf m S2 R2) n m k i cs ds)) (fun _ _ q _ => t - (intOf q).toNat)
  case atStart => exact ⟨0, by omega, rfl, _, _, _, _, HLV.out, HLF.out⟩
  case round =>
    clear HLV HLF HSA HSB
    obtain ⟨i, hi, rfl, HX⟩ := hrel
    by_cases hlt : i < t
    · obtain ⟨xs, ys, cs, ds, hLV, hLF⟩ := HX.out
      obtain ⟨ga, capa, rfl, -⟩ := hLV.ra.own.cells hLV.ra.pos
      obtain ⟨gb, capb, rfl, -⟩ := hLV.rb.own.cells hLV.rb.pos
      have hxl : xs.length = i + 1 := by rw [hLV.ra.len, hLF.lc]
      have hyl : ys.length = i + 1 := by rw [hLV.rb.len, hLF.ld]
      rw [hxl, hyl] at hLV ⊢
      have HXL : Hid (xs.length = i + 1 ∧ ys.length = i + 1) := ⟨hxl, hyl⟩
      have HLV := Lib.hid hLV
      have HLF := Lib.hid hLF
      clear hLV hLF HX hxl hyl
      have hiI : (i : Int) < (t : Int) := by omega
      have htI : (t : Int) ≤ 3 := by omega
      go_wp2_with fail
      refine (HNEW.out _).mono ?_; rintro e w1 ⟨gL, gC, F, vs, rfl, hT, hb, hF⟩
      have HN1 := Lib.hid (And.intro hT (And.intro hb hF))
      clear hT hb hF
      unfold tblV
      go_upto_region 8 with fail
      obtain ⟨w2, hw2⟩ : ∃ w2, w1.alloc (.cells #[.slice (some ⟨gL, 0, none⟩) 997 997, .slice (some ⟨gC, 0, none⟩) 1 1] 92) = w2 := ⟨_, rfl⟩
      have HR2 : Hid (RdL w n S R m S2 R2 (.slice (some ⟨ga, 0, none⟩) (i + 1) capa) (.slice (some ⟨gb, 0, none⟩) (i + 1) capb) xs ys cs ds w1.heap.size gL gC F vs [] w2) := by
        rw [← hw2]
        exact RdL.new HLV.out HN1.out.1 HN1.out.2.1 HN1.out.2.2 ((Below.refl _ _).alloc (Nat.le_refl _) _) (heap_alloc_new w1 _)
      rw [hw2]
      clear hw2 HN1 HLV
      obtain ⟨tb, htb⟩ : ∃ tb, w1.heap.size = tb := ⟨_, rfl⟩
      rw [htb] at HR2 ⊢
      clear htb
      obtain ⟨c0, c1, c2, d0, d1, d2, e0, e1⟩ := HR2.out.cells
      obtain ⟨xi, x0, x1, x2⟩ := HR2.out.l.ra.look (i := i) (by rw [HLF.out.lc]; omega)
      have HXI : Hid (Own 0 w2 xi (cs.getD i []) ∧ ∀ b, xi.ownBlock = some b → ¬ F b) := ⟨x1, fun b hb => (HR2.out.ap b (.inr (.inr ⟨xi, List.mem_append.2 (.inl x2), hb⟩))).1⟩
      clear x1 x2
      have HX1 : Hid (xs.length ≤ 1000 ∧ ys.length ≤ 1000) := by have := HXL.out; exact ⟨by omega, by omega⟩
      go_cut [11] (fun va wx => ∃ g cap, va = .slice (some ⟨g, 0, none⟩) (i + 1 + 1) cap ∧ Hid (∃ x1 l1 F1 vs1 E1, RdL w n S R m S2 R2 va (.slice (some ⟨gb, 0, none⟩) (i + 1) capb) (xs ++ [x1]) ys (cs ++ [l1]) ds tb gL gC F1 vs1 ([] ++ E1) wx ∧ LevN ([] ++ E1) ((n + 1) ^ k) (rndS n k (cs.getD i [])) l1 ∧ E1.length ≤ (n + 1) ^ k))
      case first =>
        have HRD := Lib.hid (HR2.out.below (Below.refl _ _).drew)
        have HCL := Lib.hid (HRA.out gL gC F vs [] xi (cs.getD i []) w2.drew HRD.out.q.t (by simp) (HXI.out.1.below (Below.refl _ _).drew) HXI.out.2 (HLF.out.at' i (Nat.le_refl _)).1 (HLF.out.at' i (Nat.le_refl _)).2.2.1)
        have hii : (i : Int) < (i : Int) + 1 := by omega
        go_region_law (first
          | (refine step_ownW HR3.out.l.ra.own HXL1 rfl (.tmp 32) (.tmp 41) rfl (.slice (some ⟨g1, 0, none⟩) ln1 cap1) rfl _ rfl rfl rfl ?_; intro g cap w4 ho hg ha hgl; have HR4 := Lib.hid (HR3.out.pushA HX3.out.1 HX3.out.2.1 HX3.out.2.2.1 HX3.out.2.2.2.1 ho hg ha); clear ho hg ha hgl)
          | (go_simp; go_at_call 68; refine HCL.out.mono ?_; rintro e w3 hq; obtain ⟨x1, l1, F1, vs1, E1, rfl, q1, q2, q3, q4, q5, q6, q7⟩ := HRD.out.step hq; obtain ⟨g1, cap1, rfl, -⟩ := q1.cells; have HXL1 : Hid (xs.length ≤ 1000) := HX1.out.1; generalize l1.length = ln1 at *; have HR3 := Lib.hid q7; have HX3 := Lib.hid (And.intro q1 (And.intro q4 (And.intro q5 (And.intro q6 (And.intro q2 q3))))); clear hq q1 q2 q3 q4 q5 q6 q7))
        all_goals
          have HXE : Hid (xs.length + 1 = i + 1 + 1) := by have := HXL.out.1; show _ = _; omega
          have HQ : Hid (∃ x1 l1 F1 vs1 E1, RdL w n S R m S2 R2 (.slice (some ⟨g, 0, none⟩) (i + 1 + 1) cap) (.slice (some ⟨gb, 0, none⟩) (i + 1) capb) (xs ++ [x1]) ys (cs ++ [l1]) ds tb gL gC F1 vs1 ([] ++ E1) w4 ∧ LevN ([] ++ E1) ((n + 1) ^ k) (rndS n k (cs.getD i [])) l1 ∧ E1.length ≤ (n + 1) ^ k) := ⟨_, _, _, _, _, by rw [← HXE.out]; exact HR4.out, HX3.out.2.2.2.2.1, HX3.out.2.2.2.2.2⟩
          rw [HXE.out]
          clear HR4 HX3 HR3 HX1 HRD HCL
          go_wp2_with fail
          go_meet
          exact ⟨g, cap, rfl, HQ⟩
      case rest =>
        obtain ⟨gn, capn, rfl, HQ⟩ := hcut
        clear HR2 HXI c0 c1 c2 d0 d1 d2 e0 e1 x0
        go_upto_region 9 with fail
        go_cut [12] (fun vb wx => ∃ g cap, vb = .slice (some ⟨g, 0, none⟩) (i + 1 + 1) cap ∧ Hid (∃ xs ys cs ds, Lv w n S R m S2 R2 (.slice (some ⟨gn, 0, none⟩) (i + 1 + 1) capn) vb xs ys cs ds wx ∧ Lf (stOf n S R) (stOf m S2 R2) n m k (i + 1) cs ds))
        case first =>
          obtain ⟨xn, ln, Fn, vn, En, hRn, hLn, hEn⟩ := HQ.out
          have HRD := Lib.hid (hRn.below (Below.refl _ _).drew)
          have HLN := Lib.hid (And.intro hLn hEn)
          obtain ⟨c0, c1, c2, d0, d1, d2, e0, e1⟩ := hRn.cells
          obtain ⟨yi, y0, y1, y2⟩ := hRn.l.rb.look (i := i) (by rw [HLF.out.ld]; omega)
          have HYI : Hid (Own 0 wc yi (ds.getD i []) ∧ ∀ b, yi.ownBlock = some b → ¬ Fn b) := ⟨y1, fun b hb => (hRn.ap b (.inr (.inr ⟨yi, List.mem_append.2 (.inr y2), hb⟩))).1⟩
          clear hRn hLn hEn y1 y2 HQ
          have HCL := Lib.hid (HRB.out gL gC Fn vn ([] ++ En) yi (ds.getD i []) wc.drew HRD.out.q.t (by have := HLN.out.2; have := HPN.out; simp; omega) (HYI.out.1.below (Below.refl _ _).drew) HYI.out.2 (HLF.out.at' i (Nat.le_refl _)).2.1 (HLF.out.at' i (Nat.le_refl _)).2.2.2.1)
          have hii : (i : Int) < (i : Int) + 1 := by omega
          go_region_law (first
            | (refine step_ownW HR3.out.l.rb.own HXL1 rfl (.tmp 43) (.tmp 52) rfl (.slice (some ⟨g1, 0, none⟩) ln1 cap1) rfl _ rfl rfl rfl ?_; intro g cap w4 ho hg ha hgl; have HR4 := Lib.hid (And.intro (HR3.out.pushB HX3.out.1 HX3.out.2.1 HX3.out.2.2.1 HX3.out.2.2.2.1 ho hg ha) HR3.out.q.t.nodup); clear ho hg ha hgl)
            | (go_simp; go_at_call 68; refine HCL.out.mono ?_; rintro e w3 hq; obtain ⟨x1, l1, F1, vs1, E1, rfl, q1, q2, q3, q4, q5, q6, q7⟩ := HRD.out.step hq; obtain ⟨g1, cap1, rfl, -⟩ := q1.cells; have HXL1 : Hid (ys.length ≤ 1000) := (by have := HXL.out.2; show _ ≤ _; omega); generalize l1.length = ln1 at *; have HR3 := Lib.hid q7; have HX3 := Lib.hid (And.intro q1 (And.intro q4 (And.intro q5 (And.intro q6 (And.intro q2 q3))))); clear hq q1 q2 q3 q4 q5 q6 q7))
          all_goals
            have HXE : Hid (ys.length + 1 = i + 1 + 1) := by have := HXL.out.2; show _ = _; omega
            have HQ2 : Hid (∃ xs ys cs ds, Lv w n S R m S2 R2 (.slice (some ⟨gn, 0, none⟩) (i + 1 + 1) capn) (.slice (some ⟨g, 0, none⟩) (i + 1 + 1) cap) xs ys cs ds w4 ∧ Lf (stOf n S R) (stOf m S2 R2) n m k (i + 1) cs ds) := ⟨_, _, _, _, by have h9 := HR4.out.1; rw [HXE.out] at h9; exact h9, HLF.out.push HR4.out.2 (by have := HLN.out.2; have := HX3.out.2.2.2.2.2; have := HPN.out; have := HPM.out; simp; omega) HLN.out.1 HX3.out.2.2.2.2.1⟩
            rw [HXE.out]
            clear HR4 HX3 HR3 HRD HCL HLN
            go_wp2_with fail
            go_meet
            exact ⟨g, cap, rfl, HQ2⟩
        case rest =>
          obtain ⟨gm, capm, rfl, HQ2⟩ := hcut
          clear HQ HLF
          have ht4 : ¬ ((4 : Int) < (t : Int)) := by omega
          go_upto_region 10 with fail
          go_quiet (fail)
          have HQ3 : Hid (∃ xs ys cs ds, Lv w n S R m S2 R2 (.slice (some ⟨gn, 0, none⟩) (i + 1 + 1) capn) (.slice (some ⟨gm, 0, none⟩) (i + 1 + 1) capm) xs ys cs ds (wc.drewN nq) ∧ Lf (stOf n S R) (stOf m S2 R2) n m k (i + 1) cs ds) := by
            obtain ⟨xs, ys, cs, ds, h1, h2⟩ := HQ2.out
            exact ⟨xs, ys, cs, ds, h1.below (below_drewQ (Below.refl _ _) nq), h2⟩
          clear HQ2
          go_wp2_with fail
          go_roundw
          case rel => exact ⟨i + 1, by omega, by go_num, HQ3⟩
          case measure => simp [intOf]; omega
    · obtain rfl : i = t := by omega
      obtain ⟨xs, ys, cs, ds, hLV, hLF⟩ := HX.out
      have HF : Hid (LevQ (stOf n S R) (stOf m S2 R2) n m k i w (.returned (.tuple #[u11, u12])) wr) := ⟨_, _, cs, ds, rfl, hLV.ra.lev, hLV.rb.lev, hLF, hLV.old⟩
      clear hLV hLF HX
      go_wp2_with fail
      go_ret2
      exact HF.out
end Go.Proofs.YtnhlhjehocngcaaDoor
/- The reference's l7Wins. Conditions: the structures are valid, the pebbles fit, at most three turns. -/
namespace Go.Proofs.YtnhlhjehocngcaaDoor
open Go.RowKit
set_option linter.unusedVariables false
set_option maxRecDepth 100000

/-- A number of a level. -/
theorem LevAt.look {w : World} {v : Value} {cs : List (List Nat)} (h : LevAt w v cs) {i j : Nat} (hi : i < cs.length) (hj : j < (cs.getD i []).length) :
    ∃ g cap g2 o cap2, v = .slice (some ⟨g, 0, none⟩) cs.length cap ∧ w.cell? ⟨g, i, none⟩ = some (.slice (some ⟨g2, o, none⟩) (cs.getD i []).length cap2) ∧ w.cell? ⟨g2, o + j, none⟩ = some (.int .i64 (((cs.getD i []).getD j 0 : Nat) : Int)) := by
  obtain ⟨g, cap, rfl, _, _, _, h4⟩ := h
  obtain ⟨x, q1, q2⟩ := h4 i hi
  rcases q2 with ⟨rfl, e⟩ | ⟨g2, o, cap2, rfl, _, _, _, hc⟩
  · rw [e] at hj; simp at hj
  · exact ⟨g, cap, g2, o, cap2, rfl, q1, hc j hj⟩
set_option maxHeartbeats 2000000 in
theorem l7Wins_any (n m t : Nat) (S R S2 R2 : ByteArray) (L M : List Int) (v u : Value) (w : World) (hS : S.size = n) (hR : R.size = n * n) (hS2 : S2.size = m) (hR2 : R2.size = m * m) (hn : n ≤ 8) (hm : m ≤ 8) (hk : L.length ≤ 3) (hl : M.length = L.length) (ht : t ≤ 3) (hv : IntsAt w v L) (hu : IntsAt w u M) (hp : Pbs n L) (hq : Pbs m M) (hs : ∀ j : Nat, (L.getD j 0 < 0) ↔ (M.getD j 0 < 0)) :
    Calls Tryd.prog 44 #[strV n S R, v, strV m S2 R2, u, .int .i64 (t : Int)] w fun e w' => e = .returned (.bool (pwB (stOf n S R) (stOf m S2 R2) n m t L M)) ∧ Below w.heap.size w w' := by
  have HT := Lib.hid (Bxp.new w n S R m S2 R2)
  obtain ⟨W, hW⟩ : ∃ W, boxS (boxS w n S R) m S2 R2 = W := ⟨_, rfl⟩
  rw [hW] at HT
  unfold boxS at hW
  have HW := Lib.hid hW
  clear hW
  have HLV := Lib.hid (fun W => l7Levels_any n m L.length t S R S2 R2 W hS hR hS2 hR2 hn hm hk ht)
  have HIA := Lib.hid (fun (W : World) (hb : Below w.heap.size w W) => l7Index_any n S R L v W hn hk (hv.below hb) hp)
  have HIB := Lib.hid (fun (W : World) (hb : Below w.heap.size w W) => l7Index_any m S2 R2 M u W hm (by omega) (hu.below hb) hq)
  have HXA := Lib.hid (ixL_lt L.length rfl hp)
  have HXB := Lib.hid (ixL_lt L.length hl hq)
  have HEQ := Lib.hid (fun (cs ds : List (List Nat)) (h : Lf (stOf n S R) (stOf m S2 R2) n m L.length t cs ds) => (h.at' t (Nat.le_refl _)).2.2.2.2 L M hp hq rfl hl hs)
  have HPN := Lib.hid (pw_le hn hk)
  have HPM := Lib.hid (pw_le hm hk)
  obtain ⟨RV, hRV⟩ : ∃ r, pwB (stOf n S R) (stOf m S2 R2) n m t L M = r := ⟨_, rfl⟩
  rw [hRV] at HEQ ⊢
  obtain ⟨a1, ca, rfl, hv1, hv2, _⟩ := hv.view
  obtain ⟨b1, cb, rfl, _, _, _⟩ := hu.view
  clear hRV hS hR hS2 hR2 hn hm hp hq hs hv hu hl
  unfold strV at HLV HIA HIB
  unfold strV
  go_enter Tryd.func44, Tryd.ntmps44
  go_upto_region 1 with fail
  rw [HW.out]
  obtain ⟨c0, c1, c2, _⟩ := HT.out.a.cells
  obtain ⟨d0, d1, d2, _⟩ := HT.out.b.cells
  go_wp2_with fail
  refine (HLV.out _).mono ?_; rintro e w1 ⟨va, vb, cs, ds, rfl, hA, hB, hF, hb⟩
  have HT1 := Lib.hid (HT.out.below hb)
  have HFE := Lib.hid (HEQ.out cs ds hF)
  obtain ⟨f1, f2, _⟩ := hF.at' t (Nat.le_refl _)
  obtain ⟨ga, capa, g1, o1, cap1, rfl, x0, x1⟩ := hA.look (i := t) (j := ixL (n + 1) L) (by rw [hF.lc]; omega) (by rw [f1]; exact HXA.out)
  obtain ⟨gb, capb, g2, o2, cap2, rfl, y0, y1⟩ := hB.look (i := t) (j := ixL (m + 1) M) (by rw [hF.ld]; omega) (by rw [f2]; exact HXB.out)
  rw [f1] at x0
  rw [f2] at y0
  rw [hF.lc, hF.ld]
  clear hA hB hF hb f1 f2 c0 c1 c2 d0 d1 d2
  obtain ⟨c0, c1, c2, _⟩ := HT1.out.a.cells
  obtain ⟨d0, d1, d2, _⟩ := HT1.out.b.cells
  have J1 : Hid (∀ z : Since w1, _) := fun z => HIA.out z.w (HT1.out.old.trans (z.below.mono HT1.out.old.size))
  have J2 : Hid (∀ z : Since w1, _) := fun z => HIB.out z.w (HT1.out.old.trans (z.below.mono HT1.out.old.size))
  have hxa := HXA.out
  have hxb := HXB.out
  have hpn := HPN.out
  have hpm := HPM.out
  generalize (n + 1) ^ L.length = N at *
  generalize (m + 1) ^ L.length = N2 at *
  generalize ixL (n + 1) L = ia at *
  generalize ixL (m + 1) M = ib at *
  generalize (cs.getD t []).getD ia 0 = cN at *
  generalize (ds.getD t []).getD ib 0 = dN at *
  have h1 : (ia : Int) < (N : Int) := by omega
  have h2 : (ib : Int) < (N2 : Int) := by omega
  have h3 : (ia : Int) ≤ 729 := by omega
  have h4 : (ib : Int) ≤ 729 := by omega
  have htI : (t : Int) ≤ 3 := by omega
  have htt : (t : Int) < (t : Int) + 1 := by omega
  have ht1 : (t : Int) + 1 - 1 = (t : Int) := by omega
  have HO := Lib.hid HT1.out.old
  clear hpn hpm hxa hxb
  go_wp2_with fail
  have p0 := fun s => Since.cell c0 s
  have p1 := fun s => Since.cell c1 s
  have p2 := fun s => Since.cell c2 s
  have p3 := fun s => Since.cell d0 s
  have p4 := fun s => Since.cell d1 s
  have p5 := fun s => Since.cell d2 s
  have p6 := fun s => Since.cell x0 s
  have p7 := fun s => Since.cell x1 s
  have p8 := fun s => Since.cell y0 s
  have p9 := fun s => Since.cell y1 s
  refine wp_region_since (by kernel_rfl) (by kernel_rfl) ?_
  repeat (go_big_quiet_step (first | (with_reducible exact Since.call (J1.out _)) | (with_reducible exact Since.call (J2.out _))))
  refine wpQuiet_nil ?_
  intro w9 hb9
  have HO9 := Lib.hid (HO.out.trans (hb9.mono HO.out.size))
  clear hb9 p0 p1 p2 p3 p4 p5 p6 p7 p8 p9
  go_wp2_with fail
  go_ret
  have hR : decide ((cN : Int) = (dN : Int)) = RV := by
    have h := HFE.out
    cases RV
    · rw [decide_eq_false_iff_not]; intro e; have := h.1 (by omega); cases this
    · rw [decide_eq_true_iff]; have := h.2 rfl; omega
  refine ⟨?_, HO9.out⟩
  rw [← hR]
  rfl
end Go.Proofs.YtnhlhjehocngcaaDoor
/- The reference's l7Turned. No condition. -/
namespace Go.Proofs.YtnhlhjehocngcaaDoor
open Go.RowKit
set_option linter.unusedVariables false
set_option maxRecDepth 100000

/-- What the reference's formula is told. -/
def l7V (n : Nat) (S R : ByteArray) (m : Nat) (S2 R2 : ByteArray) (va vb : Value) : Value := .agg #[.int .i64 (n : Int), .string S, .string R, .int .i64 (m : Int), .string S2, .string R2, va, vb]
theorem tellInfo : (Tryd.prog.info? 71).map (·.size) = some 8 := by kernel_rfl
set_option maxHeartbeats 1000000 in
theorem l7Turned_any (n m : Nat) (S R S2 R2 : ByteArray) (g h p q c d : Nat) (w : World) : Calls Tryd.prog 72 #[l7V n S R m S2 R2 (.slice (some ⟨g, 0, none⟩) p c) (.slice (some ⟨h, 0, none⟩) q d)] w fun e w' => e = .returned (l7V m S2 R2 n S R (.slice (some ⟨h, 0, none⟩) q d) (.slice (some ⟨g, 0, none⟩) p c)) ∧ Below w.heap.size w w' := by
  unfold l7V
  go_enter Tryd.func72, Tryd.ntmps72
  go_wp2_with fail
  have hr := heap_alloc_new (w.alloc (.cells #[.int .i64 (n : Int), .string S, .string R, .int .i64 (m : Int), .string S2, .string R2, .slice (some ⟨g, 0, none⟩) p c, .slice (some ⟨h, 0, none⟩) q d] 71)) (.cells #[.int .i64 (m : Int), .string S2, .string R2, .int .i64 (n : Int), .string S, .string R, .slice (some ⟨h, 0, none⟩) q d, .slice (some ⟨g, 0, none⟩) p c] 71)
  rw [show (w.alloc (.cells #[.int .i64 (n : Int), .string S, .string R, .int .i64 (m : Int), .string S2, .string R2, .slice (some ⟨g, 0, none⟩) p c, .slice (some ⟨h, 0, none⟩) q d] 71)).heap.size = w.heap.size + 1 by simp] at hr
  refine bodyPost_ret (v := .agg #[.int .i64 (m : Int), .string S2, .string R2, .int .i64 (n : Int), .string S, .string R, .slice (some ⟨h, 0, none⟩) q d, .slice (some ⟨g, 0, none⟩) p c]) ?_ rfl ⟨rfl, ((Below.refl _ _).alloc (Nat.le_refl _) _).alloc (by simp) _⟩
  exact results_cell_row rfl _ _ (w.heap.size + 1) 71 #[.int .i64 (m : Int), .string S2, .string R2, .int .i64 (n : Int), .string S, .string R, .slice (some ⟨h, 0, none⟩) q d, .slice (some ⟨g, 0, none⟩) p c] (0, 0) _ rfl hr Tryd.underlying71 rfl tellInfo
end Go.Proofs.YtnhlhjehocngcaaDoor
/- Plainly: pebbles fit exactly if no atom tells them apart. No condition. -/
namespace Go.Proofs.YtnhlhjehocngcaaDoor
open Go.RowKit
set_option linter.unusedVariables false
set_option maxRecDepth 100000

theorem zip_lay {Q : Nat → Nat → Prop} : ∀ {L M : List Int}, L.length = M.length → (∀ j : Nat, (L.getD j 0 < 0) ↔ (M.getD j 0 < 0)) → ((∀ p ∈ (layN L).zip (layN M), Q p.1 p.2) ↔ ∀ k, k < L.length → 0 ≤ L.getD k 0 → Q (elB L k) (elB M k))
  | [], [], _, _ => by simp [layN]
  | [], _ :: _, h, _ => by simp at h
  | _ :: _, [], h, _ => by simp at h
  | x :: L, y :: M, h, hs => by
    have ih := zip_lay (Q := Q) (L := L) (M := M) (by simpa using h) (fun j => by simpa using hs (j + 1))
    have h0 : x < 0 ↔ y < 0 := by simpa using hs 0
    have hk : (∀ k, k < (x :: L).length → 0 ≤ (x :: L).getD k 0 → Q (elB (x :: L) k) (elB (y :: M) k)) ↔ (0 ≤ x → Q x.toNat y.toNat) ∧ ∀ k, k < L.length → 0 ≤ L.getD k 0 → Q (elB L k) (elB M k) := by
      constructor
      · intro hh
        refine ⟨fun hx => ?_, fun k hk hp => ?_⟩
        · have := hh 0 (by simp) (by simpa using hx)
          simpa [elB] using this
        · have := hh (k + 1) (by simpa using hk) (by simpa using hp)
          simpa [elB] using this
      · rintro ⟨h1, h2⟩ k hk hp
        cases k with
        | zero => simpa [elB] using h1 (by simpa using hp)
        | succ k => simpa [elB] using h2 k (by simpa using hk) (by simpa using hp)
    rw [hk, layN_cons, layN_cons]
    by_cases hx : 0 ≤ x
    · rw [if_pos hx, if_pos (show 0 ≤ y by omega), List.zip_cons_cons, ← ih]
      constructor
      · intro hh
        exact ⟨fun _ => hh (x.toNat, y.toNat) (by simp), fun p hp => hh p (by simp [hp])⟩
      · rintro ⟨h1, h2⟩ p hp
        rcases List.mem_cons.1 hp with rfl | hp
        · exact h1 hx
        · exact h2 p hp
    · rw [if_neg hx, if_neg (show ¬ 0 ≤ y by omega), ih]
      constructor
      · intro hh; exact ⟨fun h => absurd h hx, hh⟩
      · rintro ⟨_, h2⟩; exact h2
theorem fa3_none {a b : Gs.St} {L M : List Int} {i k : Nat} (h0 : 0 ≤ L.getD i 0) (hsi : L.getD i 0 < 0 ↔ M.getD i 0 < 0) (hsk : L.getD k 0 < 0 ↔ M.getD k 0 < 0) : fa3 a b L M i k = none ↔ (0 ≤ L.getD k 0 → ((elB L k = elB L i ↔ elB M k = elB M i) ∧ a.r (elB L k) (elB L i) = b.r (elB M k) (elB M i) ∧ a.r (elB L i) (elB L k) = b.r (elB M i) (elB M k))) := by
  by_cases hk : L.getD k 0 < 0
  · unfold fa3
    rw [if_pos hk]
    simp
    intro h
    rw [List.getD_eq_getElem?_getD] at hk
    omega
  · have e1 : decide (L.getD k 0 = L.getD i 0) = decide (elB L k = elB L i) := by
      rw [decide_eq_decide]; unfold elB; omega
    have e2 : decide (M.getD k 0 = M.getD i 0) = decide (elB M k = elB M i) := by
      rw [decide_eq_decide]; unfold elB; omega
    unfold fa3
    rw [if_neg hk, e1, e2]
    by_cases q1 : (elB L k = elB L i ↔ elB M k = elB M i)
    · have q1' : decide (elB L k = elB L i) = decide (elB M k = elB M i) := by rw [decide_eq_decide]; exact q1
      rw [q1', if_neg (by simp)]
      by_cases q2 : a.r (elB L k) (elB L i) = b.r (elB M k) (elB M i)
      · rw [q2, if_neg (by simp)]
        by_cases q3 : a.r (elB L i) (elB L k) = b.r (elB M i) (elB M k)
        · rw [q3, if_neg (by simp)]
          exact ⟨fun _ _ => ⟨q1, rfl, rfl⟩, fun _ => rfl⟩
        · rw [if_pos (by simpa using q3)]
          exact ⟨fun h => (by cases h), fun h => absurd (h (by omega)).2.2 q3⟩
      · rw [if_pos (by simpa using q2)]
        exact ⟨fun h => (by cases h), fun h => absurd (h (by omega)).2.1 q2⟩
    · have q1' : decide (elB L k = elB L i) ≠ decide (elB M k = elB M i) := fun e => q1 (decide_eq_decide.1 e)
      rw [if_pos (by simpa using q1')]
      exact ⟨fun h => (by cases h), fun h => absurd (h (by omega)).1 q1⟩
theorem fa1_none {a b : Gs.St} {L M : List Int} {i : Nat} (hs : ∀ j : Nat, (L.getD j 0 < 0) ↔ (M.getD j 0 < 0)) : fa1 a b L M i = none ↔ (0 ≤ L.getD i 0 → a.s (elB L i) = b.s (elB M i) ∧ ∀ k, k < i + 1 → 0 ≤ L.getD k 0 → ((elB L k = elB L i ↔ elB M k = elB M i) ∧ a.r (elB L k) (elB L i) = b.r (elB M k) (elB M i) ∧ a.r (elB L i) (elB L k) = b.r (elB M i) (elB M k))) := by
  unfold fa1
  by_cases h0 : L.getD i 0 < 0
  · rw [if_pos h0]
    exact ⟨fun _ h => by omega, fun _ => rfl⟩
  · rw [if_neg h0]
    by_cases q : a.s (elB L i) = b.s (elB M i)
    · rw [q, if_neg (by simp), fsO_none_iff]
      constructor
      · intro h _
        exact ⟨rfl, fun k hk => (fa3_none (by omega) (hs i) (hs k)).1 (h k hk)⟩
      · intro h j hj
        exact (fa3_none (by omega) (hs i) (hs j)).2 ((h (by omega)).2 j hj)
    · rw [if_pos (by simpa using q)]
      exact ⟨fun h => (by cases h), fun h => absurd (h (by omega)).1 q⟩
theorem gd_app (L : List Int) (x : Int) {i : Nat} (h : i < L.length) : (L ++ [x]).getD i 0 = L.getD i 0 := by
  rw [List.getD_eq_getElem?_getD, List.getD_eq_getElem?_getD, List.getElem?_append_left h]
theorem gd_last (L : List Int) (x : Int) : (L ++ [x]).getD L.length 0 = x := by simp
theorem firstO_iff {a b : Gs.St} : ∀ (k : Nat) {L M : List Int}, L.length = k → M.length = k → (∀ j : Nat, (L.getD j 0 < 0) ↔ (M.getD j 0 < 0)) → (firstO a b L M = none ↔ Gs.same a (layN L) b (layN M) = true)
  | 0, L, M, hl, hm, _ => by
    rw [List.length_eq_zero_iff.1 hl, List.length_eq_zero_iff.1 hm]
    simp [firstO, fsO, layN, Gs.same]
  | k + 1, L, M, hl, hm, hs => by
    rcases snoc_cases L with rfl | ⟨L, x, rfl⟩
    · simp at hl
    rcases snoc_cases M with rfl | ⟨M, y, rfl⟩
    · simp at hm
    rw [List.length_append, List.length_singleton] at hl hm
    have hl2 : L.length = k := by omega
    have hm2 : M.length = k := by omega
    have hs2 : ∀ j : Nat, (L.getD j 0 < 0) ↔ (M.getD j 0 < 0) := fun j => by
      by_cases hj : j < k
      · have := hs j
        rwa [gd_app _ _ (by omega), gd_app _ _ (by omega)] at this
      · rw [List.getD_eq_getElem?_getD, List.getElem?_eq_none (by omega), List.getD_eq_getElem?_getD, List.getElem?_eq_none (by omega)]
    have hxy : x < 0 ↔ y < 0 := by
      have := hs k
      rw [← hl2, gd_last, hl2, ← hm2, gd_last] at this
      exact this
    have ih := firstO_iff (a := a) (b := b) k hl2 hm2 hs2
    have hel : ∀ j, j < k → elB (L ++ [x]) j = elB L j ∧ elB (M ++ [y]) j = elB M j := fun j hj => by
      unfold elB
      rw [gd_app _ _ (by omega), gd_app _ _ (by omega)]
      exact ⟨rfl, rfl⟩
    have hek : elB (L ++ [x]) k = x.toNat ∧ elB (M ++ [y]) k = y.toNat := by
      unfold elB
      constructor
      · rw [← hl2, gd_last]
      · rw [← hm2, gd_last]
    have hgk : (L ++ [x]).getD k 0 = x := by rw [← hl2, gd_last]
    have h1 : firstO a b (L ++ [x]) (M ++ [y]) = none ↔ firstO a b L M = none ∧ fa1 a b (L ++ [x]) (M ++ [y]) k = none := by
      unfold firstO
      rw [List.length_append, List.length_singleton, hl2, fsO_none_iff, fsO_none_iff]
      have hc : ∀ j, j < k → (fa1 a b (L ++ [x]) (M ++ [y]) j = none ↔ fa1 a b L M j = none) := fun j hj => by
        rw [fa1_none hs, fa1_none hs2, gd_app _ _ (by omega), (hel j hj).1, (hel j hj).2]
        constructor
        · intro h h0
          obtain ⟨q1, q2⟩ := h h0
          refine ⟨q1, fun z hz hz0 => ?_⟩
          have := q2 z hz (by rw [gd_app _ _ (by omega)]; exact hz0)
          rwa [(hel z (by omega)).1, (hel z (by omega)).2] at this
        · intro h h0
          obtain ⟨q1, q2⟩ := h h0
          refine ⟨q1, fun z hz hz0 => ?_⟩
          rw [gd_app _ _ (by omega)] at hz0
          rw [(hel z (by omega)).1, (hel z (by omega)).2]
          exact q2 z hz hz0
      constructor
      · intro h
        exact ⟨fun j hj => (hc j hj).1 (h j (by omega)), h k (by omega)⟩
      · rintro ⟨h2, h3⟩ j hj
        by_cases e : j = k
        · rw [e]; exact h3
        · exact (hc j (by omega)).2 (h2 j (by omega))
    rw [h1, ih, fa1_none hs, hgk, layN_snoc, layN_snoc]
    by_cases hx : 0 ≤ x
    · rw [if_pos hx, if_pos (show 0 ≤ y by omega), Gs.same_snoc (layN_len (by omega) hs2).symm, Bool.and_eq_true]
      have hst : Gs.still a (layN L) b (layN M) x.toNat y.toNat = true ↔ (a.s x.toNat = b.s y.toNat ∧ a.r x.toNat x.toNat = b.r y.toNat y.toNat) ∧ ∀ p ∈ (layN L).zip (layN M), (p.1 = x.toNat ↔ p.2 = y.toNat) ∧ a.r p.1 x.toNat = b.r p.2 y.toNat ∧ a.r x.toNat p.1 = b.r y.toNat p.2 := by
        unfold Gs.still
        simp only [Bool.and_eq_true, beq_iff_eq, List.all_eq_true, decide_eq_decide, and_assoc]
      rw [hst, zip_lay (Q := fun p q => (p = x.toNat ↔ q = y.toNat) ∧ a.r p x.toNat = b.r q y.toNat ∧ a.r x.toNat p = b.r y.toNat q) (by omega) hs2, hek.1, hek.2]
      constructor
      · rintro ⟨q0, q⟩
        obtain ⟨q1, q2⟩ := q hx
        refine ⟨q0, ⟨q1, ?_⟩, fun z hz hz0 => ?_⟩
        · have := q2 k (by omega) (by rw [hgk]; exact hx)
          rw [hek.1, hek.2] at this
          exact this.2.1
        · have := q2 z (by omega) (by rw [gd_app _ _ (by omega)]; exact hz0)
          rwa [(hel z (by omega)).1, (hel z (by omega)).2] at this
      · rintro ⟨q0, ⟨q1, q2⟩, q3⟩
        refine ⟨q0, fun _ => ⟨q1, fun z hz hz0 => ?_⟩⟩
        by_cases e : z = k
        · rw [e, hek.1, hek.2]
          exact ⟨⟨fun _ => rfl, fun _ => rfl⟩, q2, q2⟩
        · rw [(hel z (by omega)).1, (hel z (by omega)).2]
          rw [gd_app _ _ (by omega)] at hz0
          exact q3 z (by omega) hz0
    · rw [if_neg hx, if_neg (show ¬ 0 ≤ y by omega)]
      exact ⟨fun h => h.1, fun h => ⟨h, fun h2 => absurd h2 hx⟩⟩
theorem firstA_empty {a b : Gs.St} {n m : Nat} {L M : List Int} (h : Rdy n m L M) : firstA a b L M = ByteArray.empty ↔ Gs.same a (layN L) b (layN M) = true := by
  rw [← firstO_iff L.length rfl h.len.symm h.sg]
  unfold firstA
  cases hc : firstO a b L M with
  | none => simp
  | some s =>
    obtain ⟨j, _, h2, _⟩ := fsO_some hc
    have := (fa1_size h2).2
    constructor
    · intro e
      have e2 : s = ByteArray.empty := e
      rw [e2] at this
      exact absurd this (by decide)
    · intro e; cases e
end Go.Proofs.YtnhlhjehocngcaaDoor
/- What the reference's l7Formula is told, plainly. No condition. -/
namespace Go.Proofs.YtnhlhjehocngcaaDoor
open Go.RowKit
set_option linter.unusedVariables false
set_option maxRecDepth 100000

theorem Lf.symm {a b : Gs.St} {n m k t : Nat} {cs ds : List (List Nat)} (h : Lf a b n m k t cs ds) : Lf b a m n k t ds cs :=
  ⟨h.ld, h.lc, fun i hi => by
    obtain ⟨h1, h2, h3, h4, h5⟩ := h.at' i hi
    refine ⟨h2, h1, h4, h3, fun L M hL hM hl hm hs => ?_⟩
    have h6 := h5 M L hM hL hm hl (fun j => (hs j).symm)
    rw [pwB_symm i (⟨by omega, hM, hL, fun j => (hs j).symm⟩ : Rdy n m M L)]
    rw [← h6]
    exact eq_comm⟩
theorem mvN_map (t : Nat) (b a : Gs.St) (M L : List Int) (i x : Nat) : mvN t b a M L i x = (mvO t b a M L i x).map (fun s => ⟨#[33]⟩ ++ s) := by
  unfold mvN mvO
  split
  · simp only [Option.map_some]
    unfold quB
    rw [← ba_assoc, ← ba_assoc]
    rfl
  · rfl
theorem fsO_map {α β : Type} (g : Nat → Option α) (f : α → β) : ∀ k, fsO (fun x => (g x).map f) k = (fsO g k).map f
  | 0 => rfl
  | k + 1 => by
    unfold fsO
    rw [fsO_map g f k]
    cases fsO g k <;> rfl
theorem mvN_fs (t : Nat) (b a : Gs.St) (M L : List Int) (i k : Nat) : fsO (mvN t b a M L i) k = (fsO (mvO t b a M L i) k).map (fun s => ⟨#[33]⟩ ++ s) := by
  rw [← fsO_map]
  congr 1
  funext x
  exact mvN_map t b a M L i x
theorem ne_app (c : UInt8) (s : ByteArray) : (⟨#[c]⟩ : ByteArray) ++ s ≠ ByteArray.empty := fun e => by
  have h := congrArg ByteArray.size e
  rw [ByteArray.size_append] at h
  have h1 : (⟨#[c]⟩ : ByteArray).size = 1 := rfl
  have h2 : ByteArray.empty.size = 0 := rfl
  omega
theorem mvO_ne {t : Nat} {a b : Gs.St} {L M : List Int} {i x : Nat} {s : ByteArray} (h : mvO t a b L M i x = some s) : s ≠ ByteArray.empty := by
  unfold mvO at h
  split at h
  · injection h with h
    rw [← h]
    unfold quB
    intro e
    have h3 := congrArg ByteArray.size e
    rw [ByteArray.size_append, ByteArray.size_append] at h3
    have h1 : (⟨#[83]⟩ : ByteArray).size = 1 := rfl
    have h2 : ByteArray.empty.size = 0 := rfl
    omega
  · cases h
theorem fsO_mem {α : Type} {g : Nat → Option α} {s : α} : ∀ {k : Nat}, fsO g k = some s → ∃ x, x < k ∧ g x = some s
  | 0, h => by cases h
  | k + 1, h => by
    unfold fsO at h
    cases e : fsO g k with
    | some z =>
      rw [e] at h
      injection h with h
      subst h
      obtain ⟨x, hx, q⟩ := fsO_mem e
      exact ⟨x, by omega, q⟩
    | none =>
      rw [e] at h
      exact ⟨k, by omega, h⟩
/-- The move's text. -/
def mvT (t : Nat) (a b : Gs.St) (L M : List Int) (i k : Nat) : ByteArray := (fsO (mvO t a b L M i) k).getD ByteArray.empty
theorem mvT_empty {t : Nat} {a b : Gs.St} {L M : List Int} {i k : Nat} : mvT t a b L M i k = ByteArray.empty ↔ fsO (mvO t a b L M i) k = none := by
  unfold mvT
  cases e : fsO (mvO t a b L M i) k with
  | none => simp
  | some s =>
    obtain ⟨x, _, hx⟩ := fsO_mem e
    simp [mvO_ne hx]
/-- A pebble's text, out of both moves. -/
theorem plO_mv (t : Nat) (a b : Gs.St) (L M : List Int) (i : Nat) : plO t a b L M i = if mvT t a b L M i a.n ≠ ByteArray.empty then some (mvT t a b L M i a.n) else if mvT t b a M L i b.n ≠ ByteArray.empty then some (⟨#[33]⟩ ++ mvT t b a M L i b.n) else none := by
  unfold plO
  rw [mvN_fs]
  cases e : fsO (mvO t a b L M i) a.n with
  | some s =>
    rw [if_pos (fun h => by rw [mvT_empty, e] at h; cases h)]
    unfold mvT
    rw [e]; rfl
  | none =>
    rw [if_neg (fun h => h (mvT_empty.2 e))]
    cases e2 : fsO (mvO t b a M L i) b.n with
    | some s =>
      rw [if_pos (fun h => by rw [mvT_empty, e2] at h; cases h)]
      unfold mvT
      rw [e2]; rfl
    | none =>
      rw [if_neg (fun h => h (mvT_empty.2 e2))]; rfl
/-- What the reference's formula is told, in memory. -/
structure Tell (w : World) (n : Nat) (S R : ByteArray) (m : Nat) (S2 R2 : ByteArray) (va vb : Value) (cs ds : List (List Nat)) (T : Nat) (L M : List Int) (v u : Value) : Prop where
  hS : S.size = n
  hR : R.size = n * n
  hS2 : S2.size = m
  hR2 : R2.size = m * m
  hn : n ≤ 8
  hm : m ≤ 8
  n1 : 1 ≤ n
  m1 : 1 ≤ m
  A : LevAt w va cs
  B : LevAt w vb ds
  f : Lf (stOf n S R) (stOf m S2 R2) n m L.length T cs ds
  iv : IntsAt w v L
  iu : IntsAt w u M
  r : Rdy n m L M
  k3 : L.length ≤ 3
section
variable {w w' : World} {n m T : Nat} {S R S2 R2 : ByteArray} {va vb v u v2 u2 : Value} {cs ds : List (List Nat)} {L M : List Int}
theorem Tell.below (h : Tell w n S R m S2 R2 va vb cs ds T L M v u) (hb : Below w.heap.size w w') : Tell w' n S R m S2 R2 va vb cs ds T L M v u :=
  ⟨h.hS, h.hR, h.hS2, h.hR2, h.hn, h.hm, h.n1, h.m1, h.A.below hb, h.B.below hb, h.f, h.iv.below hb, h.iu.below hb, h.r, h.k3⟩
theorem Tell.swap (h : Tell w n S R m S2 R2 va vb cs ds T L M v u) : Tell w m S2 R2 n S R vb va ds cs T M L u v :=
  ⟨h.hS2, h.hR2, h.hS, h.hR, h.hm, h.hn, h.m1, h.n1, h.B, h.A, by rw [← h.r.len]; exact h.f.symm, h.iu, h.iv, h.r.symm, by rw [← h.r.len]; exact h.k3⟩
theorem Rdy.putB (h : Rdy n m L M) (i : Nat) {x y : Nat} (hx : x < n) (hy : y < m) : Rdy n m (L.set i (x : Int)) (M.set i (y : Int)) :=
  ⟨by rw [List.length_set, List.length_set, h.len], Pbs.set h.la i hx, Pbs.set h.lb i hy, fun j => by
    have hl := h.len
    by_cases hi : i < L.length
    · rw [getD_setI _ _ _ _ hi, getD_setI _ _ _ _ (by omega)]
      split
      · omega
      · exact h.sg j
    · rw [List.set_eq_of_length_le (by omega), List.set_eq_of_length_le (by omega)]
      exact h.sg j⟩
theorem Tell.put (h : Tell w n S R m S2 R2 va vb cs ds T L M v u) (i : Nat) {x y : Nat} (hx : x < n) (hy : y < m) (hv : IntsAt w v2 (L.set i (x : Int))) (hu : IntsAt w u2 (M.set i (y : Int))) : Tell w n S R m S2 R2 va vb cs ds T (L.set i (x : Int)) (M.set i (y : Int)) v2 u2 :=
  ⟨h.hS, h.hR, h.hS2, h.hR2, h.hn, h.hm, h.n1, h.m1, h.A, h.B, by rw [List.length_set]; exact h.f, hv, hu, h.r.putB i hx hy, by rw [List.length_set]; exact h.k3⟩
/-- The numbers of a turn tell who wins it. -/
theorem Tell.eq (h : Tell w n S R m S2 R2 va vb cs ds T L M v u) {t : Nat} (ht : t ≤ T) : (cs.getD t []).getD (ixL (n + 1) L) 0 = (ds.getD t []).getD (ixL (m + 1) M) 0 ↔ pwB (stOf n S R) (stOf m S2 R2) n m t L M = true :=
  (h.f.at' t ht).2.2.2.2 L M h.r.la h.r.lb rfl h.r.len.symm h.r.sg
end
/-- What l7Formula and l7Move keep to. -/
def FOK (t : Nat) : Prop := ∀ (n : Nat) (S R : ByteArray) (m : Nat) (S2 R2 : ByteArray) (va vb : Value) (cs ds : List (List Nat)) (T : Nat) (L M : List Int) (v u : Value) (w : World), Tell w n S R m S2 R2 va vb cs ds T L M v u → t ≤ T → T ≤ 3 → pwB (stOf n S R) (stOf m S2 R2) n m t L M = false →
  Calls Tryd.prog 46 #[l7V n S R m S2 R2 va vb, v, u, .int .i64 (t : Int)] w fun e w' => e = .returned (.string (pebF t (stOf n S R) (stOf m S2 R2) L M)) ∧ Below w.heap.size w w'
def MOK (t : Nat) : Prop := ∀ (n : Nat) (S R : ByteArray) (m : Nat) (S2 R2 : ByteArray) (va vb : Value) (cs ds : List (List Nat)) (T : Nat) (L M : List Int) (v u : Value) (i : Nat) (w : World), Tell w n S R m S2 R2 va vb cs ds T L M v u → t + 1 ≤ T → T ≤ 3 → i < L.length →
  Calls Tryd.prog 71 #[l7V n S R m S2 R2 va vb, v, u, .int .i64 ((t + 1 : Nat) : Int), .int .i64 (i : Int)] w fun e w' => e = .returned (.string (mvT t (stOf n S R) (stOf m S2 R2) L M i n)) ∧ Below w.heap.size w w'
end Go.Proofs.YtnhlhjehocngcaaDoor
/- The reference's l7Differ. Conditions: the structures are valid, the pebbles are ready. Printed by bin/gen_pebj3.py. -/
namespace Go.Proofs.YtnhlhjehocngcaaDoor
open Go.RowKit
set_option linter.unusedVariables false
set_option maxRecDepth 100000

theorem vn_at (i : Nat) (h : i < 3) : (⟨#[97, 98, 99]⟩ : ByteArray).extract i (i + 1) = vnB i := by
  rcases (show i = 0 ∨ i = 1 ∨ i = 2 by omega) with rfl | rfl | rfl <;> rfl
set_option maxHeartbeats 4000000 in
theorem l7Differ_any (n m : Nat) (S R S2 R2 : ByteArray) (L M : List Int) (v u : Value) (w : World) (hS : S.size = n) (hR : R.size = n * n) (hn : n ≤ 8) (hS2 : S2.size = m) (hR2 : R2.size = m * m) (hm : m ≤ 8) (hv : IntsAt w v L) (hu : IntsAt w u M) (hr : Rdy n m L M) (hk3 : L.length ≤ 3) :
    Calls Tryd.prog 70 #[strV n S R, v, strV m S2 R2, u] w fun e w' => e = .returned (.string (firstA (stOf n S R) (stOf m S2 R2) L M)) ∧ Below w.heap.size w w' := by
  have HR := Lib.hid hr
  have HLM := Lib.hid hr.len
  have HS1 := Lib.hid (fun x w (hx : x < n) => l1Set_b n S R x w (by omega) (by omega))
  have HS2 := Lib.hid (fun x w (hx : x < m) => l1Set_b m S2 R2 x w (by omega) (by omega))
  have HR1 := Lib.hid (fun x y w hx hy => l1Rel_b n S R x y w hx hy hn hR)
  have HR2 := Lib.hid (fun x y w hx hy => l1Rel_b m S2 R2 x y w hx hy hm hR2)
  have HSG := Lib.hid (fun s is w hs => l3Atom_any s is w hs)
  have HT := Lib.hid (Two.new w n S R m S2 R2)
  obtain ⟨FA, hFA⟩ : ∃ f, fa1 (stOf n S R) (stOf m S2 R2) L M = f := ⟨_, rfl⟩
  have HFA : Hid (firstA (stOf n S R) (stOf m S2 R2) L M = (fsO FA L.length).getD ByteArray.empty) := by rw [← hFA]; rfl
  have HFAE := Lib.hid hFA
  rw [HFA.out]
  unfold boxS at HT
  obtain ⟨a, ca, rfl, la1, la2, hva⟩ := hv.view
  obtain ⟨b, cb, rfl, lb1, lb2, hvb⟩ := hu.view
  unfold maxLen at la2 lb2
  have HA := Lib.hid hva
  have HB := Lib.hid hvb
  rw [← hr.len] at lb1 ⊢
  rw [← hr.len] at HB
  obtain ⟨ll, hll⟩ : ∃ ll, L.length = ll := ⟨_, rfl⟩
  have HLL := Lib.hid hll
  rw [hll] at la1 lb1 HA HB hk3 HFA ⊢
  clear hv hu hva hvb hr hS hR hS2 hR2 hFA hll
  unfold strV at HS1 HS2 HR1 HR2
  unfold strV
  obtain ⟨c0, c1, c2, f0, f1, f2, hl1⟩ := HT.out.a.cells
  obtain ⟨d0, d1, d2, _, _, _, hl2⟩ := HT.out.b.cells
  go_enter Tryd.func70, Tryd.ntmps70
  go_wp2_with fail
  go_loopw [9, 10, 11, 12] (fun q _ _ _ wr => ∃ i : Nat, i ≤ ll ∧ q = .int .i64 (i : Int) ∧ Hid (fsO FA i = none) ∧ Hid (Two w wr n S R m S2 R2)) (fun q _ _ _ _ => ll - (intOf q).toNat)
  case atStart => exact ⟨0, by omega, rfl, rfl, HT⟩
  case round =>
    clear HT c0 c1 c2 f0 f1 f2 hl1 d0 d1 d2 hl2
    obtain ⟨i, hi, rfl, HN, HT⟩ := hrel
    by_cases hlt : i < ll
    · have hiI : (i : Int) < (ll : Int) := by omega
      have hi3 : (i : Int) + 1 ≤ 3 := by omega
      have hxi := vn_at i (by omega)
      have HFY := Lib.hid (fun s (h : FA i = some s) => fsO_yes HN.out h hlt)
      have HFN := Lib.hid (fun (h : FA i = none) => fsO_no HN.out h)
      obtain ⟨ga, oa, rfl, hga, hca⟩ := HA.out (by omega)
      obtain ⟨gb, ob, rfl, hgb, hcb⟩ := HB.out (by omega)
      have e1 := (HT.out.old.cell (p := ⟨ga, oa + i, none⟩) hga).trans (hca i hlt)
      have HCA := Lib.hid hca
      have HCB := Lib.hid hcb
      clear hca hcb
      by_cases hneg : L.getD i 0 < 0
      · have HFI := Lib.hid (HFN.out (by rw [← HFAE.out]; exact fa1_neg hneg))
        obtain ⟨x, hx⟩ : ∃ x, L.getD i 0 = x := ⟨_, rfl⟩
        rw [hx] at e1 hneg
        have hnegB : decide (x < 0) = true := decide_eq_true hneg
        clear hx
        generalize vnB i = vi at *
        go_wp2_with fail
        go_roundw
        case rel => exact ⟨i + 1, by omega, by go_num, HFI, HT⟩
        case measure => simp [intOf]; omega
      · obtain ⟨x, y, hx, hy, hxn, hym, hex, hey⟩ := rdy_at HR.out (by rw [HLL.out]; exact hlt) (by omega)
        have HNEG := Lib.hid hneg
        rw [hx] at e1
        have HE1 : Hid (∀ wz, Below w.heap.size w wz → wz.cell? ⟨ga, oa + i, none⟩ = some (.int .i64 (x : Int))) := fun wz hb => by
          have := (hb.cell (p := ⟨ga, oa + i, none⟩) hga).trans (HCA.out i hlt)
          rw [hx] at this
          exact this
        have HE2 : Hid (∀ wz, Below w.heap.size w wz → wz.cell? ⟨gb, ob + i, none⟩ = some (.int .i64 (y : Int))) := fun wz hb => by
          have := (hb.cell (p := ⟨gb, ob + i, none⟩) hgb).trans (HCB.out i (by omega))
          rw [hy] at this
          exact this
        have hnegB : decide ((x : Int) < 0) = false := decide_eq_false (by omega)
        have hnegI : ¬ ((x : Int) < 0) := by omega
        have HX : Hid (L.getD i 0 = (x : Int) ∧ M.getD i 0 = (y : Int) ∧ elB L i = x ∧ elB M i = y) := ⟨hx, hy, hex, hey⟩
        clear hx hy hex hey hneg
        have j1 := fun w => HS1.out x w hxn
        have j2 := fun w => HS2.out y w hym
        have HFS : Hid (∀ r q, oneAt S x = r → oneAt S2 y = q → (r != q) = true → FA i = some (sgB (⟨#[80]⟩ ++ vnB i) r)) := fun r q h1 h2 h3 => by
          rw [← HFAE.out]
          exact fa1_set HNEG.out (by rw [HX.out.2.2.1]; exact h1) (by rw [HX.out.2.2.2]; exact h2) h3
        have HFG : Hid (∀ r q, oneAt S x = r → oneAt S2 y = q → (r != q) = false → FA i = fsO (fa3 (stOf n S R) (stOf m S2 R2) L M i) (i + 1)) := fun r q h1 h2 h3 => by
          rw [← HFAE.out]
          exact fa1_go HNEG.out (by rw [HX.out.2.2.1]; exact h1) (by rw [HX.out.2.2.2]; exact h2) h3
        have hvs : (vnB i).size = 1 := rfl
        have HVS := Lib.hid hvs
        clear hvs
        obtain ⟨r1, hr1⟩ : ∃ r, oneAt S x = r := ⟨_, rfl⟩
        obtain ⟨r2, hr2⟩ : ∃ r, oneAt S2 y = r := ⟨_, rfl⟩
        have HFS1 := Lib.hid (HFS.out r1 r2 hr1 hr2)
        have HFG1 := Lib.hid (HFG.out r1 r2 hr1 hr2)
        rw [hr1] at j1
        rw [hr2] at j2
        have J1 := Lib.hid j1
        have J2 := Lib.hid j2
        clear j1 j2 hr1 hr2 HFS HFG
        obtain ⟨F3, hF3⟩ : ∃ f, fa3 (stOf n S R) (stOf m S2 R2) L M i = f := ⟨_, rfl⟩
        have HF3 := Lib.hid hF3
        rw [hF3] at HFG1
        clear hF3
        obtain ⟨vi, hvi⟩ : ∃ vi, vnB i = vi := ⟨_, rfl⟩
        have HVI := Lib.hid hvi
        rw [hvi] at HVS HFS1 hxi
        clear hvi
        clear e1
        obtain ⟨c0, c1, c2, f0, f1, f2, hl1⟩ := HT.out.a.cells
        obtain ⟨d0, d1, d2, _, _, _, hl2⟩ := HT.out.b.cells
        have e1 := HE1.out _ HT.out.old
        have e2 := HE2.out _ HT.out.old
        have s_c0 := fun s => Since.cell c0 s
        have s_c1 := fun s => Since.cell c1 s
        have s_c2 := fun s => Since.cell c2 s
        have s_d0 := fun s => Since.cell d0 s
        have s_d1 := fun s => Since.cell d1 s
        have s_d2 := fun s => Since.cell d2 s
        have s_e1 := fun s => Since.cell e1 s
        have s_e2 := fun s => Since.cell e2 s
        go_wp2_with fail
        refine wp_region_since (by kernel_rfl) (by kernel_rfl) ?_
        repeat (go_big_quiet_step (first | (with_reducible exact Since.call (J1.out _)) | (with_reducible exact Since.call (J2.out _))))
        refine wpQuiet_nil ?_
        intro w3 hb_w3
        have HTw3 := Lib.hid (HT.out.below hb_w3)
        clear hb_w3 s_c0 s_c1 s_c2 s_d0 s_d1 s_d2 s_e1 s_e2 c0 c1 c2 d0 d1 d2 e1 e2 f0 f1 f2 hl1 hl2
        obtain ⟨zz, hrr⟩ : ∃ z, (!(r1 == r2)) = z := ⟨_, rfl⟩
        rw [hrr]
        change (r1 != r2) = zz at hrr
        cases zz
        · have HFG1b := Lib.hid (HFG1.out hrr)
          clear hrr HFS1 HFG1 J1 J2 HT
          go_wp2_with fail
          obtain ⟨wo, hwo⟩ : ∃ wo, wo = w3 := ⟨_, rfl⟩
          subst hwo
          go_loopw [11, 12] (fun q _ wr => ∃ k : Nat, k ≤ i + 1 ∧ q = .int .i64 (k : Int) ∧ Hid (fsO F3 k = none) ∧ Hid (Two w wr n S R m S2 R2)) (fun q _ _ => i + 1 - (intOf q).toNat)
          case atStart => exact ⟨0, by omega, rfl, rfl, HTw3⟩
          case round =>
            clear HTw3
            obtain ⟨k, hk, rfl, HN3, HT⟩ := hrel
            by_cases hlt3 : k < i + 1
            · have hkI : (k : Int) ≤ (i : Int) := by omega
              have hkI2 : (k : Int) < (ll : Int) := by omega
              have hk3' : (k : Int) + 1 ≤ 3 := by omega
              have hxk := vn_at k (by omega)
              have HFY3 := Lib.hid (fun s (h : F3 k = some s) => fsO_yes HN3.out h hlt3)
              have HFN3 := Lib.hid (fun (h : F3 k = none) => fsO_no HN3.out h)
              have e3 := (HT.out.old.cell (p := ⟨ga, oa + k, none⟩) hga).trans (HCA.out k (by omega))
              by_cases hneg : L.getD k 0 < 0
              · have HFI3 := Lib.hid (HFN3.out (by rw [← HF3.out]; exact fa3_neg hneg))
                obtain ⟨x2, hx⟩ : ∃ x, L.getD k 0 = x := ⟨_, rfl⟩
                rw [hx] at e3 hneg
                have hnegB2 : decide (x2 < 0) = true := decide_eq_true hneg
                clear hx
                generalize vnB k = vk at *
                go_wp2_with fail
                go_roundw
                case rel => exact ⟨k + 1, by omega, by go_num, HFI3, HT⟩
                case measure => simp [intOf]; omega
              · obtain ⟨x2, y2, hx, hy, hx2n, hy2m, hex, hey⟩ := rdy_at HR.out (i := k) (by rw [HLL.out]; omega) (by omega)
                have HE3 : Hid (∀ wz, Below w.heap.size w wz → wz.cell? ⟨ga, oa + k, none⟩ = some (.int .i64 (x2 : Int))) := fun wz hb => by
                  have := (hb.cell (p := ⟨ga, oa + k, none⟩) hga).trans (HCA.out k (by omega))
                  rw [hx] at this
                  exact this
                have HE4 : Hid (∀ wz, Below w.heap.size w wz → wz.cell? ⟨gb, ob + k, none⟩ = some (.int .i64 (y2 : Int))) := fun wz hb => by
                  have := (hb.cell (p := ⟨gb, ob + k, none⟩) hgb).trans (HCB.out k (by omega))
                  rw [hy] at this
                  exact this
                have hnegB2 : decide ((x2 : Int) < 0) = false := decide_eq_false (by omega)
                have hnegI2 : ¬ ((x2 : Int) < 0) := by omega
                have HVS3 : Hid ((vnB k).size = 1) := rfl
                obtain ⟨b1, hb1⟩ : ∃ b, ((x : Int) == (x2 : Int)) = b := ⟨_, rfl⟩
                obtain ⟨b2, hb2⟩ : ∃ b, ((y : Int) == (y2 : Int)) = b := ⟨_, rfl⟩
                have q1 := fun w => HR1.out x2 x w hx2n hxn
                have q2 := fun w => HR2.out y2 y w hy2m hym
                have q3 := fun w => HR1.out x x2 w hxn hx2n
                have q4 := fun w => HR2.out y y2 w hym hy2m
                have HF4 : Hid (F3 k = if b1 != b2 then some (sgB (⟨#[61]⟩ ++ vnB k ++ vnB i) b1) else if relAt n R x2 x != relAt m R2 y2 y then some (sgB (⟨#[69]⟩ ++ vnB k ++ vnB i) (relAt n R x2 x)) else if relAt n R x x2 != relAt m R2 y y2 then some (sgB (⟨#[69]⟩ ++ vnB i ++ vnB k) (relAt n R x x2)) else none) := by
                  show _ = _
                  rw [← HF3.out]
                  refine fa3_is hneg ?_ ?_ ?_ ?_ ?_ ?_
                  · rw [hx, HX.out.1, ← hb1, Bool.eq_iff_iff, decide_eq_true_iff, beq_iff_eq]; exact eq_comm
                  · rw [hy, HX.out.2.1, ← hb2, Bool.eq_iff_iff, decide_eq_true_iff, beq_iff_eq]; exact eq_comm
                  · rw [hex, HX.out.2.2.1]; rfl
                  · rw [hey, HX.out.2.2.2]; rfl
                  · rw [hex, HX.out.2.2.1]; rfl
                  · rw [hey, HX.out.2.2.2]; rfl
                rw [HVI.out] at HF4
                rw [hx] at e3
                generalize relAt n R x2 x = r1 at *
                generalize relAt m R2 y2 y = r2 at *
                generalize relAt n R x x2 = r3 at *
                generalize relAt m R2 y y2 = r4 at *
                generalize vnB k = vk at *
                have Q1 := Lib.hid q1
                have Q2 := Lib.hid q2
                have Q3 := Lib.hid q3
                have Q4 := Lib.hid q4
                clear q1 q2 q3 q4 hneg hx hy hex hey
                go_upto_region 13 with fail
                clear e3
                obtain ⟨c0, c1, c2, f0, f1, f2, hl1⟩ := HT.out.a.cells
                obtain ⟨d0, d1, d2, _, _, _, hl2⟩ := HT.out.b.cells
                have e1 := HE1.out _ HT.out.old
                have e2 := HE2.out _ HT.out.old
                have e3 := HE3.out _ HT.out.old
                have e4 := HE4.out _ HT.out.old
                have s_c0 := fun s => Since.cell c0 s
                have s_c1 := fun s => Since.cell c1 s
                have s_c2 := fun s => Since.cell c2 s
                have s_d0 := fun s => Since.cell d0 s
                have s_d1 := fun s => Since.cell d1 s
                have s_d2 := fun s => Since.cell d2 s
                have s_e1 := fun s => Since.cell e1 s
                have s_e2 := fun s => Since.cell e2 s
                have s_e3 := fun s => Since.cell e3 s
                have s_e4 := fun s => Since.cell e4 s
                go_wp2_with fail
                refine wp_region_since (by kernel_rfl) (by kernel_rfl) ?_
                repeat (go_big_quiet_step (fail))
                refine wpQuiet_nil ?_
                intro w4 hb_w4
                have HTw4 := Lib.hid (HT.out.below hb_w4)
                clear hb_w4 s_c0 s_c1 s_c2 s_d0 s_d1 s_d2 s_e1 s_e2 s_e3 s_e4 c0 c1 c2 d0 d1 d2 e1 e2 e3 e4 f0 f1 f2 hl1 hl2
                obtain ⟨zz, hbb⟩ : ∃ z, (!(b1 == b2)) = z := ⟨_, rfl⟩
                rw [hbb]
                change (b1 != b2) = zz at hbb
                cases zz
                · have HF5 : Hid (F3 k = if r1 != r2 then some (sgB (⟨#[69]⟩ ++ vk ++ vi) r1) else if r3 != r4 then some (sgB (⟨#[69]⟩ ++ vi ++ vk) r3) else none) := by show _ = _; rw [HF4.out, if_neg (by rw [hbb]; decide)]
                  clear hbb HF4 HT
                  obtain ⟨c0, c1, c2, f0, f1, f2, hl1⟩ := HTw4.out.a.cells
                  obtain ⟨d0, d1, d2, _, _, _, hl2⟩ := HTw4.out.b.cells
                  have e1 := HE1.out _ HTw4.out.old
                  have e2 := HE2.out _ HTw4.out.old
                  have e3 := HE3.out _ HTw4.out.old
                  have e4 := HE4.out _ HTw4.out.old
                  have s_c0 := fun s => Since.cell c0 s
                  have s_c1 := fun s => Since.cell c1 s
                  have s_c2 := fun s => Since.cell c2 s
                  have s_d0 := fun s => Since.cell d0 s
                  have s_d1 := fun s => Since.cell d1 s
                  have s_d2 := fun s => Since.cell d2 s
                  have s_e1 := fun s => Since.cell e1 s
                  have s_e2 := fun s => Since.cell e2 s
                  have s_e3 := fun s => Since.cell e3 s
                  have s_e4 := fun s => Since.cell e4 s
                  go_wp2_with fail
                  refine wp_region_since (by kernel_rfl) (by kernel_rfl) ?_
                  repeat (go_big_quiet_step (first | (with_reducible exact Since.call (Q1.out _)) | (with_reducible exact Since.call (Q2.out _))))
                  refine wpQuiet_nil ?_
                  intro w5 hb_w5
                  have HTw5 := Lib.hid (HTw4.out.below hb_w5)
                  clear hb_w5 s_c0 s_c1 s_c2 s_d0 s_d1 s_d2 s_e1 s_e2 s_e3 s_e4 c0 c1 c2 d0 d1 d2 e1 e2 e3 e4 f0 f1 f2 hl1 hl2
                  clear HTw4
                  obtain ⟨zz, hrr⟩ : ∃ z, (!(r1 == r2)) = z := ⟨_, rfl⟩
                  rw [hrr]
                  change (r1 != r2) = zz at hrr
                  cases zz
                  · have HF6 : Hid (F3 k = if r3 != r4 then some (sgB (⟨#[69]⟩ ++ vi ++ vk) r3) else none) := by show _ = _; rw [HF5.out, if_neg (by rw [hrr]; decide)]
                    clear hrr HF5 Q1 Q2
                    obtain ⟨c0, c1, c2, f0, f1, f2, hl1⟩ := HTw5.out.a.cells
                    obtain ⟨d0, d1, d2, _, _, _, hl2⟩ := HTw5.out.b.cells
                    have e1 := HE1.out _ HTw5.out.old
                    have e2 := HE2.out _ HTw5.out.old
                    have e3 := HE3.out _ HTw5.out.old
                    have e4 := HE4.out _ HTw5.out.old
                    have s_c0 := fun s => Since.cell c0 s
                    have s_c1 := fun s => Since.cell c1 s
                    have s_c2 := fun s => Since.cell c2 s
                    have s_d0 := fun s => Since.cell d0 s
                    have s_d1 := fun s => Since.cell d1 s
                    have s_d2 := fun s => Since.cell d2 s
                    have s_e1 := fun s => Since.cell e1 s
                    have s_e2 := fun s => Since.cell e2 s
                    have s_e3 := fun s => Since.cell e3 s
                    have s_e4 := fun s => Since.cell e4 s
                    go_wp2_with fail
                    refine wp_region_since (by kernel_rfl) (by kernel_rfl) ?_
                    repeat (go_big_quiet_step (first | (with_reducible exact Since.call (Q3.out _)) | (with_reducible exact Since.call (Q4.out _))))
                    refine wpQuiet_nil ?_
                    intro w6 hb_w6
                    have HTw6 := Lib.hid (HTw5.out.below hb_w6)
                    clear hb_w6 s_c0 s_c1 s_c2 s_d0 s_d1 s_d2 s_e1 s_e2 s_e3 s_e4 c0 c1 c2 d0 d1 d2 e1 e2 e3 e4 f0 f1 f2 hl1 hl2
                    clear HTw5
                    obtain ⟨zz, hrr⟩ : ∃ z, (!(r3 == r4)) = z := ⟨_, rfl⟩
                    rw [hrr]
                    change (r3 != r4) = zz at hrr
                    cases zz
                    · have HFI3 := Lib.hid (HFN3.out (by rw [HF6.out, if_neg (by rw [hrr]; decide)]))
                      clear hrr HF6 Q3 Q4
                      go_wp2_with fail
                      go_roundw
                      case rel => exact ⟨k + 1, by omega, by go_num, HFI3, HTw6⟩
                      case measure => simp [intOf]; omega
                    · have HFI := Lib.hid (HFY.out _ (HFG1b.out.trans (HFY3.out _ (by rw [HF6.out, if_pos hrr]))))
                      have HE : Hid ((fsO FA ll).getD ByteArray.empty = sgB (⟨#[69]⟩ ++ vi ++ vk) r3) := by show _ = _; rw [HFI.out]; rfl
                      have hz : ¬ 9223372036854775807 < (⟨#[69]⟩ : ByteArray).size + vi.size := by rw [HVS.out]; decide
                      have hz2 : ¬ 9223372036854775807 < (⟨#[69]⟩ ++ vi : ByteArray).size + vk.size := by rw [ByteArray.size_append, HVS.out, HVS3.out]; decide
                      have HSI := Lib.hid (fun w => HSG.out (⟨#[69]⟩ ++ vi ++ vk) r3 w (by rw [ByteArray.size_append, ByteArray.size_append, HVS.out, HVS3.out]; decide))
                      clear hrr HF6
                      obtain ⟨c0, c1, c2, f0, f1, f2, hl1⟩ := HTw6.out.a.cells
                      obtain ⟨d0, d1, d2, _, _, _, hl2⟩ := HTw6.out.b.cells
                      have e1 := HE1.out _ HTw6.out.old
                      have e2 := HE2.out _ HTw6.out.old
                      have e3 := HE3.out _ HTw6.out.old
                      have e4 := HE4.out _ HTw6.out.old
                      have s_c0 := fun s => Since.cell c0 s
                      have s_c1 := fun s => Since.cell c1 s
                      have s_c2 := fun s => Since.cell c2 s
                      have s_d0 := fun s => Since.cell d0 s
                      have s_d1 := fun s => Since.cell d1 s
                      have s_d2 := fun s => Since.cell d2 s
                      have s_e1 := fun s => Since.cell e1 s
                      have s_e2 := fun s => Since.cell e2 s
                      have s_e3 := fun s => Since.cell e3 s
                      have s_e4 := fun s => Since.cell e4 s
                      go_wp2_with fail
                      refine wp_region_since (by kernel_rfl) (by kernel_rfl) ?_
                      repeat (go_big_quiet_step (first | (with_reducible exact Since.call (Q3.out _)) | (with_reducible exact Since.call_same ((HSI.out _).mono fun _ _ h => ⟨h.1, h.2.symm⟩))))
                      refine wpQuiet_nil ?_
                      intro w7 hb_w7
                      have HTw7 := Lib.hid (HTw6.out.below hb_w7)
                      clear hb_w7 s_c0 s_c1 s_c2 s_d0 s_d1 s_d2 s_e1 s_e2 s_e3 s_e4 c0 c1 c2 d0 d1 d2 e1 e2 e3 e4 f0 f1 f2 hl1 hl2
                      go_wp2_with fail
                      go_ret
                      exact ⟨ret_str HE.out.symm, HTw7.out.old⟩
                  · have HFI := Lib.hid (HFY.out _ (HFG1b.out.trans (HFY3.out _ (by rw [HF5.out, if_pos hrr]))))
                    have HE : Hid ((fsO FA ll).getD ByteArray.empty = sgB (⟨#[69]⟩ ++ vk ++ vi) r1) := by show _ = _; rw [HFI.out]; rfl
                    have hz : ¬ 9223372036854775807 < (⟨#[69]⟩ : ByteArray).size + vk.size := by rw [HVS3.out]; decide
                    have hz2 : ¬ 9223372036854775807 < (⟨#[69]⟩ ++ vk : ByteArray).size + vi.size := by rw [ByteArray.size_append, HVS.out, HVS3.out]; decide
                    have HSI := Lib.hid (fun w => HSG.out (⟨#[69]⟩ ++ vk ++ vi) r1 w (by rw [ByteArray.size_append, ByteArray.size_append, HVS.out, HVS3.out]; decide))
                    clear hrr HF5
                    obtain ⟨c0, c1, c2, f0, f1, f2, hl1⟩ := HTw5.out.a.cells
                    obtain ⟨d0, d1, d2, _, _, _, hl2⟩ := HTw5.out.b.cells
                    have e1 := HE1.out _ HTw5.out.old
                    have e2 := HE2.out _ HTw5.out.old
                    have e3 := HE3.out _ HTw5.out.old
                    have e4 := HE4.out _ HTw5.out.old
                    have s_c0 := fun s => Since.cell c0 s
                    have s_c1 := fun s => Since.cell c1 s
                    have s_c2 := fun s => Since.cell c2 s
                    have s_d0 := fun s => Since.cell d0 s
                    have s_d1 := fun s => Since.cell d1 s
                    have s_d2 := fun s => Since.cell d2 s
                    have s_e1 := fun s => Since.cell e1 s
                    have s_e2 := fun s => Since.cell e2 s
                    have s_e3 := fun s => Since.cell e3 s
                    have s_e4 := fun s => Since.cell e4 s
                    go_wp2_with fail
                    refine wp_region_since (by kernel_rfl) (by kernel_rfl) ?_
                    repeat (go_big_quiet_step (first | (with_reducible exact Since.call (Q1.out _)) | (with_reducible exact Since.call_same ((HSI.out _).mono fun _ _ h => ⟨h.1, h.2.symm⟩))))
                    refine wpQuiet_nil ?_
                    intro w6 hb_w6
                    have HTw6 := Lib.hid (HTw5.out.below hb_w6)
                    clear hb_w6 s_c0 s_c1 s_c2 s_d0 s_d1 s_d2 s_e1 s_e2 s_e3 s_e4 c0 c1 c2 d0 d1 d2 e1 e2 e3 e4 f0 f1 f2 hl1 hl2
                    go_wp2_with fail
                    go_ret
                    exact ⟨ret_str HE.out.symm, HTw6.out.old⟩
                · have HFI := Lib.hid (HFY.out _ (HFG1b.out.trans (HFY3.out _ (by rw [HF4.out, if_pos hbb]))))
                  have HE : Hid ((fsO FA ll).getD ByteArray.empty = sgB (⟨#[61]⟩ ++ vk ++ vi) b1) := by show _ = _; rw [HFI.out]; rfl
                  have hz : ¬ 9223372036854775807 < (⟨#[61]⟩ : ByteArray).size + vk.size := by rw [HVS3.out]; decide
                  have hz2 : ¬ 9223372036854775807 < (⟨#[61]⟩ ++ vk : ByteArray).size + vi.size := by rw [ByteArray.size_append, HVS.out, HVS3.out]; decide
                  have HSI := Lib.hid (fun w => HSG.out (⟨#[61]⟩ ++ vk ++ vi) b1 w (by rw [ByteArray.size_append, ByteArray.size_append, HVS.out, HVS3.out]; decide))
                  clear hbb HF4
                  obtain ⟨c0, c1, c2, f0, f1, f2, hl1⟩ := HTw4.out.a.cells
                  obtain ⟨d0, d1, d2, _, _, _, hl2⟩ := HTw4.out.b.cells
                  have e1 := HE1.out _ HTw4.out.old
                  have e2 := HE2.out _ HTw4.out.old
                  have e3 := HE3.out _ HTw4.out.old
                  have e4 := HE4.out _ HTw4.out.old
                  have s_c0 := fun s => Since.cell c0 s
                  have s_c1 := fun s => Since.cell c1 s
                  have s_c2 := fun s => Since.cell c2 s
                  have s_d0 := fun s => Since.cell d0 s
                  have s_d1 := fun s => Since.cell d1 s
                  have s_d2 := fun s => Since.cell d2 s
                  have s_e1 := fun s => Since.cell e1 s
                  have s_e2 := fun s => Since.cell e2 s
                  have s_e3 := fun s => Since.cell e3 s
                  have s_e4 := fun s => Since.cell e4 s
                  go_wp2_with fail
                  refine wp_region_since (by kernel_rfl) (by kernel_rfl) ?_
                  repeat (go_big_quiet_step (first | (with_reducible exact Since.call_same ((HSI.out _).mono fun _ _ h => ⟨h.1, h.2.symm⟩))))
                  refine wpQuiet_nil ?_
                  intro w5 hb_w5
                  have HTw5 := Lib.hid (HTw4.out.below hb_w5)
                  clear hb_w5 s_c0 s_c1 s_c2 s_d0 s_d1 s_d2 s_e1 s_e2 s_e3 s_e4 c0 c1 c2 d0 d1 d2 e1 e2 e3 e4 f0 f1 f2 hl1 hl2
                  go_wp2_with fail
                  go_ret
                  exact ⟨ret_str HE.out.symm, HTw5.out.old⟩
            · obtain rfl : k = i + 1 := by omega
              have hkI : ¬ ((i : Int) + 1 ≤ (i : Int)) := by omega
              have hkB : decide ((i : Int) + 1 ≤ (i : Int)) = false := decide_eq_false hkI
              have HFI2 := Lib.hid (HFN.out (HFG1b.out.trans HN3.out))
              have hii : ((i + 1 : Nat) : Int) = (i : Int) + 1 := by omega
              rw [hii]
              clear hii
              go_wp2_with fail
              go_roundw
              case rel => exact ⟨i + 1, by omega, by go_num, HFI2, HT⟩
              case measure => simp [intOf]; omega
        · have HFI := Lib.hid (HFY.out _ (HFS1.out hrr))
          have HE : Hid ((fsO FA ll).getD ByteArray.empty = sgB (⟨#[80]⟩ ++ vi) r1) := by show _ = _; rw [HFI.out]; rfl
          have hz : ¬ 9223372036854775807 < (⟨#[80]⟩ : ByteArray).size + vi.size := by rw [HVS.out]; decide
          have HSI := Lib.hid (fun w => HSG.out (⟨#[80]⟩ ++ vi) r1 w (by rw [ByteArray.size_append, HVS.out]; decide))
          clear hrr HFS1 HFG1
          obtain ⟨c0, c1, c2, f0, f1, f2, hl1⟩ := HTw3.out.a.cells
          obtain ⟨d0, d1, d2, _, _, _, hl2⟩ := HTw3.out.b.cells
          have e1 := HE1.out _ HTw3.out.old
          have e2 := HE2.out _ HTw3.out.old
          have s_c0 := fun s => Since.cell c0 s
          have s_c1 := fun s => Since.cell c1 s
          have s_c2 := fun s => Since.cell c2 s
          have s_d0 := fun s => Since.cell d0 s
          have s_d1 := fun s => Since.cell d1 s
          have s_d2 := fun s => Since.cell d2 s
          have s_e1 := fun s => Since.cell e1 s
          have s_e2 := fun s => Since.cell e2 s
          go_wp2_with fail
          refine wp_region_since (by kernel_rfl) (by kernel_rfl) ?_
          repeat (go_big_quiet_step (first | (with_reducible exact Since.call (J1.out _)) | (with_reducible exact Since.call_same ((HSI.out _).mono fun _ _ h => ⟨h.1, h.2.symm⟩))))
          refine wpQuiet_nil ?_
          intro w4 hb_w4
          have HTw4 := Lib.hid (HTw3.out.below hb_w4)
          clear hb_w4 s_c0 s_c1 s_c2 s_d0 s_d1 s_d2 s_e1 s_e2 c0 c1 c2 d0 d1 d2 e1 e2 f0 f1 f2 hl1 hl2
          go_wp2_with fail
          go_ret
          exact ⟨ret_str HE.out.symm, HTw4.out.old⟩
    · obtain rfl : i = ll := by omega
      have HE : Hid ((fsO FA i).getD ByteArray.empty = ByteArray.empty) := by show _ = _; rw [HN.out]; rfl
      go_wp2_with fail
      go_ret
      exact ⟨ret_str HE.out.symm, HT.out.old⟩
end Go.Proofs.YtnhlhjehocngcaaDoor
/- The reference's l7Formula, from l7Move. Conditions: the structures are valid, the pebbles fit, the levels are known, the second player does not win. -/
namespace Go.Proofs.YtnhlhjehocngcaaDoor
open Go.RowKit
set_option linter.unusedVariables false
set_option maxRecDepth 100000

/-- The told structure in its box. -/
def TellB (wr : World) (b n : Nat) (S R : ByteArray) (m : Nat) (S2 R2 : ByteArray) (va vb : Value) : Prop :=
  wr.heap[b]? = some (.cells #[.int .i64 (n : Int), .string S, .string R, .int .i64 (m : Int), .string S2, .string R2, va, vb] 71 (0, 0))
theorem TellB.cells {wr : World} {b n m : Nat} {S R S2 R2 : ByteArray} {va vb : Value} (h : TellB wr b n S R m S2 R2 va vb) : wr.cell? ⟨b, 0, none⟩ = some (.int .i64 (n : Int)) ∧ wr.cell? ⟨b, 1, none⟩ = some (.string S) ∧ wr.cell? ⟨b, 2, none⟩ = some (.string R) ∧ wr.cell? ⟨b, 3, none⟩ = some (.int .i64 (m : Int)) ∧ wr.cell? ⟨b, 4, none⟩ = some (.string S2) ∧ wr.cell? ⟨b, 5, none⟩ = some (.string R2) ∧ wr.cell? ⟨b, 6, none⟩ = some va ∧ wr.cell? ⟨b, 7, none⟩ = some vb := by
  unfold TellB at h
  refine ⟨?_, ?_, ?_, ?_, ?_, ?_, ?_, ?_⟩ <;> (unfold World.cell?; rw [h]; rfl)
theorem TellB.below {wr w' : World} {b n m : Nat} {S R S2 R2 : ByteArray} {va vb : Value} (h : TellB wr b n S R m S2 R2 va vb) (hb : Below wr.heap.size wr w') : TellB w' b n S R m S2 R2 va vb := (hb.block _ (Array.getElem?_eq_some_iff.1 h).1).trans h
theorem emp_ne {x : ByteArray} (h : x ≠ ByteArray.empty) : x.toList.isEmpty = false := by
  cases e : x.toList.isEmpty with
  | false => rfl
  | true =>
    have h1 := (tl_ne h).2
    have h2 : ByteArray.empty.toList = [] := (text_is _ _).2 rfl
    rw [h2, List.isEmpty_iff.1 e] at h1
    cases h1
set_option maxHeartbeats 2000000 in
theorem l7Formula_zero : FOK 0 := by
  intro n S R m S2 R2 va vb cs ds T L M v u w hT h0 hT3 hw
  have hD := l7Differ_any n m S R S2 R2 L M v u
  have HD := Lib.hid (fun W (hb : Below w.heap.size w W) => hD W hT.hS hT.hR hT.hn hT.hS2 hT.hR2 hT.hm (hT.iv.below hb) (hT.iu.below hb) hT.r hT.k3)
  have hne : firstA (stOf n S R) (stOf m S2 R2) L M ≠ ByteArray.empty := fun e => by
    have := (firstA_empty hT.r).1 e
    have h2 : pwB (stOf n S R) (stOf m S2 R2) n m 0 L M = Gs.same (stOf n S R) (layN L) (stOf m S2 R2) (layN M) := rfl
    rw [h2, this] at hw
    cases hw
  have HRV : Hid (firstA (stOf n S R) (stOf m S2 R2) L M = pebF 0 (stOf n S R) (stOf m S2 R2) L M) := rfl
  obtain ⟨ga, capa, rfl, -⟩ := hT.A
  obtain ⟨gb, capb, rfl, -⟩ := hT.B
  obtain ⟨a1, ca, rfl, _, _, _⟩ := hT.iv.view
  obtain ⟨b1, cb, rfl, _, _, _⟩ := hT.iu.view
  have htl := emp_ne hne
  generalize firstA (stOf n S R) (stOf m S2 R2) L M = RV at *
  have HB : Hid (Below w.heap.size w (w.alloc (.cells #[.int .i64 (n : Int), .string S, .string R, .int .i64 (m : Int), .string S2, .string R2, .slice (some ⟨ga, 0, none⟩) cs.length capa, .slice (some ⟨gb, 0, none⟩) ds.length capb] 71))) := (Below.refl _ _).alloc (Nat.le_refl _) _
  clear hD hT hw
  unfold strV at HD
  unfold l7V
  go_enter Tryd.func46, Tryd.ntmps46
  go_wp2_with fail
  refine (HD.out _ HB.out).mono ?_; rintro e w1 ⟨rfl, hb⟩
  have HB1 := Lib.hid (HB.out.trans (hb.mono HB.out.size))
  clear hb
  go_wp2_with fail
  go_ret
  exact ⟨by rw [← HRV.out]; rfl, HB1.out⟩
set_option maxHeartbeats 2000000 in
/-- A difference of the atoms ends it at once. -/
theorem l7Formula_now (t n : Nat) (S R : ByteArray) (m : Nat) (S2 R2 : ByteArray) (va vb : Value) (cs ds : List (List Nat)) (T : Nat) (L M : List Int) (v u : Value) (w : World) (hT : Tell w n S R m S2 R2 va vb cs ds T L M v u) (hf : Gs.same (stOf n S R) (layN L) (stOf m S2 R2) (layN M) = false) :
    Calls Tryd.prog 46 #[l7V n S R m S2 R2 va vb, v, u, .int .i64 ((t + 1 : Nat) : Int)] w fun e w' => e = .returned (.string (firstA (stOf n S R) (stOf m S2 R2) L M)) ∧ Below w.heap.size w w' := by
  have hD := l7Differ_any n m S R S2 R2 L M v u
  have HD := Lib.hid (fun W (hb : Below w.heap.size w W) => hD W hT.hS hT.hR hT.hn hT.hS2 hT.hR2 hT.hm (hT.iv.below hb) (hT.iu.below hb) hT.r hT.k3)
  have hne : firstA (stOf n S R) (stOf m S2 R2) L M ≠ ByteArray.empty := fun e => by
    have := (firstA_empty hT.r).1 e
    rw [this] at hf
    cases hf
  obtain ⟨ga, capa, rfl, -⟩ := hT.A
  obtain ⟨gb, capb, rfl, -⟩ := hT.B
  obtain ⟨a1, ca, rfl, _, _, _⟩ := hT.iv.view
  obtain ⟨b1, cb, rfl, _, _, _⟩ := hT.iu.view
  have htl := emp_ne hne
  generalize firstA (stOf n S R) (stOf m S2 R2) L M = RV at *
  have HB : Hid (Below w.heap.size w (w.alloc (.cells #[.int .i64 (n : Int), .string S, .string R, .int .i64 (m : Int), .string S2, .string R2, .slice (some ⟨ga, 0, none⟩) cs.length capa, .slice (some ⟨gb, 0, none⟩) ds.length capb] 71))) := (Below.refl _ _).alloc (Nat.le_refl _) _
  clear hD hT hf hne
  unfold strV at HD
  unfold l7V
  go_enter Tryd.func46, Tryd.ntmps46
  go_wp2_with fail
  refine (HD.out _ HB.out).mono ?_; rintro e w1 ⟨rfl, hb⟩
  have HB1 := Lib.hid (HB.out.trans (hb.mono HB.out.size))
  clear hb
  go_wp2_with fail
  go_ret
  exact ⟨rfl, HB1.out⟩
theorem mvT_size {t : Nat} {a b : Gs.St} {L M : List Int} {i k : Nat} (h1 : 1 ≤ a.n) (h2 : a.n ≤ 8) (h3 : 1 ≤ b.n) (h4 : b.n ≤ 8) (ht : t ≤ 3) : (mvT t a b L M i k).size ≤ 1000000 := by
  have hz : szF t ≤ 2851 := by
    match t, ht with
    | 0, _ => decide
    | 1, _ => decide
    | 2, _ => decide
    | 3, _ => decide
  unfold mvT
  cases e : fsO (mvO t a b L M i) k with
  | none => show ByteArray.empty.size ≤ _; exact Nat.zero_le _
  | some s =>
    obtain ⟨x, _, hx⟩ := fsO_mem e
    unfold mvO at hx
    split at hx
    · injection hx with hx
      rw [← hx]
      have h5 : (quB ⟨#[83]⟩ i ((List.range b.n).map fun y : Nat => pebF t a b (L.set i (x : Int)) (M.set i (y : Int)))).size ≤ 3 + 8 * (2851 + 1) := quB_size (by decide) (by simp; omega) (fun h => by
        have := congrArg List.length h
        simp at this
        omega) (fun f hf => by
        obtain ⟨y, _, rfl⟩ := List.mem_map.1 hf
        exact Nat.le_trans (pebF_size t a b _ _ h1 h2 h3 h4) hz)
      exact Nat.le_trans h5 (by omega)
    · cases hx
set_option maxHeartbeats 4000000 in
theorem l7Formula_succ (t : Nat) (hFO : FOK t) (hMO : MOK t) : FOK (t + 1) := by
  intro n S R m S2 R2 va vb cs ds T L M v u w hT h0 hT3 hw
  by_cases hf : Gs.same (stOf n S R) (layN L) (stOf m S2 R2) (layN M) = false
  · rw [show pebF (t + 1) (stOf n S R) (stOf m S2 R2) L M = firstA (stOf n S R) (stOf m S2 R2) L M by rw [pebF_succ, if_pos hf]]
    exact l7Formula_now t n S R m S2 R2 va vb cs ds T L M v u w hT hf
  · have hem : firstA (stOf n S R) (stOf m S2 R2) L M = ByteArray.empty := (firstA_empty hT.r).2 (by simpa using hf)
    have hD := l7Differ_any n m S R S2 R2 L M v u
    have HD := Lib.hid (fun W (hb : Below w.heap.size w W) => hD W hT.hS hT.hR hT.hn hT.hS2 hT.hR2 hT.hm (hT.iv.below hb) (hT.iu.below hb) hT.r hT.k3)
    rw [hem] at HD
    have HFO := Lib.hid (fun W (hb : Below w.heap.size w W) (h : pwB (stOf n S R) (stOf m S2 R2) n m t L M = false) => hFO n S R m S2 R2 va vb cs ds T L M v u W (hT.below hb) (by omega) hT3 h)
    have HMA : Hid (∀ (j : Nat) (W : World), j < L.length → Below w.heap.size w W → Calls Tryd.prog 71 #[l7V n S R m S2 R2 va vb, v, u, .int .i64 ((t : Int) + 1), .int .i64 (j : Int)] W fun e w' => e = .returned (.string (mvT t (stOf n S R) (stOf m S2 R2) L M j n)) ∧ Below W.heap.size W w') := fun j W hj hb => hMO n S R m S2 R2 va vb cs ds T L M v u j W (hT.below hb) (by omega) hT3 hj
    have HMB : Hid (∀ (j : Nat) (W : World), j < L.length → Below w.heap.size w W → Calls Tryd.prog 71 #[l7V m S2 R2 n S R vb va, u, v, .int .i64 ((t : Int) + 1), .int .i64 (j : Int)] W fun e w' => e = .returned (.string (mvT t (stOf m S2 R2) (stOf n S R) M L j m)) ∧ Below W.heap.size W w') := fun j W hj hb => hMO m S2 R2 n S R vb va ds cs T M L u v j W (hT.below hb).swap (by omega) hT3 (by rw [← hT.r.len]; exact hj)
    have HSZ : Hid (∀ j, (mvT t (stOf m S2 R2) (stOf n S R) M L j m).size ≤ 1000000) := fun j => mvT_size hT.m1 hT.hm hT.n1 hT.hn (by omega)
    have HML := Lib.hid hT.r.len
    have HK3 := Lib.hid hT.k3
    have HIA := Lib.hid (fun (W : World) (hb : Below w.heap.size w W) => l7Index_any n S R L v W hT.hn hT.k3 (hT.iv.below hb) hT.r.la)
    have HIB := Lib.hid (fun (W : World) (hb : Below w.heap.size w W) => l7Index_any m S2 R2 M u W hT.hm (by have := hT.r.len; have := hT.k3; omega) (hT.iu.below hb) hT.r.lb)
    have HTE := Lib.hid hT
    have HEQ := Lib.hid (hT.eq (t := t) (by omega))
    obtain ⟨f1, f2, _⟩ := hT.f.at' t (by omega)
    have hix := ixL_lt L.length rfl hT.r.la
    have hjx := ixL_lt L.length hT.r.len.symm hT.r.lb
    obtain ⟨ga, capa, g1, o1, cap1, rfl, x0, x1⟩ := hT.A.look (i := t) (j := ixL (n + 1) L) (by rw [hT.f.lc]; omega) (by rw [f1]; exact hix)
    obtain ⟨gb, capb, g2, o2, cap2, rfl, y0, y1⟩ := hT.B.look (i := t) (j := ixL (m + 1) M) (by rw [hT.f.ld]; omega) (by rw [f2]; exact hjx)
    obtain ⟨a1, ca, rfl, _, _, _⟩ := hT.iv.view
    obtain ⟨b1, cb, rfl, _, _, _⟩ := hT.iu.view
    have hpn := pw_le hT.hn hT.k3
    have hpm := pw_le hT.hm hT.k3
    rw [f1] at x0
    rw [f2] at y0
    have hlc := hT.f.lc
    have hld := hT.f.ld
    have hti : t < cs.length := by omega
    have hti2 : t < ds.length := by omega
    obtain ⟨lc, hlcE⟩ : ∃ lc, cs.length = lc := ⟨_, rfl⟩
    obtain ⟨ld, hldE⟩ : ∃ ld, ds.length = ld := ⟨_, rfl⟩
    rw [hlcE] at hti HFO HTE HMA HMB ⊢
    rw [hldE] at hti2 HFO HTE HMA HMB ⊢
    clear hlcE hldE hlc hld
    generalize (n + 1) ^ L.length = N at *
    generalize (m + 1) ^ L.length = N2 at *
    generalize hia : ixL (n + 1) L = ia at *
    generalize hib : ixL (m + 1) M = ib at *
    generalize hcN : (cs.getD t []).getD ia 0 = cN at *
    generalize hdN : (ds.getD t []).getD ib 0 = dN at *
    clear hia hib hcN hdN
    have HBB : Hid (TellB (w.alloc (.cells #[.int .i64 (n : Int), .string S, .string R, .int .i64 (m : Int), .string S2, .string R2, .slice (some ⟨ga, 0, none⟩) lc capa, .slice (some ⟨gb, 0, none⟩) ld capb] 71)) w.heap.size n S R m S2 R2 (.slice (some ⟨ga, 0, none⟩) lc capa) (.slice (some ⟨gb, 0, none⟩) ld capb) ∧ Below w.heap.size w (w.alloc (.cells #[.int .i64 (n : Int), .string S, .string R, .int .i64 (m : Int), .string S2, .string R2, .slice (some ⟨ga, 0, none⟩) lc capa, .slice (some ⟨gb, 0, none⟩) ld capb] 71))) := ⟨heap_alloc_new w _, (Below.refl _ _).alloc (Nat.le_refl _) _⟩
    have HCX : Hid (∀ W : World, Below w.heap.size w W → W.cell? ⟨ga, t, none⟩ = some (.slice (some ⟨g1, o1, none⟩) N cap1) ∧ W.cell? ⟨g1, o1 + ia, none⟩ = some (.int .i64 (cN : Int)) ∧ W.cell? ⟨gb, t, none⟩ = some (.slice (some ⟨g2, o2, none⟩) N2 cap2) ∧ W.cell? ⟨g2, o2 + ib, none⟩ = some (.int .i64 (dN : Int))) := by
      intro W hb
      have key : ∀ (p : Addr) (z : Value), w.cell? p = some z → W.cell? p = some z := fun p z h => (hb.cell (p := p) (World.block_lt_of_cell? _ _ h)).trans h
      exact ⟨key _ _ x0, key _ _ x1, key _ _ y0, key _ _ y1⟩
    have hem1 : ByteArray.empty.toList.isEmpty = true := by rw [show ByteArray.empty.toList = [] from (text_is _ _).2 rfl]; rfl
    have h1 : (ia : Int) < (N : Int) := by omega
    have h2 : (ib : Int) < (N2 : Int) := by omega
    have h3 : (ia : Int) ≤ 729 := by omega
    have h4 : (ib : Int) ≤ 729 := by omega
    have htI : (t : Int) ≤ 3 := by omega
    have htl : (t : Int) < (lc : Int) := by omega
    have htl2 : (t : Int) < (ld : Int) := by omega
    have ht1 : (t : Int) + 1 - 1 = (t : Int) := by omega
    have htz : ¬ ((t : Int) + 1 = 0) := by omega
    have htz2 : ((t : Int) + 1 == 0) = false := by rw [beq_eq_false_iff_ne]; omega
    have HW := Lib.hid hw
    have HSM : Hid (¬ Gs.same (stOf n S R) (layN L) (stOf m S2 R2) (layN M) = false) := hf
    clear hpn hpm hix hjx x0 x1 y0 y1 f1 f2 hw hf hem hD hFO hMO hT hti hti2
    unfold strV at HD HIA HIB
    have HTU := Lib.hid (fun W => l7Turned_any n m S R S2 R2 ga gb lc ld capa capb W)
    unfold l7V at HFO HMA HMB HTU ⊢
    go_enter Tryd.func46, Tryd.ntmps46
    go_wp2_with fail
    refine (HD.out _ HBB.out.2).mono ?_; rintro e w1 ⟨rfl, hb⟩
    have HB1 : Hid (TellB w1 w.heap.size n S R m S2 R2 (.slice (some ⟨ga, 0, none⟩) lc capa) (.slice (some ⟨gb, 0, none⟩) ld capb) ∧ Below w.heap.size w w1) := ⟨HBB.out.1.below hb, HBB.out.2.trans (hb.mono HBB.out.2.size)⟩
    clear hb HBB
    go_upto_region 4 with fail
    obtain ⟨x0, x1, y0, y1⟩ := HCX.out w1 HB1.out.2
    obtain ⟨c0, c1, c2, c3, c4, c5, c6, c7⟩ := HB1.out.1.cells
    have J1 : Hid (∀ z : Since w1, _) := fun z => HIA.out z.w (HB1.out.2.trans (z.below.mono HB1.out.2.size))
    have J2 : Hid (∀ z : Since w1, _) := fun z => HIB.out z.w (HB1.out.2.trans (z.below.mono HB1.out.2.size))
    have p0 := fun s => Since.cell c0 s
    have p1 := fun s => Since.cell c1 s
    have p2 := fun s => Since.cell c2 s
    have p3 := fun s => Since.cell c3 s
    have p4 := fun s => Since.cell c4 s
    have p5 := fun s => Since.cell c5 s
    have p6 := fun s => Since.cell c6 s
    have p7 := fun s => Since.cell c7 s
    have p8 := fun s => Since.cell x0 s
    have p9 := fun s => Since.cell x1 s
    have q8 := fun s => Since.cell y0 s
    have q9 := fun s => Since.cell y1 s
    refine wp_region_since (by kernel_rfl) (by kernel_rfl) ?_
    repeat (go_big_quiet_step (first | (with_reducible exact Since.call (J1.out _)) | (with_reducible exact Since.call (J2.out _))))
    refine wpQuiet_nil ?_
    intro w9 hb9
    have HB9 : Hid (TellB w9 w.heap.size n S R m S2 R2 (.slice (some ⟨ga, 0, none⟩) lc capa) (.slice (some ⟨gb, 0, none⟩) ld capb) ∧ Below w.heap.size w w9) := ⟨HB1.out.1.below hb9, HB1.out.2.trans (hb9.mono HB1.out.2.size)⟩
    clear hb9 p0 p1 p2 p3 p4 p5 p6 p7 p8 p9 q8 q9 c0 c1 c2 c3 c4 c5 c6 c7 x0 x1 y0 y1 J1 J2 HB1 HIA HIB HD
    obtain ⟨c0, c1, c2, c3, c4, c5, c6, c7⟩ := HB9.out.1.cells
    by_cases hp : pwB (stOf n S R) (stOf m S2 R2) n m t L M = false
    · have hcd : ¬ (cN = dN) := fun e => by have := HEQ.out.1 e; rw [hp] at this; cases this
      have hcdI : ¬ ((cN : Int) = (dN : Int)) := by omega
      have HFC := Lib.hid (HFO.out w9 HB9.out.2 hp)
      have HRV : Hid (pebF t (stOf n S R) (stOf m S2 R2) L M = pebF (t + 1) (stOf n S R) (stOf m S2 R2) L M) := by
        show _ = _
        rw [pebF_succ, if_neg HSM.out]
        exact (if_pos hp).symm
      clear hp hcd
      go_wp2_with fail
      refine HFC.out.mono ?_; rintro e w10 ⟨rfl, hb10⟩
      have HB10 := Lib.hid (HB9.out.2.trans (hb10.mono HB9.out.2.size))
      clear hb10
      go_wp2_with fail
      go_ret
      exact ⟨by rw [← HRV.out]; rfl, HB10.out⟩
    · have hpt : pwB (stOf n S R) (stOf m S2 R2) n m t L M = true := by simpa using hp
      have hcd : cN = dN := HEQ.out.2 hpt
      subst hcd
      have HPT := Lib.hid hpt
      clear hp hpt
      have HRV : Hid ((fsO (plO t (stOf n S R) (stOf m S2 R2) L M) L.length).getD ByteArray.empty = pebF (t + 1) (stOf n S R) (stOf m S2 R2) L M) := by
        show _ = _
        rw [pebF_succ, if_neg HSM.out]
        exact (if_neg (fun h => by rw [show pwB (stOf n S R) (stOf m S2 R2) (stOf n S R).n (stOf m S2 R2).n t L M = true from HPT.out] at h; cases h)).symm
      have HPL := Lib.hid (fun j => plO_mv t (stOf n S R) (stOf m S2 R2) L M j)
      have hk3 := HK3.out
      have hkI : (L.length : Int) ≤ 3 := by omega
      clear c0 c1 c2 c3 c4 c5 c6 c7 HPT HSM HEQ HTE HFO
      go_wp2_with fail
      simp only [bne_self_eq_false]
      go_loopw [10] (fun q wr => ∃ j : Nat, j ≤ L.length ∧ q = .int .i64 (j : Int) ∧ Hid (TellB wr w.heap.size n S R m S2 R2 (.slice (some ⟨ga, 0, none⟩) lc capa) (.slice (some ⟨gb, 0, none⟩) ld capb) ∧ Below w.heap.size w wr) ∧ Hid (fsO (plO t (stOf n S R) (stOf m S2 R2) L M) j = none)) (fun q _ => L.length - (intOf q).toNat)
      case atStart => exact ⟨0, by omega, rfl, HB9, rfl⟩
      case round =>
        clear HB9
        obtain ⟨j, hj, rfl, HB, HN⟩ := hrel
        by_cases hlt : j < L.length
        · have hjI : (j : Int) < (L.length : Int) := by omega
          obtain ⟨c0, c1, c2, c3, c4, c5, c6, c7⟩ := HB.out.1.cells
          have HA1 := Lib.hid (HMA.out j wr hlt HB.out.2)
          have HPJ := Lib.hid (HPL.out j)
          have HB1 := Lib.hid (fun W hb => HMB.out j W hlt hb)
          have HZ2 := Lib.hid (HSZ.out j)
          have hyes : Hid (∀ s, plO t (stOf n S R) (stOf m S2 R2) L M j = some s → s = pebF (t + 1) (stOf n S R) (stOf m S2 R2) L M) := fun s hs => by
            rw [← HRV.out, fsO_yes HN.out hs hlt]; rfl
          have hno : Hid (plO t (stOf n S R) (stOf m S2 R2) L M j = none → fsO (plO t (stOf n S R) (stOf m S2 R2) L M) (j + 1) = none) := fun h => fsO_no HN.out h
          rw [show (stOf n S R).n = n from rfl, show (stOf m S2 R2).n = m from rfl] at HPJ
          clear HRV HMA HMB HPL HN
          generalize mvT t (stOf n S R) (stOf m S2 R2) L M j n = mv1 at *
          generalize mvT t (stOf m S2 R2) (stOf n S R) M L j m = mv2 at *
          by_cases he1 : mv1 = ByteArray.empty
          · subst he1
            by_cases he2 : mv2 = ByteArray.empty
            · subst he2
              have HN2 : Hid (fsO (plO t (stOf n S R) (stOf m S2 R2) L M) (j + 1) = none) := hno.out (by rw [HPJ.out, if_neg (fun h => h rfl), if_neg (fun h => h rfl)])
              clear HPJ hyes hno
              go_wp2_with fail
              refine HA1.out.mono ?_; rintro e w2 ⟨rfl, hb2⟩
              have HB2 : Hid (TellB w2 w.heap.size n S R m S2 R2 (.slice (some ⟨ga, 0, none⟩) lc capa) (.slice (some ⟨gb, 0, none⟩) ld capb) ∧ Below w.heap.size w w2) := ⟨HB.out.1.below hb2, HB.out.2.trans (hb2.mono HB.out.2.size)⟩
              clear hb2 c0 c1 c2 c3 c4 c5 c6 c7 HB
              obtain ⟨c0, c1, c2, c3, c4, c5, c6, c7⟩ := HB2.out.1.cells
              go_wp2_with fail
              refine (HTU.out _).mono ?_; rintro e w3 ⟨rfl, hb3⟩
              have HB3 : Hid (TellB w3 w.heap.size n S R m S2 R2 (.slice (some ⟨ga, 0, none⟩) lc capa) (.slice (some ⟨gb, 0, none⟩) ld capb) ∧ Below w.heap.size w w3) := ⟨HB2.out.1.below hb3, HB2.out.2.trans (hb3.mono HB2.out.2.size)⟩
              clear hb3 HB2 c0 c1 c2 c3 c4 c5 c6 c7
              have HA3 := Lib.hid (HB1.out w3 HB3.out.2)
              go_wp2_with fail
              refine HA3.out.mono ?_; rintro e w4 ⟨rfl, hb4⟩
              have HB4 : Hid (TellB w4 w.heap.size n S R m S2 R2 (.slice (some ⟨ga, 0, none⟩) lc capa) (.slice (some ⟨gb, 0, none⟩) ld capb) ∧ Below w.heap.size w w4) := ⟨HB3.out.1.below hb4, HB3.out.2.trans (hb4.mono HB3.out.2.size)⟩
              clear hb4 HB3
              go_wp2_with fail
              go_roundw
              case rel => exact ⟨j + 1, by omega, by go_num, HB4, HN2⟩
              case measure => simp [intOf]; omega
            · have hE := emp_ne he2
              have HY : Hid ((⟨#[33]⟩ : ByteArray) ++ mv2 = pebF (t + 1) (stOf n S R) (stOf m S2 R2) L M) := hyes.out _ (by rw [HPJ.out, if_neg (fun h => h rfl), if_pos he2])
              have hz := HZ2.out
              clear HPJ hyes hno he2
              go_wp2_with fail
              refine HA1.out.mono ?_; rintro e w2 ⟨rfl, hb2⟩
              have HB2 : Hid (TellB w2 w.heap.size n S R m S2 R2 (.slice (some ⟨ga, 0, none⟩) lc capa) (.slice (some ⟨gb, 0, none⟩) ld capb) ∧ Below w.heap.size w w2) := ⟨HB.out.1.below hb2, HB.out.2.trans (hb2.mono HB.out.2.size)⟩
              clear hb2 c0 c1 c2 c3 c4 c5 c6 c7 HB
              obtain ⟨c0, c1, c2, c3, c4, c5, c6, c7⟩ := HB2.out.1.cells
              go_wp2_with fail
              refine (HTU.out _).mono ?_; rintro e w3 ⟨rfl, hb3⟩
              have HB3 : Hid (TellB w3 w.heap.size n S R m S2 R2 (.slice (some ⟨ga, 0, none⟩) lc capa) (.slice (some ⟨gb, 0, none⟩) ld capb) ∧ Below w.heap.size w w3) := ⟨HB2.out.1.below hb3, HB2.out.2.trans (hb3.mono HB2.out.2.size)⟩
              clear hb3 HB2 c0 c1 c2 c3 c4 c5 c6 c7
              have HA3 := Lib.hid (HB1.out w3 HB3.out.2)
              go_wp2_with fail
              refine HA3.out.mono ?_; rintro e w4 ⟨rfl, hb4⟩
              have HB4 := Lib.hid (HB3.out.2.trans (hb4.mono HB3.out.2.size))
              clear hb4 HB3
              have hsz1 : (⟨#[33]⟩ : ByteArray).size = 1 := rfl
              go_wp2_with fail
              go_ret
              exact ⟨by rw [← HY.out]; rfl, HB4.out⟩
          · have hE := emp_ne he1
            have HY : Hid (mv1 = pebF (t + 1) (stOf n S R) (stOf m S2 R2) L M) := hyes.out _ (by rw [HPJ.out, if_pos he1])
            clear HPJ hyes hno he1
            go_wp2_with fail
            refine HA1.out.mono ?_; rintro e w2 ⟨rfl, hb2⟩
            have HB2 := Lib.hid (HB.out.2.trans (hb2.mono HB.out.2.size))
            clear hb2
            go_wp2_with fail
            go_ret
            exact ⟨by rw [← HY.out]; rfl, HB2.out⟩
        · obtain rfl : j = L.length := by omega
          have HE : Hid (ByteArray.empty = pebF (t + 1) (stOf n S R) (stOf m S2 R2) L M) := by
            show _ = _
            rw [← HRV.out, HN.out]; rfl
          clear HRV HMA HMB HPL HN
          go_wp2_with fail
          go_ret
          exact ⟨by rw [← HE.out]; rfl, HB.out.2⟩
end Go.Proofs.YtnhlhjehocngcaaDoor
/- The reference's l7Move, from l7Formula. Conditions: the structures are valid, the pebbles fit, the levels are known. -/
namespace Go.Proofs.YtnhlhjehocngcaaDoor
open Go.RowKit
set_option linter.unusedVariables false
set_option maxRecDepth 100000

theorem step_app1 {ops : Array Oper} {o : Oper} {a : Act} {K : Act → World → Prop} {Q : Exit → Act → World → Prop} {E : Prop} {w0 w : World} {v : Value} {L : List ByteArray}
    (hown : Strs w0 w v L) (hL : Hid (L.length ≤ 2000000)) (hgd : o.guard = none) (s x : Operand)
    (ho : o.op = .call { callee := .builtin .append, args := #[s, x], argTypes := #[114, 114] }) (y : ByteArray) (b : Nat) (hb : w.heap.size = b)
    (hs : a.eval s = v) (hx : a.eval x = .slice (some ⟨b, 0, none⟩) 1 1)
    (h : ∀ g cap w', Strs w0 w' (.slice (some ⟨g, 0, none⟩) (L.length + 1) cap) (L ++ [y]) → K (a.put o.dst (.slice (some ⟨g, 0, none⟩) (L.length + 1) cap)) w') :
    if Region.wanted o (yielded ops a.tmps) = true then Oper.wp Tryd.prog o a (w.alloc (.cells #[.string y] 9)) K Q else E := by
  have hL := hL.out
  subst hb
  obtain ⟨i, hi, hz, h1, h2⟩ := info_parts strInfo9
  have hbase : w0.heap.size ≤ w.heap.size := hown.old.size
  refine step_append_lies _ hgd s x 114 ho w0.heap.size 9 i (.string ByteArray.empty) 1 16 Tryd.underlying114 hi hz h1 h2 rfl (by decide) v L.length (L.map .string) hs (hown.own.alloc _) ⟨w.heap.size, 0, none⟩ 1 1 [.string y] hx rfl ?_ ?_ (by decide) ?_ ?_ ?_ _ rfl ?_
  · intro j u hj
    match j, hj with
    | 0, hj => simp at hj; subst hj; simp [Addr.add]
  · intro u hu
    simp at hu; subst hu; rfl
  · unfold maxLen; omega
  · omega
  · simp; omega
  · intro g cap w' h2 h3 h4 h5
    refine h g cap w' ⟨?_, by simp, ?_⟩
    · simpa using h2
    · exact (hown.old.alloc hbase _).grown h3 (by simp; omega) fun k hk => (hown.own.lt k hk).1
/-- A row of a level's numbers. -/
theorem LevAt.row {w : World} {v : Value} {cs : List (List Nat)} (h : LevAt w v cs) {i : Nat} (hi : i < cs.length) (h0 : 0 < (cs.getD i []).length) :
    ∃ g cap g2 o cap2, v = .slice (some ⟨g, 0, none⟩) cs.length cap ∧ w.cell? ⟨g, i, none⟩ = some (.slice (some ⟨g2, o, none⟩) (cs.getD i []).length cap2) ∧ ∀ j, j < (cs.getD i []).length → w.cell? ⟨g2, o + j, none⟩ = some (.int .i64 (((cs.getD i []).getD j 0 : Nat) : Int)) := by
  obtain ⟨g, cap, rfl, _, _, _, h4⟩ := h
  obtain ⟨x, q1, q2⟩ := h4 i hi
  rcases q2 with ⟨rfl, e⟩ | ⟨g2, o, cap2, rfl, _, _, _, hc⟩
  · rw [e] at h0; simp at h0
  · exact ⟨g, cap, g2, o, cap2, rfl, q1, hc⟩
/-- What l7Move keeps of the memory. -/
structure Mv (w : World) (n : Nat) (S R : ByteArray) (m : Nat) (S2 R2 : ByteArray) (ga lc capa gb ld capb : Nat) (t N N2 g1 o1 cap1 g2 o2 cap2 : Nat) (C D : List Nat) (wr : World) : Prop where
  b : TellB wr w.heap.size n S R m S2 R2 (.slice (some ⟨ga, 0, none⟩) lc capa) (.slice (some ⟨gb, 0, none⟩) ld capb)
  old : Below w.heap.size w wr
  x0 : wr.cell? ⟨ga, t, none⟩ = some (.slice (some ⟨g1, o1, none⟩) N cap1)
  x1 : ∀ j, j < N → wr.cell? ⟨g1, o1 + j, none⟩ = some (.int .i64 ((C.getD j 0 : Nat) : Int))
  y0 : wr.cell? ⟨gb, t, none⟩ = some (.slice (some ⟨g2, o2, none⟩) N2 cap2)
  y1 : ∀ j, j < N2 → wr.cell? ⟨g2, o2 + j, none⟩ = some (.int .i64 ((D.getD j 0 : Nat) : Int))
theorem Mv.below {w wr w' : World} {n m ga lc capa gb ld capb t N N2 g1 o1 cap1 g2 o2 cap2 : Nat} {S R S2 R2 : ByteArray} {C D : List Nat} (h : Mv w n S R m S2 R2 ga lc capa gb ld capb t N N2 g1 o1 cap1 g2 o2 cap2 C D wr) (hb : Below wr.heap.size wr w') : Mv w n S R m S2 R2 ga lc capa gb ld capb t N N2 g1 o1 cap1 g2 o2 cap2 C D w' :=
  ⟨h.b.below hb, h.old.trans (hb.mono h.old.size), (hb.cell (World.block_lt_of_cell? _ _ h.x0)).trans h.x0, fun j hj => (hb.cell (World.block_lt_of_cell? _ _ (h.x1 j hj))).trans (h.x1 j hj), (hb.cell (World.block_lt_of_cell? _ _ h.y0)).trans h.y0, fun j hj => (hb.cell (World.block_lt_of_cell? _ _ (h.y1 j hj))).trans (h.y1 j hj)⟩
theorem mvT_hit {t : Nat} {a b : Gs.St} {L M : List Int} {i x k : Nat} (h : fsO (mvO t a b L M i) x = none) (hb : beatA a b t L M i x = true) (hx : x < k) : mvT t a b L M i k = quB ⟨#[83]⟩ i ((List.range b.n).map fun y : Nat => pebF t a b (L.set i (x : Int)) (M.set i (y : Int))) := by
  unfold mvT
  rw [fsO_yes h (show mvO t a b L M i x = some _ by unfold mvO; rw [if_pos hb]) hx]
  rfl
theorem mvT_miss {t : Nat} {a b : Gs.St} {L M : List Int} {i x : Nat} (h : fsO (mvO t a b L M i) x = none) (hb : beatA a b t L M i x = false) : fsO (mvO t a b L M i) (x + 1) = none := fsO_no h (by unfold mvO; rw [hb]; rfl)
theorem ex3 {i : Nat} (hi : i < 3) : (⟨#[97, 98, 99]⟩ : ByteArray).extract i (i + 1) = vnB i := by
  match i, hi with
  | 0, _ => rfl
  | 1, _ => rfl
  | 2, _ => rfl
theorem range_snoc (F : Nat → ByteArray) (y : Nat) : (List.range (y + 1)).map F = (List.range y).map F ++ [F y] := by rw [List.range_succ, List.map_append]; rfl
set_option maxHeartbeats 4000000 in
theorem l7Move_ok (t : Nat) (hFO : FOK t) : MOK t := by
  intro n S R m S2 R2 va vb cs ds T L M v u i w hT ht hT3 hi
  have hn := hT.hn
  have hm := hT.hm
  have hk3 := hT.k3
  have hlen := hT.r.len
  have HPA : Hid (∀ (x : Nat) (W : World), Below w.heap.size w W → Calls Tryd.prog 90 #[v, .int .i64 (i : Int), .int .i64 (x : Int)] W (ListI (L.set i (x : Int)) W)) := fun x W hb => l7Put_any L i (x : Int) v W (hT.iv.below hb) hi (by omega)
  have HPB : Hid (∀ (y : Nat) (W : World), Below w.heap.size w W → Calls Tryd.prog 90 #[u, .int .i64 (i : Int), .int .i64 (y : Int)] W (ListI (M.set i (y : Int)) W)) := fun y W hb => l7Put_any M i (y : Int) u W (hT.iu.below hb) (by omega) (by omega)
  have HIA : Hid (∀ (x : Nat) (v' : Value) (W : World), x < n → IntsAt W v' (L.set i (x : Int)) → Calls Tryd.prog 65 #[strV n S R, v'] W fun e w' => e = .returned (.int .i64 ((ixL (n + 1) (L.set i (x : Int)) : Nat) : Int)) ∧ Below W.heap.size W w') := fun x v' W hx h => l7Index_any n S R _ v' W hn (by rw [List.length_set]; exact hk3) h (Pbs.set hT.r.la i hx)
  have HIB : Hid (∀ (y : Nat) (v' : Value) (W : World), y < m → IntsAt W v' (M.set i (y : Int)) → Calls Tryd.prog 65 #[strV m S2 R2, v'] W fun e w' => e = .returned (.int .i64 ((ixL (m + 1) (M.set i (y : Int)) : Nat) : Int)) ∧ Below W.heap.size W w') := fun y v' W hy h => l7Index_any m S2 R2 _ v' W hm (by rw [List.length_set]; omega) h (Pbs.set hT.r.lb i hy)
  have HFA : Hid (∀ (x y : Nat) (v' u' : Value) (W : World), x < n → y < m → Below w.heap.size w W → IntsAt W v' (L.set i (x : Int)) → IntsAt W u' (M.set i (y : Int)) → pwB (stOf n S R) (stOf m S2 R2) n m t (L.set i (x : Int)) (M.set i (y : Int)) = false → Calls Tryd.prog 46 #[l7V n S R m S2 R2 va vb, v', u', .int .i64 (t : Int)] W fun e w' => e = .returned (.string (pebF t (stOf n S R) (stOf m S2 R2) (L.set i (x : Int)) (M.set i (y : Int)))) ∧ Below W.heap.size W w') := fun x y v' u' W hx hy hb hv hu hp => hFO n S R m S2 R2 va vb cs ds T _ _ v' u' W ((hT.below hb).put i hx hy hv hu) (by omega) hT3 hp
  have HEQ : Hid (∀ (x y : Nat), x < n → y < m → ((cs.getD t []).getD (ixL (n + 1) (L.set i (x : Int))) 0 = (ds.getD t []).getD (ixL (m + 1) (M.set i (y : Int))) 0 ↔ pwB (stOf n S R) (stOf m S2 R2) n m t (L.set i (x : Int)) (M.set i (y : Int)) = true)) := fun x y hx hy => (hT.f.at' t (by omega)).2.2.2.2 _ _ (Pbs.set hT.r.la i hx) (Pbs.set hT.r.lb i hy) (by rw [List.length_set]) (by rw [List.length_set, hT.r.len]) (hT.r.putB i hx hy).sg
  have HXA : Hid (∀ x, x < n → ixL (n + 1) (L.set i (x : Int)) < (n + 1) ^ L.length) := fun x hx => ixL_lt L.length (by rw [List.length_set]) (Pbs.set hT.r.la i hx)
  have HXB : Hid (∀ y, y < m → ixL (m + 1) (M.set i (y : Int)) < (m + 1) ^ L.length) := fun y hy => ixL_lt L.length (by rw [List.length_set, hlen]) (Pbs.set hT.r.lb i hy)
  have hpn := pw_le hn hk3
  have hpm := pw_le hm hk3
  have f1 := (hT.f.at' t (by omega)).1
  have f2 := (hT.f.at' t (by omega)).2.1
  have hlc := hT.f.lc
  have hld := hT.f.ld
  have hN0 : 0 < (n + 1) ^ L.length := Nat.pow_pos (by omega)
  have hN20 : 0 < (m + 1) ^ L.length := Nat.pow_pos (by omega)
  obtain ⟨ga, capa, g1, o1, cap1, rfl, x0, x1⟩ := hT.A.row (i := t) (by omega) (by rw [f1]; exact hN0)
  obtain ⟨gb, capb, g2, o2, cap2, rfl, y0, y1⟩ := hT.B.row (i := t) (by omega) (by rw [f2]; exact hN20)
  rw [f1] at x0 x1
  rw [f2] at y0 y1
  have HSZ : Hid (∀ x y : Nat, (pebF t (stOf n S R) (stOf m S2 R2) (L.set i (x : Int)) (M.set i (y : Int))).size ≤ 100000) := fun x y => by
    have h1 := pebF_size t (stOf n S R) (stOf m S2 R2) (L.set i (x : Int)) (M.set i (y : Int)) hT.n1 hT.hn hT.m1 hT.hm
    have h2 : szF t ≤ 2851 := by
      have : t ≤ 3 := by omega
      match t, this with
      | 0, _ => decide
      | 1, _ => decide
      | 2, _ => decide
      | 3, _ => decide
    show _ ≤ _
    omega
  have hm1 := hT.m1
  obtain ⟨a1, ca, rfl, _, _, _⟩ := hT.iv.view
  obtain ⟨b1, cb, rfl, _, _, _⟩ := hT.iu.view
  have htl : t < cs.length := by omega
  have htl2 : t < ds.length := by omega
  generalize cs.length = lc at *
  generalize ds.length = ld at *
  have HMV : Hid (Mv w n S R m S2 R2 ga lc capa gb ld capb t ((n + 1) ^ L.length) ((m + 1) ^ L.length) g1 o1 cap1 g2 o2 cap2 (cs.getD t []) (ds.getD t []) (w.alloc (.cells #[.int .i64 (n : Int), .string S, .string R, .int .i64 (m : Int), .string S2, .string R2, .slice (some ⟨ga, 0, none⟩) lc capa, .slice (some ⟨gb, 0, none⟩) ld capb] 71))) := by
    have hb : Below w.heap.size w (w.alloc (.cells #[.int .i64 (n : Int), .string S, .string R, .int .i64 (m : Int), .string S2, .string R2, .slice (some ⟨ga, 0, none⟩) lc capa, .slice (some ⟨gb, 0, none⟩) ld capb] 71)) := (Below.refl _ _).alloc (Nat.le_refl _) _
    have key : ∀ (p : Addr) (z : Value), w.cell? p = some z → (w.alloc (.cells #[.int .i64 (n : Int), .string S, .string R, .int .i64 (m : Int), .string S2, .string R2, .slice (some ⟨ga, 0, none⟩) lc capa, .slice (some ⟨gb, 0, none⟩) ld capb] 71)).cell? p = some z := fun p z h => (hb.cell (p := p) (World.block_lt_of_cell? _ _ h)).trans h
    exact ⟨heap_alloc_new w _, hb, key _ _ x0, fun j hj => key _ _ (x1 j hj), key _ _ y0, fun j hj => key _ _ (y1 j hj)⟩
  have HBT : Hid (∀ x, beatA (stOf n S R) (stOf m S2 R2) t L M i x = true ↔ ∀ y, y < m → pwB (stOf n S R) (stOf m S2 R2) n m t (L.set i (x : Int)) (M.set i (y : Int)) = false) := fun x => by
    unfold beatA
    rw [List.all_eq_true]
    constructor
    · intro h y hy
      have : (!pwB (stOf n S R) (stOf m S2 R2) n m t (L.set i (x : Int)) (M.set i (y : Int))) = true := h y (List.mem_range.2 hy)
      simpa using this
    · intro h y hy
      have := h y (List.mem_range.1 hy)
      show (!pwB (stOf n S R) (stOf m S2 R2) n m t (L.set i (x : Int)) (M.set i (y : Int))) = true
      rw [this]; rfl
  have HHIT : Hid (∀ x, x < n → fsO (mvO t (stOf n S R) (stOf m S2 R2) L M i) x = none → beatA (stOf n S R) (stOf m S2 R2) t L M i x = true → mvT t (stOf n S R) (stOf m S2 R2) L M i n = quB ⟨#[83]⟩ i ((List.range m).map fun y : Nat => pebF t (stOf n S R) (stOf m S2 R2) (L.set i (x : Int)) (M.set i (y : Int)))) := fun x hx h hb => mvT_hit h hb hx
  have HMISS : Hid (∀ x, fsO (mvO t (stOf n S R) (stOf m S2 R2) L M i) x = none → beatA (stOf n S R) (stOf m S2 R2) t L M i x = false → fsO (mvO t (stOf n S R) (stOf m S2 R2) L M i) (x + 1) = none) := fun x h hb => mvT_miss h hb
  have HEND : Hid (fsO (mvO t (stOf n S R) (stOf m S2 R2) L M i) n = none → mvT t (stOf n S R) (stOf m S2 R2) L M i n = ByteArray.empty) := fun h => mvT_empty.2 h
  have HNO0 : Hid (fsO (mvO t (stOf n S R) (stOf m S2 R2) L M i) 0 = none) := rfl
  generalize hMV : fsO (mvO t (stOf n S R) (stOf m S2 R2) L M i) = MVF at *
  generalize hRV : mvT t (stOf n S R) (stOf m S2 R2) L M i n = RV at *
  clear hMV hRV
  generalize cs.getD t [] = C at *
  generalize ds.getD t [] = D at *
  generalize (n + 1) ^ L.length = N at *
  generalize (m + 1) ^ L.length = N2 at *
  have HI3 : Hid (i < 3) := by show i < 3; omega
  have hiI : (i : Int) < 3 := by omega
  have htI : (t : Int) ≤ 3 := by omega
  have htlI : (t : Int) < (lc : Int) := by omega
  have htl2I : (t : Int) < (ld : Int) := by omega
  have ht1 : (t : Int) + 1 - 1 = (t : Int) := by omega
  have ht0 : (0 : Int) ≤ (t : Int) := by omega
  have htw : IntKind.i64.wrap (t : Int) = (t : Int) := IntWalk.i64_in _ (by omega)
  have hnI : (n : Int) ≤ 8 := by omega
  have hmI : (m : Int) ≤ 8 := by omega
  have HNN : Hid ((N : Int) ≤ 729 ∧ (N2 : Int) ≤ 729) := ⟨by omega, by omega⟩
  have HM1 : Hid (1 ≤ m ∧ m ≤ 8) := ⟨hm1, hm⟩
  clear x0 x1 y0 y1 f1 f2 hFO hT hpn hpm htl htl2 hlc hld hN0 hN20 hn hm hk3 hlen hi hm1
  rw [show ((t + 1 : Nat) : Int) = (t : Int) + 1 from rfl]
  unfold l7V strV at *
  go_enter Tryd.func71, Tryd.ntmps71
  go_upto_region 1 with fail
  generalize w.alloc (.cells #[.int .i64 (n : Int), .string S, .string R, .int .i64 (m : Int), .string S2, .string R2, .slice (some ⟨ga, 0, none⟩) lc capa, .slice (some ⟨gb, 0, none⟩) ld capb] 71) = W0 at *
  go_wp2_with fail
  go_loopw [11] (fun q wr => ∃ x : Nat, x ≤ n ∧ q = .int .i64 (x : Int) ∧ Hid (Mv w n S R m S2 R2 ga lc capa gb ld capb t N N2 g1 o1 cap1 g2 o2 cap2 C D wr) ∧ Hid (MVF x = none)) (fun q _ => n - (intOf q).toNat)
  case atStart => exact ⟨0, by omega, rfl, HMV, HNO0⟩
  case round =>
    clear HMV HNO0
    obtain ⟨x, hx, rfl, HM, HN⟩ := hrel
    obtain ⟨wo, hwo⟩ : ∃ wo : World, wo = wr := ⟨_, rfl⟩
    subst hwo
    obtain ⟨c0, c1, c2, c3, c4, c5, c6, c7⟩ := HM.out.b.cells
    by_cases hlt : x < n
    · have hxI : (x : Int) < (n : Int) := by omega
      have hxa := HXA.out x hlt
      have HX := Lib.hid (And.intro hlt hx)
      have HIX : Hid ((ixL (n + 1) (L.set i (x : Int)) : Int) < (N : Int) ∧ (ixL (n + 1) (L.set i (x : Int)) : Int) ≤ 729) := ⟨by omega, by have := HNN.out; omega⟩
      have HEX : Hid (∀ y, y < m → (C.getD (ixL (n + 1) (L.set i (x : Int))) 0 = D.getD (ixL (m + 1) (M.set i (y : Int))) 0 ↔ pwB (stOf n S R) (stOf m S2 R2) n m t (L.set i (x : Int)) (M.set i (y : Int)) = true)) := fun y hy => HEQ.out x y hlt hy
      have HCA : Hid (∀ (v' : Value) (W : World), IntsAt W v' (L.set i (x : Int)) → _) := fun v' W h => HIA.out x v' W hlt h
      have HCX : Hid (C.getD (ixL (n + 1) (L.set i (x : Int))) 0 = C.getD (ixL (n + 1) (L.set i (x : Int))) 0) := rfl
      obtain ⟨ia, hia⟩ : ∃ ia, ixL (n + 1) (L.set i (x : Int)) = ia := ⟨_, rfl⟩
      rw [hia] at HIX HEX HCA hxa
      obtain ⟨cN, hcN⟩ : ∃ cN, C.getD ia 0 = cN := ⟨_, rfl⟩
      have KX : Hid (∀ W : World, Below wo.heap.size wo W → (W.cell? ⟨w.heap.size, 0, none⟩ = some (.int .i64 (n : Int)) ∧ W.cell? ⟨w.heap.size, 1, none⟩ = some (.string S) ∧ W.cell? ⟨w.heap.size, 2, none⟩ = some (.string R) ∧ W.cell? ⟨w.heap.size, 6, none⟩ = some (.slice (some ⟨ga, 0, none⟩) lc capa)) ∧ W.cell? ⟨ga, t, none⟩ = some (.slice (some ⟨g1, o1, none⟩) N cap1) ∧ W.cell? ⟨g1, o1 + ia, none⟩ = some (.int .i64 (cN : Int))) := fun W hb => by
        have h := HM.out.below hb
        obtain ⟨c0, c1, c2, c3, c4, c5, c6, c7⟩ := h.b.cells
        refine ⟨⟨c0, c1, c2, c6⟩, h.x0, ?_⟩
        have := h.x1 ia hxa
        rw [hcN] at this
        exact this
      rw [hcN] at HEX
      clear hia hcN HCX hxa
      obtain ⟨⟨e0, e1, e2, e3⟩, e4, e5⟩ := KX.out wo (Below.refl _ _)
      go_upto_region 4 with fail
      have hIX1 := HIX.out.1
      have hIX2 := HIX.out.2
      go_region_held3 (fun W => (W.cell? ⟨w.heap.size, 0, none⟩ = some (.int .i64 (n : Int)) ∧ W.cell? ⟨w.heap.size, 1, none⟩ = some (.string S) ∧ W.cell? ⟨w.heap.size, 2, none⟩ = some (.string R) ∧ W.cell? ⟨w.heap.size, 6, none⟩ = some (.slice (some ⟨ga, 0, none⟩) lc capa)) ∧ W.cell? ⟨ga, t, none⟩ = some (.slice (some ⟨g1, o1, none⟩) N cap1) ∧ W.cell? ⟨g1, o1 + ia, none⟩ = some (.int .i64 (cN : Int)))
        (first | exact KX.out _ HB2.out | exact KX.out _ HB1.out.2 | exact KX.out _ (Below.refl _ _) | go_keep)
        (first
        | (go_at_call 65; refine (HCA.out _ _ HB1.out.1).mono ?_; rintro e w2 ⟨rfl, hb2⟩; have HB2 : Hid (Below wo.heap.size wo w2) := HB1.out.2.trans (hb2.mono HB1.out.2.size); clear hb2)
        | (go_at_call 90; refine (HPA.out x _ (HM.out.old.trans (((Below.refl _ _).drew).mono HM.out.old.size))).mono ?_; rintro e w1 ⟨v1, rfl, ho1, hb1⟩; have HB1 : Hid (IntsAt w1 v1 (L.set i (x : Int)) ∧ Below wo.heap.size wo w1) := ⟨ho1.ints, (Below.refl _ _).drew.trans hb1⟩; clear ho1 hb1))
      all_goals
        have HM2 := Lib.hid (HM.out.below HB2.out)
        clear HB2 HB1 HM e0 e1 e2 e3 e4 e5 KX HCA
        go_wp2_with fail
        go_loopw [13, 14] (fun r q wr => ∃ (y : Nat) (b : Bool), y ≤ m ∧ r = .bool b ∧ q = .int .i64 (y : Int) ∧ Hid (Mv w n S R m S2 R2 ga lc capa gb ld capb t N N2 g1 o1 cap1 g2 o2 cap2 C D wr) ∧ Hid (b = true ↔ ∃ j : Nat, j < y ∧ pwB (stOf n S R) (stOf m S2 R2) n m t (L.set i (x : Int)) (M.set i (j : Int)) = true)) (fun _ q _ => m - (intOf q).toNat)
        case atStart => exact ⟨0, false, by omega, rfl, rfl, HM2, by constructor; (intro h; cases h); (rintro ⟨j, hj, _⟩; omega)⟩
        case round =>
          clear HM2
          obtain ⟨y, b, hy, rfl, rfl, HMI, HR⟩ := hrel
          obtain ⟨wi, hwi⟩ : ∃ wi : World, wi = wr := ⟨_, rfl⟩
          subst hwi
          by_cases hlty : y < m
          · have hyI : (y : Int) < (m : Int) := by omega
            cases b
            · have hxb := HXB.out y hlty
              have HIY : Hid ((ixL (m + 1) (M.set i (y : Int)) : Int) < (N2 : Int) ∧ (ixL (m + 1) (M.set i (y : Int)) : Int) ≤ 729) := ⟨by omega, by have := HNN.out; omega⟩
              have HEY := Lib.hid (HEX.out y hlty)
              have HCB : Hid (∀ (v' : Value) (W : World), IntsAt W v' (M.set i (y : Int)) → _) := fun v' W h => HIB.out y v' W hlty h
              have HRN : Hid (∀ r : Bool, pwB (stOf n S R) (stOf m S2 R2) n m t (L.set i (x : Int)) (M.set i (y : Int)) = r → (r = true ↔ ∃ j : Nat, j < y + 1 ∧ pwB (stOf n S R) (stOf m S2 R2) n m t (L.set i (x : Int)) (M.set i (j : Int)) = true)) := fun r hr => by
                constructor
                · intro h; exact ⟨y, by omega, by rw [hr, h]⟩
                · rintro ⟨j, hj, h⟩
                  by_cases e : j = y
                  · rw [e, hr] at h; exact h
                  · have := HR.out.2 ⟨j, by omega, h⟩; cases this
              obtain ⟨ib, hib⟩ : ∃ ib, ixL (m + 1) (M.set i (y : Int)) = ib := ⟨_, rfl⟩
              rw [hib] at HIY HEY HCB hxb
              obtain ⟨dN, hdN⟩ : ∃ dN, D.getD ib 0 = dN := ⟨_, rfl⟩
              have KY : Hid (∀ W : World, Below wi.heap.size wi W → (W.cell? ⟨w.heap.size, 3, none⟩ = some (.int .i64 (m : Int)) ∧ W.cell? ⟨w.heap.size, 4, none⟩ = some (.string S2) ∧ W.cell? ⟨w.heap.size, 5, none⟩ = some (.string R2) ∧ W.cell? ⟨w.heap.size, 7, none⟩ = some (.slice (some ⟨gb, 0, none⟩) ld capb)) ∧ W.cell? ⟨gb, t, none⟩ = some (.slice (some ⟨g2, o2, none⟩) N2 cap2) ∧ W.cell? ⟨g2, o2 + ib, none⟩ = some (.int .i64 (dN : Int))) := fun W hb => by
                have h := HMI.out.below hb
                obtain ⟨c0, c1, c2, c3, c4, c5, c6, c7⟩ := h.b.cells
                refine ⟨⟨c3, c4, c5, c7⟩, h.y0, ?_⟩
                have := h.y1 ib hxb
                rw [hdN] at this
                exact this
              rw [hdN] at HEY
              clear hib hdN hxb HR
              have hIY1 := HIY.out.1
              have hIY2 := HIY.out.2
              by_cases hdc : cN = dN
              · have HR2 := Lib.hid ((HRN.out true (HEY.out.1 hdc)).1 rfl)
                subst hdc
                clear HRN HEY
                obtain ⟨⟨e0, e1, e2, e3⟩, e4, e5⟩ := KY.out wi (Below.refl _ _)
                go_upto_region 9 with fail
                go_region_held3 (fun W => (W.cell? ⟨w.heap.size, 3, none⟩ = some (.int .i64 (m : Int)) ∧ W.cell? ⟨w.heap.size, 4, none⟩ = some (.string S2) ∧ W.cell? ⟨w.heap.size, 5, none⟩ = some (.string R2) ∧ W.cell? ⟨w.heap.size, 7, none⟩ = some (.slice (some ⟨gb, 0, none⟩) ld capb)) ∧ W.cell? ⟨gb, t, none⟩ = some (.slice (some ⟨g2, o2, none⟩) N2 cap2) ∧ W.cell? ⟨g2, o2 + ib, none⟩ = some (.int .i64 (cN : Int)))
                  (first | exact KY.out _ HB2.out | exact KY.out _ HB1.out.2 | exact KY.out _ (Below.refl _ _) | go_keep)
                  (first
                  | (go_at_call 65; refine (HCB.out _ _ HB1.out.1).mono ?_; rintro e w2 ⟨rfl, hb2⟩; have HB2 : Hid (Below wi.heap.size wi w2) := HB1.out.2.trans (hb2.mono HB1.out.2.size); clear hb2)
                  | (go_at_call 90; refine (HPB.out y _ (HMI.out.old.trans (((Below.refl _ _).drew).mono HMI.out.old.size))).mono ?_; rintro e w1 ⟨v1, rfl, ho1, hb1⟩; have HB1 : Hid (IntsAt w1 v1 (M.set i (y : Int)) ∧ Below wi.heap.size wi w1) := ⟨ho1.ints, (Below.refl _ _).drew.trans hb1⟩; clear ho1 hb1))
                all_goals
                  have HM3 := Lib.hid (HMI.out.below HB2.out)
                  clear HB2 HB1 HMI KY e0 e1 e2 e3 e4 e5
                  go_wp2_with fail
                  go_roundw
                  case rel => exact ⟨y + 1, _, by omega, rfl, by go_num, HM3, ⟨fun _ => HR2.out, fun _ => rfl⟩⟩
                  case measure => simp [intOf]; omega
              · have HR2 := Lib.hid (fun hx => Bool.false_ne_true ((HRN.out false (by cases hh : pwB (stOf n S R) (stOf m S2 R2) n m t (L.set i (x : Int)) (M.set i (y : Int)); rfl; exact absurd (HEY.out.2 hh) hdc)).2 hx))
                have hdcI : ¬ ((dN : Int) = (cN : Int)) := by omega
                have hdB : ((dN : Int) == (cN : Int)) = false := by rw [beq_eq_false_iff_ne]; omega
                clear HRN HEY hdc
                obtain ⟨⟨e0, e1, e2, e3⟩, e4, e5⟩ := KY.out wi (Below.refl _ _)
                go_upto_region 9 with fail
                go_region_held3 (fun W => (W.cell? ⟨w.heap.size, 3, none⟩ = some (.int .i64 (m : Int)) ∧ W.cell? ⟨w.heap.size, 4, none⟩ = some (.string S2) ∧ W.cell? ⟨w.heap.size, 5, none⟩ = some (.string R2) ∧ W.cell? ⟨w.heap.size, 7, none⟩ = some (.slice (some ⟨gb, 0, none⟩) ld capb)) ∧ W.cell? ⟨gb, t, none⟩ = some (.slice (some ⟨g2, o2, none⟩) N2 cap2) ∧ W.cell? ⟨g2, o2 + ib, none⟩ = some (.int .i64 (dN : Int)))
                  (first | exact KY.out _ HB2.out | exact KY.out _ HB1.out.2 | exact KY.out _ (Below.refl _ _) | go_keep)
                  (first
                  | (go_at_call 65; refine (HCB.out _ _ HB1.out.1).mono ?_; rintro e w2 ⟨rfl, hb2⟩; have HB2 : Hid (Below wi.heap.size wi w2) := HB1.out.2.trans (hb2.mono HB1.out.2.size); clear hb2)
                  | (go_at_call 90; refine (HPB.out y _ (HMI.out.old.trans (((Below.refl _ _).drew).mono HMI.out.old.size))).mono ?_; rintro e w1 ⟨v1, rfl, ho1, hb1⟩; have HB1 : Hid (IntsAt w1 v1 (M.set i (y : Int)) ∧ Below wi.heap.size wi w1) := ⟨ho1.ints, (Below.refl _ _).drew.trans hb1⟩; clear ho1 hb1))
                all_goals
                  have HM3 := Lib.hid (HMI.out.below HB2.out)
                  clear HB2 HB1 HMI KY e0 e1 e2 e3 e4 e5
                  go_wp2_with fail
                  go_roundw
                  case rel => exact ⟨y + 1, _, by omega, rfl, by go_num, HM3, ⟨fun h => (by first | (rw [hdB] at h; cases h) | cases h), fun h => (HR2.out h).elim⟩⟩
                  case measure => simp [intOf]; omega
            · have HR2 : Hid (true = true ↔ ∃ j : Nat, j < y + 1 ∧ pwB (stOf n S R) (stOf m S2 R2) n m t (L.set i (x : Int)) (M.set i (j : Int)) = true) := by
                obtain ⟨j, hj, h⟩ := HR.out.1 rfl
                exact ⟨fun _ => ⟨j, by omega, h⟩, fun _ => rfl⟩
              obtain ⟨c0, c1, c2, c3, c4, c5, c6, c7⟩ := HMI.out.b.cells
              go_upto_region 9 with fail
              go_quiet (fail)
              have HM3 := Lib.hid (HMI.out.below (below_drewQ (Below.refl _ _) nq))
              clear HMI c0 c1 c2 c3 c4 c5 c6 c7
              go_wp2_with fail
              go_roundw
              case rel => exact ⟨y + 1, _, by omega, rfl, by go_num, HM3, HR2⟩
              case measure => simp [intOf]; omega
          · obtain rfl : m = y := by omega
            obtain ⟨c0, c1, c2, c3, c4, c5, c6, c7⟩ := HMI.out.b.cells
            cases b
            · have HBE : Hid (beatA (stOf n S R) (stOf m S2 R2) t L M i x = true) := (HBT.out x).2 (fun y hy => by
                cases hh : pwB (stOf n S R) (stOf m S2 R2) n m t (L.set i (x : Int)) (M.set i (y : Int))
                · rfl
                · have := HR.out.2 ⟨y, hy, hh⟩; cases this)
              have HFX : Hid (∀ (y : Nat) (v' u' : Value) (W : World), y < m → Below w.heap.size w W → IntsAt W v' (L.set i (x : Int)) → IntsAt W u' (M.set i (y : Int)) → Calls Tryd.prog 46 #[.agg #[.int .i64 (n : Int), .string S, .string R, .int .i64 (m : Int), .string S2, .string R2, .slice (some ⟨ga, 0, none⟩) lc capa, .slice (some ⟨gb, 0, none⟩) ld capb], v', u', .int .i64 (t : Int)] W fun e w' => e = .returned (.string (pebF t (stOf n S R) (stOf m S2 R2) (L.set i (x : Int)) (M.set i (y : Int)))) ∧ Below W.heap.size W w') := fun y v' u' W hy hb hv hu => HFA.out x y v' u' W HX.out.1 hy hb hv hu ((HBT.out x).1 HBE.out y hy)
              have HQ := Lib.hid (HHIT.out x HX.out.1 HN.out HBE.out)
              have HSF := Lib.hid (fun y => HSZ.out x y)
              have HPX := Lib.hid (fun W hb => HPA.out x W hb)
              clear HBE HFA HSZ HPA HR HEX HEQ HHIT HMISS HEND HBT HIX HIA HIB HXA HXB
              obtain ⟨F, hF⟩ : ∃ F : Nat → ByteArray, (fun y : Nat => pebF t (stOf n S R) (stOf m S2 R2) (L.set i (x : Int)) (M.set i (y : Int))) = F := ⟨_, rfl⟩
              have hFy : ∀ y : Nat, pebF t (stOf n S R) (stOf m S2 R2) (L.set i (x : Int)) (M.set i (y : Int)) = F y := fun y => by rw [← hF]
              simp only [hFy] at HFX HSF
              rw [hF] at HQ
              clear hF hFy
              have HL0 : Hid (Strs wi (wi.alloc (.cells #[] 9)) (.slice (some ⟨wi.heap.size, 0, none⟩) 0 0) ((List.range 0).map F)) := Strs.lit0 wi
              have HRS := Lib.hid (range_snoc F)
              go_wp2_with fail
              go_loopw [15, 16] (fun o q wr => ∃ y : Nat, y ≤ m ∧ q = .int .i64 (y : Int) ∧ Hid (Strs wi wr o ((List.range y).map F))) (fun _ q _ => m - (intOf q).toNat)
              case atStart => exact ⟨0, by omega, rfl, HL0⟩
              case round =>
                clear HL0 c0 c1 c2 c3 c4 c5 c6 c7
                obtain ⟨y, hy, rfl, HS⟩ := hrel
                obtain ⟨wj, hwj⟩ : ∃ wj : World, wj = wr := ⟨_, rfl⟩
                subst hwj
                have HMJ := Lib.hid (HMI.out.below HS.out.old)
                obtain ⟨c0, c1, c2, c3, c4, c5, c6, c7⟩ := HMJ.out.b.cells
                by_cases hlty : y < m
                · have hyI : (y : Int) < (m : Int) := by omega
                  have HLL : Hid (((List.range y).map F).length ≤ 2000000) := by show _ ≤ _; rw [List.length_map, List.length_range]; have := HM1.out; omega
                  have HLE : Hid (((List.range y).map F).length + 1 = y + 1) := by show _ = _; rw [List.length_map, List.length_range]
                  have HR1 := Lib.hid (HRS.out y)
                  have HFY := Lib.hid (fun v' u' W hb hv hu => HFX.out y v' u' W hlty hb hv hu)
                  generalize (List.range y).map F = LB at *
                  obtain ⟨lg, lcap, rfl, -⟩ := HS.out.cells
                  obtain ⟨ln, hln⟩ : ∃ ln, LB.length = ln := ⟨_, rfl⟩
                  rw [hln] at HS ⊢
                  clear hln
                  obtain ⟨FY, hFY⟩ : ∃ FY, F y = FY := ⟨_, rfl⟩
                  rw [hFY] at HFY HR1
                  clear hFY
                  go_upto_region 15 with fail
                  go_region_held3 (fun W => W.cell? ⟨w.heap.size, 0, none⟩ = some (.int .i64 (n : Int)) ∧ W.cell? ⟨w.heap.size, 1, none⟩ = some (.string S) ∧ W.cell? ⟨w.heap.size, 2, none⟩ = some (.string R) ∧ W.cell? ⟨w.heap.size, 3, none⟩ = some (.int .i64 (m : Int)) ∧ W.cell? ⟨w.heap.size, 4, none⟩ = some (.string S2) ∧ W.cell? ⟨w.heap.size, 5, none⟩ = some (.string R2) ∧ W.cell? ⟨w.heap.size, 6, none⟩ = some (.slice (some ⟨ga, 0, none⟩) lc capa) ∧ W.cell? ⟨w.heap.size, 7, none⟩ = some (.slice (some ⟨gb, 0, none⟩) ld capb))
                    (first | exact (HMI.out.below HP9.out.old).b.cells | exact (HMJ.out.below HB3.out).b.cells | exact (HMJ.out.below HAB.out.2.2).b.cells | exact (HMJ.out.below HB2.out.2).b.cells | exact (HMJ.out.below HB1.out.2).b.cells | exact HMJ.out.b.cells | go_keep)
                    (first
                    | (go_at_call 46; refine (HFY.out _ _ _ (HMJ.out.old.trans (HAB.out.2.2.mono HMJ.out.old.size)) HAB.out.1 HAB.out.2.1).mono ?_; rintro e w3 ⟨rfl, hb3⟩; have HB3 : Hid (Below wj.heap.size wj w3) := HAB.out.2.2.trans (hb3.mono HAB.out.2.2.size); clear hb3)
                    | (refine step_app1 (HS.out.kept HB3.out) HLL rfl (.tmp 75) (.tmp 88) rfl FY _ rfl rfl rfl ?_; intro g cap w4 ho; have HP9 := Lib.hid ho; clear ho)
                    | (go_at_call 90; refine (HPB.out y _ (HMJ.out.old.trans (HB1.out.2.mono HMJ.out.old.size))).mono ?_; rintro e w2 ⟨v2, rfl, ho2, hb2⟩; have HAB : Hid (IntsAt w2 v1 (L.set i (x : Int)) ∧ IntsAt w2 v2 (M.set i (y : Int)) ∧ Below wj.heap.size wj w2) := ⟨HB1.out.1.below hb2, ho2.ints, HB1.out.2.trans (hb2.mono HB1.out.2.size)⟩; clear ho2 hb2)
                    | (go_at_call 90; refine (HPX.out _ (HMJ.out.old.trans (HB2.out.2.mono HMJ.out.old.size))).mono ?_; rintro e w2 ⟨v1, rfl, ho2, hb2⟩; have HAB : Hid (IntsAt w2 v1 (L.set i (x : Int)) ∧ IntsAt w2 v2 (M.set i (y : Int)) ∧ Below wj.heap.size wj w2) := ⟨ho2.ints, HB2.out.1.below hb2, HB2.out.2.trans (hb2.mono HB2.out.2.size)⟩; clear ho2 hb2)
                    | (go_at_call 90; refine (HPX.out _ (HMJ.out.old.trans (((Below.refl _ _).drew).mono HMJ.out.old.size))).mono ?_; rintro e w1 ⟨v1, rfl, ho1, hb1⟩; have HB1 : Hid (IntsAt w1 v1 (L.set i (x : Int)) ∧ Below wj.heap.size wj w1) := ⟨ho1.ints, (Below.refl _ _).drew.trans hb1⟩; clear ho1 hb1)
                    | (go_at_call 90; refine (HPB.out y _ (HMJ.out.old.trans (((Below.refl _ _).drew).mono HMJ.out.old.size))).mono ?_; rintro e w1 ⟨v2, rfl, ho1, hb1⟩; have HB2 : Hid (IntsAt w1 v2 (M.set i (y : Int)) ∧ Below wj.heap.size wj w1) := ⟨ho1.ints, (Below.refl _ _).drew.trans hb1⟩; clear ho1 hb1))
                  all_goals
                    have HPE : Hid (Strs wi w4 (.slice (some ⟨g, 0, none⟩) (LB.length + 1) cap) ((List.range (y + 1)).map F)) := by
                      have := HP9.out
                      rw [← HR1.out] at this
                      exact this
                    clear HP9 HR1 HLE HLL HFY HMJ HS
                    go_wp2_with fail
                    go_roundw
                    case rel => exact ⟨y + 1, by omega, by go_num, HPE⟩
                    case measure => simp [intOf]; omega
                · obtain rfl : m = y := by omega
                  have HU : Hid (sumL (uniqL ((List.range m).map F)) ≤ 1000000 ∧ (uniqL ((List.range m).map F)).length ≤ 1000 ∧ uniqL ((List.range m).map F) ≠ []) := by
                    obtain ⟨u1, u2, u3⟩ := uniqL_facts ((List.range m).map F)
                    rw [List.length_map, List.length_range] at u2
                    have h8 := HM1.out
                    have h1 := sumL_le (L := uniqL ((List.range m).map F)) (b := 100000) (fun f hf => by
                      obtain ⟨y, _, rfl⟩ := List.mem_map.1 (u1 f hf)
                      exact HSF.out y)
                    have h2 : (uniqL ((List.range m).map F)).length * 100000 ≤ 8 * 100000 := Nat.mul_le_mul_right _ (by omega)
                    refine ⟨by omega, by omega, u3 (fun e => ?_)⟩
                    have := congrArg List.length e
                    simp at this
                    omega
                  have HPL : Hid (((List.range m).map F).length ≤ 1000) := by have := HM1.out; show _ ≤ _; simp; omega
                  have hjz := joinP_size ⟨#[38]⟩ (uniqL ((List.range m).map F)) rfl HU.out.2.2
                  have hjs : (joinP ⟨#[38]⟩ (uniqL ((List.range m).map F))).size ≤ 1001000 := by have := HU.out; omega
                  have HRQ : Hid (RV = (⟨#[83]⟩ : ByteArray) ++ vnB i ++ joinP ⟨#[38]⟩ (uniqL ((List.range m).map F))) := HQ.out
                  have hxi := vn_at i HI3.out
                  have hvz : ((⟨#[83]⟩ : ByteArray) ++ vnB i).size = 2 := by rw [ByteArray.size_append]; rfl
                  have hvs : (vnB i).size = 1 := rfl
                  have hs83 : (⟨#[83]⟩ : ByteArray).size = 1 := rfl
                  have hilen : (⟨#[97, 98, 99]⟩ : ByteArray).size = 3 := rfl
                  have hwi : IntKind.i64.wrap ((i : Int) + 1) = (i : Int) + 1 := IntWalk.i64_in _ (by omega)
                  have hi0 : (0 : Int) ≤ (i : Int) := by omega
                  have hi1 : (i : Int) + 1 ≤ 3 := by omega
                  have hsl : ∀ wx, (Instr.slice 9 (.string ⟨#[97, 98, 99]⟩) (some (.int .i64 (i : Int))) (some (.int .i64 ((i : Int) + 1))) none).run Tryd.prog wx = .ok (.string (vnB i)) wx := fun wx => (run_slice_string wx _ ⟨#[97, 98, 99]⟩ _ _ _ _ Tryd.underlying9 (by omega) (by omega) (by rw [hilen]; omega)).trans (by rw [Int.toNat_natCast, show ((i : Int) + 1).toNat = i + 1 by omega, hxi])
                  obtain ⟨lg, lcap, rfl, _, hlg, hlc1, hlc2, hlcc⟩ := HS.out.cells
                  have HEA := Lib.hid (fun (W : World) (hb : Below wj.heap.size wj W) => l6Each_any ((List.range m).map F) lg lcap W hlc1 hlc2 HPL.out (Nat.lt_of_lt_of_le hlg hb.size) (fun j hj => (hb.cell (p := ⟨lg, j, none⟩) hlg).trans (hlcc j hj)))
                  have HJN := Lib.hid (fun (g cap : Nat) (W : World) h1 h2 h3 => l2Join_any ⟨#[38]⟩ (uniqL ((List.range m).map F)) g cap W rfl (.inl rfl) HU.out.2.1 HU.out.1 h1 h2 h3)
                  have HO := Lib.hid HMJ.out.old
                  clear hlc1 hlc2 hlcc hjz HS HMJ HMI HQ HSF HFX HRS
                  generalize (List.range m).map F = PS at *
                  generalize PS.length = pl at *
                  generalize uniqL PS = US at *
                  generalize joinP ⟨#[38]⟩ US = JS at *
                  generalize vnB i = vi at *
                  have hz9 : ¬ 9223372036854775807 < ((⟨#[83]⟩ : ByteArray) ++ vi).size + JS.size := by rw [hvz]; omega
                  have hz8 : ¬ 9223372036854775807 < 2 + JS.size := by omega
                  go_wp2_with fail
                  go_region_held3 (fun W => True) (exact trivial)
                    (first
                    | (go_at_call 94; refine (HJN.out _ _ _ HB1.out.2.1 HB1.out.2.2.1 HB1.out.2.2.2).mono ?_; rintro e w2 ⟨rfl, hb2⟩; have HB2 : Hid (Below w.heap.size w w2) := HB1.out.1.trans (hb2.mono HB1.out.1.size); clear hb2)
                    | (go_at_call 95; refine (HEA.out _ (Below.refl _ _).drew).mono ?_; rintro e w1 ⟨v1, rfl, ho1⟩; obtain ⟨ug, ucap, rfl, _, _, q1, q2, q3⟩ := ho1.cells; have HB1 : Hid (Below w.heap.size w w1 ∧ US.length ≤ ucap ∧ ucap ≤ maxLen ∧ ∀ j (hj : j < US.length), w1.cell? ⟨ug, j, none⟩ = some (.string US[j])) := ⟨HO.out.trans (((Below.refl _ _).drew.trans ho1.old).mono HO.out.size), q1, q2, q3⟩; clear ho1 q1 q2 q3))
                  all_goals
                    go_wp2_with fail
                    go_ret
                    exact ⟨by rw [HRQ.out]; rfl, HB2.out⟩
            · have HN2 : Hid (MVF (x + 1) = none) := HMISS.out x HN.out (by
                cases hb : beatA (stOf n S R) (stOf m S2 R2) t L M i x
                · rfl
                · obtain ⟨j, hj, h⟩ := HR.out.1 rfl
                  rw [(HBT.out x).1 hb j hj] at h; cases h)
              go_wp2_with fail
              go_roundw
              case rel => exact ⟨x + 1, by omega, by go_num, HMI, HN2⟩
              case measure => simp [intOf]; omega
    · obtain rfl : x = n := by omega
      have HE := Lib.hid (HEND.out HN.out)
      have HO := Lib.hid HM.out.old
      go_wp2_with fail
      go_ret
      exact ⟨by rw [HE.out]; rfl, HO.out⟩
end Go.Proofs.YtnhlhjehocngcaaDoor
/- The program's PebbleFormula. Conditions: the structures' texts are not long. -/
namespace Go.Proofs.YtnhlhjehocngcaaDoor
open Go.RowKit
set_option linter.unusedVariables false
set_option maxRecDepth 100000

theorem boolsInfo : (Tryd.prog.info? 60).map (fun i => (i.zero, i.size, i.bytes)) = some (some (.slice none 0 0), 1, 24) := by kernel_rfl
/-- A slice of slices of bools of the call's own. -/
structure OwnV (B : Nat) (w : World) (v : Value) (xs : List Value) : Prop where
  own : w.ownsRow B 60 1 v xs.length xs
  low : B ≤ w.heap.size
theorem OwnV.kept {B : Nat} {w w' : World} {v : Value} {xs : List Value} (h : OwnV B w v xs) (hb : ∀ k, v.ownBlock = some k → k < w.heap.size → w'.heap[k]? = w.heap[k]?) (hs : w.heap.size ≤ w'.heap.size) : OwnV B w' v xs := by
  refine ⟨⟨h.own.1, ?_⟩, Nat.le_trans h.low hs⟩
  rcases h.own.2 with hn | ⟨g, cap, cur, rfl, hb', hgg, rest⟩
  · exact .inl hn
  · exact .inr ⟨g, cap, cur, rfl, hb', by rw [hb g rfl (Array.getElem?_eq_some_iff.1 hgg).1]; exact hgg, rest⟩
theorem OwnV.below {B : Nat} {w w' : World} {v : Value} {xs : List Value} (h : OwnV B w v xs) (hb : Below w.heap.size w w') : OwnV B w' v xs := h.kept (fun k _ hk => hb.block k hk) hb.size
theorem OwnV.cells {B : Nat} {w : World} {v : Value} {xs : List Value} (h : OwnV B w v xs) (hne : 0 < xs.length) :
    ∃ g cap, v = .slice (some ⟨g, 0, none⟩) xs.length cap ∧ B ≤ g ∧ g < w.heap.size ∧ xs.length ≤ cap ∧ cap ≤ maxLen ∧ ∀ j, j < xs.length → w.cell? ⟨g, j, none⟩ = xs[j]? := by
  rcases h.own.2 with ⟨h1, h2⟩ | ⟨g, cap, cur, rfl, hb, hg, hnc, hcm, hcs, htake⟩
  · omega
  · exact ⟨g, cap, rfl, hb, (h.own.lt g rfl).2, hnc, hcm, fun j hj => h.own.cellAt j (by omega)⟩
theorem step_ownV {ops : Array Oper} {o : Oper} {a : Act} {K : Act → World → Prop} {Q : Exit → Act → World → Prop} {E : Prop} {B : Nat} {w : World} {v : Value} {xs : List Value}
    (hown : OwnV B w v xs) (hL : Hid (xs.length ≤ 1000)) (hgd : o.guard = none) (s x : Operand)
    (ho : o.op = .call { callee := .builtin .append, args := #[s, x], argTypes := #[73, 73] }) (y : Value) (hy : y.oneCell' = true) (b : Nat) (hb : w.heap.size = b)
    (hs : a.eval s = v) (hx : a.eval x = .slice (some ⟨b, 0, none⟩) 1 1)
    (h : ∀ g cap w', OwnV B w' (.slice (some ⟨g, 0, none⟩) (xs.length + 1) cap) (xs ++ [y]) → w.grownBy w' v.ownBlock → (v.ownBlock = some g ∨ w.heap.size ≤ g) → g < w'.heap.size → K (a.put o.dst (.slice (some ⟨g, 0, none⟩) (xs.length + 1) cap)) w') :
    if Region.wanted o (yielded ops a.tmps) = true then Oper.wp Tryd.prog o a (w.alloc (.cells #[y] 60)) K Q else E := by
  have hL := hL.out
  subst hb
  obtain ⟨i, hi, hz, h1, h2⟩ := info_parts boolsInfo
  have hbase : B ≤ w.heap.size := hown.low
  refine step_append_lies _ hgd s x 73 ho B 60 i (.slice none 0 0) 1 24 Tryd.underlying73 hi hz h1 h2 rfl (by decide) v xs.length xs hs (hown.own.alloc _) ⟨w.heap.size, 0, none⟩ 1 1 [y] hx rfl ?_ ?_ (by decide) ?_ ?_ ?_ _ rfl ?_
  · intro j u hj
    match j, hj with
    | 0, hj => simp at hj; subst hj; simp [Addr.add]
  · intro u hu
    simp at hu; subst hu; exact hy
  · unfold maxLen; omega
  · omega
  · simp; omega
  · intro g cap w' h2 h3 h4 h5
    refine h g cap w' ⟨?_, ?_⟩ ?_ ?_ h5
    · simpa using h2
    · have := h3.size
      simp at this
      omega
    · refine ⟨h3.os, h3.tape, h3.output, ?_, fun k hk hne => ?_⟩
      · have := h3.size
        simp at this
        omega
      · rw [h3.block k (by simp; omega) hne]
        exact Below.heap_alloc _ _ _ hk
    · rcases h4 with h | h
      · exact .inl h
      · exact .inr (by rw [h]; simp)
/-- What PebbleFormula's loop keeps. -/
structure Tl (w : World) (tp p n : Nat) (S R : ByteArray) (m : Nat) (S2 R2 : ByteArray) (k : Nat) (F : List Bool) (winv fv wv : Value) (xs : List Value) (j : Nat) (wr : World) : Prop where
  g : PebG wr p n S R m S2 R2 k fv wv
  f : BoolsAt wr fv F
  b : BoolsAt wr wv (lev n m k F j)
  fs : ∀ b, fv.ownBlock = some b → b ≠ p ∧ b ≠ tp ∧ winv.ownBlock ≠ some b
  ws : ∀ b, wv.ownBlock = some b → b ≠ p ∧ b ≠ tp ∧ winv.ownBlock ≠ some b
  t : wr.heap[tp]? = some (.cells #[.pointer (some ⟨p, 0, none⟩), winv] 75 (0, 0))
  own : OwnV w.heap.size wr winv xs
  ne : winv.ownBlock ≠ some p ∧ winv.ownBlock ≠ some tp ∧ p ≠ tp ∧ w.heap.size ≤ p ∧ w.heap.size ≤ tp
  lv : ∀ i, i < xs.length → ∃ sv, xs[i]? = some sv ∧ BoolsAt wr sv (lev n m k F i) ∧ ∀ b, sv.ownBlock = some b → b ≠ p ∧ b ≠ tp ∧ winv.ownBlock ≠ some b
  old : Below w.heap.size w wr
section
variable {w wr w' : World} {tp p n m k j : Nat} {S R S2 R2 : ByteArray} {F : List Bool} {winv fv wv v' : Value} {xs : List Value}
theorem Tl.below (h : Tl w tp p n S R m S2 R2 k F winv fv wv xs j wr) (hb : Below wr.heap.size wr w') : Tl w tp p n S R m S2 R2 k F winv fv wv xs j w' :=
  ⟨h.g.below hb, h.f.below hb, h.b.below hb, h.fs, h.ws, (hb.block _ (Array.getElem?_eq_some_iff.1 h.t).1).trans h.t, h.own.below hb, h.ne, fun i hi => by
    obtain ⟨sv, h1, h2, h3⟩ := h.lv i hi
    exact ⟨sv, h1, h2.below hb, h3⟩, h.old.trans (hb.mono h.old.size)⟩
theorem Tl.tlt (h : Tl w tp p n S R m S2 R2 k F winv fv wv xs j wr) : tp < wr.heap.size := (Array.getElem?_eq_some_iff.1 h.t).1
theorem Tl.cells (h : Tl w tp p n S R m S2 R2 k F winv fv wv xs j wr) : wr.cell? ⟨tp, 0, none⟩ = some (.pointer (some ⟨p, 0, none⟩)) ∧ wr.cell? ⟨tp, 1, none⟩ = some winv ∧ wr.frozen? ⟨tp, 1, none⟩ = false ∧ wr.cell? ⟨p, 9, none⟩ = some wv := by
  have ht := h.t
  refine ⟨?_, ?_, ?_, h.g.cells.2.2.2.2.2.1⟩
  · unfold World.cell?; rw [ht]; rfl
  · unfold World.cell?; rw [ht]; rfl
  · unfold World.frozen?; rw [ht]; rfl
/-- After a turn. -/
theorem Tl.turn (h : Tl w tp p n S R m S2 R2 k F winv fv wv xs j wr) {e : Ending} (ht : TurnP wr p n S R m S2 R2 k F (lev n m k F j) e w') : ∃ wv', Tl w tp p n S R m S2 R2 k F winv fv wv' xs (j + 1) w' := by
  obtain ⟨_, _, ho, fv2, wv2, h1, h2, h3, h4, h5⟩ := ht
  have e1 := h.g.cells.2.2.2.2.1
  rw [e1] at h1
  injection h1 with h1
  subst h1
  have hp := h.g.lt
  have htl := h.tlt
  have hno : ∀ b, winv.ownBlock = some b → b < wr.heap.size := fun b hb => (h.own.own.lt b hb).2
  have hkb : ∀ sv L, (∀ b, sv.ownBlock = some b → b ≠ p ∧ b ≠ tp ∧ winv.ownBlock ≠ some b) → BoolsAt wr sv L → BoolsAt w' sv L := fun sv L hs hb => hb.kept (fun b hb' hl => ho.block b hl (hs b hb').1) ho.size
  refine ⟨wv2, h2, h3, h4, h.fs, fun b hb => ?_, (ho.block tp htl (fun e => h.ne.2.2.1 e.symm)).trans h.t, h.own.kept (fun b hb hl => ho.block b hl (fun e => h.ne.1 (by rw [hb, e]))) ho.size, h.ne, fun i hi => ?_, ⟨ho.os.trans h.old.os, ho.tape.trans h.old.tape, ho.output.trans h.old.output, Nat.le_trans h.old.size ho.size, fun b hb => (ho.block b (Nat.lt_of_lt_of_le hb h.old.size) (fun e => by have := h.ne.2.2.2.1; omega)).trans (h.old.block b hb)⟩⟩
  · have := h5 b hb
    refine ⟨by omega, by omega, fun e => ?_⟩
    have := hno b e
    omega
  · obtain ⟨sv, q1, q2, q3⟩ := h.lv i hi
    exact ⟨sv, q1, hkb sv _ q3 q2, q3⟩
/-- After an append and its store. -/
theorem Tl.push {wx : World} {g cap : Nat} (h : Tl w tp p n S R m S2 R2 k F winv fv wv xs j wr) (hj : xs.length = j) (hx : Below wr.heap.size wr wx) (ho : OwnV w.heap.size w' (.slice (some ⟨g, 0, none⟩) (xs.length + 1) cap) (xs ++ [wv])) (hg : wx.grownBy w' winv.ownBlock) (ha : winv.ownBlock = some g ∨ wx.heap.size ≤ g) :
    Tl w tp p n S R m S2 R2 k F (.slice (some ⟨g, 0, none⟩) (xs.length + 1) cap) fv wv (xs ++ [wv]) j (w'.setCell ⟨tp, 1, none⟩ (.slice (some ⟨g, 0, none⟩) (xs.length + 1) cap)) := by
  have hxT := h.below hx
  have hp := hxT.g.lt
  have htl := hxT.tlt
  have hob : (Value.slice (some ⟨g, 0, none⟩) (xs.length + 1) cap).ownBlock = some g := rfl
  have hgl := (ho.own.lt g rfl)
  have hgp : g ≠ p := by
    rcases ha with e | e
    · rintro rfl; exact hxT.ne.1 e
    · omega
  have hgt : g ≠ tp := by
    rcases ha with e | e
    · rintro rfl; exact hxT.ne.2.1 e
    · omega
  have hgb : ∀ b, b < wx.heap.size → winv.ownBlock ≠ some b → g ≠ b := fun b hb hn => by
    rcases ha with e | e
    · rintro rfl; exact hn e
    · omega
  have hset : ∀ b, b ≠ tp → (w'.setCell ⟨tp, 1, none⟩ (.slice (some ⟨g, 0, none⟩) (xs.length + 1) cap)).heap[b]? = w'.heap[b]? := fun b hb => Below.heap_setCell _ _ _ _ hb
  have hblk : ∀ b, b < wx.heap.size → winv.ownBlock ≠ some b → b ≠ tp → (w'.setCell ⟨tp, 1, none⟩ (.slice (some ⟨g, 0, none⟩) (xs.length + 1) cap)).heap[b]? = wx.heap[b]? := fun b h1 h2 h3 => (hset b h3).trans (hg.block b h1 (fun e => h2 e.symm))
  have hkb : ∀ sv L, (∀ b, sv.ownBlock = some b → b ≠ p ∧ b ≠ tp ∧ winv.ownBlock ≠ some b) → BoolsAt wx sv L → BoolsAt (w'.setCell ⟨tp, 1, none⟩ (.slice (some ⟨g, 0, none⟩) (xs.length + 1) cap)) sv L := fun sv L hs hb => hb.kept (fun b hb' hl => hblk b hl (hs b hb').2.2 (hs b hb').2.1) (by simpa using hg.size)
  have hnew : ∀ sv L, BoolsAt wx sv L → (∀ b, sv.ownBlock = some b → b ≠ p ∧ b ≠ tp ∧ winv.ownBlock ≠ some b) → ∀ b, sv.ownBlock = some b → b ≠ p ∧ b ≠ tp ∧ (Value.slice (some ⟨g, 0, none⟩) (xs.length + 1) cap).ownBlock ≠ some b := fun sv L hb hs b hsb => by
    obtain ⟨q1, q2, q3⟩ := hs b hsb
    refine ⟨q1, q2, fun e => ?_⟩
    rw [hob] at e
    injection e with e
    obtain ⟨b2, hb2, hl⟩ := hb.block
    rw [hsb] at hb2
    injection hb2 with hb2
    exact hgb b (by omega) q3 e
  refine ⟨⟨(hblk p hp hxT.ne.1 hxT.ne.2.2.1).trans hxT.g.blk⟩, hkb fv _ hxT.fs hxT.f, hkb wv _ hxT.ws hxT.b, hnew fv _ hxT.f hxT.fs, hnew wv _ hxT.b hxT.ws, ?_, ho.kept (fun b hb hl => hset b (fun e => hgt (by rw [hob] at hb; injection hb with hb; omega))) (by simp), ⟨?_, ?_, hxT.ne.2.2⟩, fun i hi => ?_, ?_⟩
  · have ht : w'.heap[tp]? = some (.cells #[.pointer (some ⟨p, 0, none⟩), winv] 75 (0, 0)) := (hg.block tp htl (fun e => hxT.ne.2.1 e.symm)).trans hxT.t
    simp [World.setCell, Array.getElem?_modify, ht]
  · rw [hob]; intro e; injection e with e; exact hgp e
  · rw [hob]; intro e; injection e with e; exact hgt e
  · rw [List.length_append, List.length_singleton] at hi
    by_cases hlt : i < xs.length
    · obtain ⟨sv, q1, q2, q3⟩ := hxT.lv i hlt
      exact ⟨sv, by rw [List.getElem?_append_left hlt]; exact q1, hkb sv _ q3 q2, hnew sv _ q2 q3⟩
    · obtain rfl : i = xs.length := by omega
      refine ⟨wv, by simp, ?_, hnew wv _ hxT.b hxT.ws⟩
      have := hkb wv _ hxT.ws hxT.b
      rw [show lev n m k F xs.length = lev n m k F j by rw [hj]]
      exact this
  · exact (hxT.old.grown hg hxT.old.size (fun b hb => (hxT.own.own.lt b hb).1)).setCell (by have := hxT.ne; simp; omega) _
theorem Tl.held {wx : World} (h : Tl w tp p n S R m S2 R2 k F winv fv wv xs j wr) (hx : Below wr.heap.size wr wx) (hg : wx.grownBy w' winv.ownBlock) : w'.cell? ⟨tp, 1, none⟩ = some winv ∧ w'.frozen? ⟨tp, 1, none⟩ = false := by
  have hxT := h.below hx
  have ht : w'.heap[tp]? = some (.cells #[.pointer (some ⟨p, 0, none⟩), winv] 75 (0, 0)) := (hg.block tp hxT.tlt (fun e => hxT.ne.2.1 e.symm)).trans hxT.t
  refine ⟨?_, ?_⟩
  · unfold World.cell?; rw [ht]; rfl
  · unfold World.frozen?; rw [ht]; rfl
/-- The talk that the formula needs. -/
theorem Tl.talk (h : Tl w tp p n S R m S2 R2 k (fitL (stOf n S R) (stOf m S2 R2) n m k) winv fv wv xs j wr) (hx : 0 < xs.length) : Talk wr tp p n S R m S2 R2 k xs.length := by
  obtain ⟨g, cap, rfl, h1, h2, h3, h4, h5⟩ := h.own.cells hx
  refine ⟨⟨fv, wv, h.g⟩, g, cap, h.t, h3, h4, h2, fun t ht => ?_⟩
  obtain ⟨sv, q1, q2, _⟩ := h.lv t ht
  exact ⟨sv, by rw [h5 t ht, q1], q2⟩
end
theorem Tl.first {w w1 : World} {p n m k B : Nat} {S R S2 R2 : ByteArray} {F : List Bool} (hq : PebS B w1 p n S R m S2 R2 k F F) (hB : w.heap.size ≤ B) (hp : w.heap.size ≤ p) (hb : Below w.heap.size w w1) :
    ∃ fv g c, w1.cell? ⟨p, 9, none⟩ = some (.slice (some ⟨g, 0, none⟩) F.length c) ∧ Tl w (w1.heap.size + 1) p n S R m S2 R2 k F (.slice (some ⟨w1.heap.size, 0, none⟩) 1 1) fv (.slice (some ⟨g, 0, none⟩) F.length c) [.slice (some ⟨g, 0, none⟩) F.length c] 0
      ((w1.alloc (.cells #[.slice (some ⟨g, 0, none⟩) F.length c] 60)).alloc (.cells #[.pointer (some ⟨p, 0, none⟩), .slice (some ⟨w1.heap.size, 0, none⟩) 1 1] 75)) := by
  obtain ⟨fv, wv, hG, hf, hw, hfp, hwp, hfB, hwB⟩ := hq
  have hw2 := hw
  obtain ⟨g, c, rfl, _, _, hgl, _⟩ := hw
  have hpl := hG.lt
  have ha : Below w1.heap.size w1 ((w1.alloc (.cells #[.slice (some ⟨g, 0, none⟩) F.length c] 60)).alloc (.cells #[.pointer (some ⟨p, 0, none⟩), .slice (some ⟨w1.heap.size, 0, none⟩) 1 1] 75)) := ((Below.refl _ _).alloc (Nat.le_refl _) _).alloc (by simp) _
  have hob : (Value.slice (some ⟨w1.heap.size, 0, none⟩) 1 1).ownBlock = some w1.heap.size := rfl
  refine ⟨fv, g, c, hG.cells.2.2.2.2.2.1, hG.below ha, hf.below ha, hw2.below ha, fun b hb' => ?_, fun b hb' => ?_, ?_, ⟨?_, by have := hb.size; simp; omega⟩, ⟨?_, ?_, by omega, hp, by have := hb.size; omega⟩, fun i hi => ?_, hb.trans (ha.mono hb.size)⟩
  · obtain ⟨b2, q1, q2⟩ := hf.block
    rw [hb'] at q1; injection q1 with q1
    refine ⟨fun e => hfp (by rw [hb', e]), by omega, ?_⟩
    rw [hob]; intro e; injection e with e; omega
  · obtain ⟨b2, q1, q2⟩ := hw2.block
    rw [hb'] at q1; injection q1 with q1
    refine ⟨fun e => hwp (by rw [hb', e]), by omega, ?_⟩
    rw [hob]; intro e; injection e with e; omega
  · have := heap_alloc_new (w1.alloc (.cells #[.slice (some ⟨g, 0, none⟩) F.length c] 60)) (.cells #[.pointer (some ⟨p, 0, none⟩), .slice (some ⟨w1.heap.size, 0, none⟩) 1 1] 75)
    rw [show (w1.alloc (.cells #[.slice (some ⟨g, 0, none⟩) F.length c] 60)).heap.size = w1.heap.size + 1 by simp] at this
    exact this
  · have h1 : (w1.alloc (.cells #[.slice (some ⟨g, 0, none⟩) F.length c] 60)).ownsRow w.heap.size 60 1 (.slice (some ⟨w1.heap.size, 0, none⟩) 1 1) 1 [.slice (some ⟨g, 0, none⟩) F.length c] := ⟨rfl, .inr ⟨w1.heap.size, 1, #[.slice (some ⟨g, 0, none⟩) F.length c], rfl, hb.size, heap_alloc_new w1 _, by decide, by decide, rfl, rfl⟩⟩
    have h2 : OwnV w.heap.size (w1.alloc (.cells #[.slice (some ⟨g, 0, none⟩) F.length c] 60)) (.slice (some ⟨w1.heap.size, 0, none⟩) 1 1) [.slice (some ⟨g, 0, none⟩) F.length c] := ⟨h1, by have := hb.size; simp; omega⟩
    exact (h2.below ((Below.refl _ _).alloc (Nat.le_refl _) _)).own
  · rw [hob]; intro e; injection e with e; omega
  · rw [hob]; intro e; injection e with e; omega
  · obtain rfl : i = 0 := by simpa using hi
    refine ⟨_, rfl, hw2.below ha, fun b hb' => ?_⟩
    obtain ⟨b2, q1, q2⟩ := hw2.block
    rw [hb'] at q1; injection q1 with q1
    refine ⟨fun e => hwp (by rw [hb', e]), by omega, ?_⟩
    rw [hob]; intro e; injection e with e; omega
theorem nat_of_validP {n : Int} {S R : ByteArray} (h : validB n S R = true) : ∃ m : Nat, n = (m : Int) := by
  have h0 := h
  unfold validB inB at h0
  simp at h0
  exact Int.eq_ofNat_of_zero_le (by omega)
/-- What PebbleFormula returns. -/
def pfRes (n : Int) (S R : ByteArray) (L : List Int) (m : Int) (S2 R2 : ByteArray) (M : List Int) (K : Int) : Value :=
  if pebRdB n S R L m S2 R2 M && decide (0 ≤ K) && decide (K ≤ 3) && !pwB (stOf n.toNat S R) (stOf m.toNat S2 R2) n.toNat m.toNat K.toNat L M then .tuple #[.string (pebF K.toNat (stOf n.toNat S R) (stOf m.toNat S2 R2) L M), .bool true] else .tuple #[.string ByteArray.empty, .bool false]
set_option maxHeartbeats 4000000 in
theorem implPebbleFormula_any (n m : Int) (S R S2 R2 : ByteArray) (L M : List Int) (K : Int) (v u : Value) (w : World) (hS : S.size ≤ 9223372036854775807) (hR : R.size ≤ 9223372036854775807) (hS2 : S2.size ≤ 9223372036854775807) (hR2 : R2.size ≤ 9223372036854775807) (hv : IntsAt w v L) (hu : IntsAt w u M) :
    Calls Tryd.prog 18 #[strV n S R, v, strV m S2 R2, u, .int .i64 K] w fun e w' => e = .returned (pfRes n S R L m S2 R2 M K) ∧ Below w.heap.size w w' := by
  have HT := Lib.hid (Bxp.new w n S R m S2 R2)
  unfold boxS at HT
  obtain ⟨c0, c1, c2, f0, f1, f2, hl1⟩ := HT.out.a.cells
  obtain ⟨d0, d1, d2, _, _, _, hl2⟩ := HT.out.b.cells
  have HV := Lib.hid (hv.below HT.out.old)
  have HU := Lib.hid (hu.below HT.out.old)
  have HVW := Lib.hid hv
  have HUW := Lib.hid hu
  cases hrd : pebRdB n S R L m S2 R2 M
  · have HRES : Hid (pfRes n S R L m S2 R2 M K = .tuple #[.string ByteArray.empty, .bool false]) := by unfold pfRes; rw [hrd]; rfl
    rw [HRES.out]
    have HNO := Lib.hid (newPebbles_no n S R m S2 R2 L M v u _ hS hR hS2 hR2 HV.out HU.out hrd)
    obtain ⟨a1, ca, rfl, _, _, _⟩ := hv.view
    obtain ⟨b1, cb, rfl, _, _, _⟩ := hu.view
    unfold strV at HNO
    unfold strV
    clear hrd hv hu
    go_enter Tryd.func18, Tryd.ntmps18
    go_wp2_with fail
    refine HNO.out.mono ?_; rintro e w1 ⟨rfl, hb⟩
    have HT3 := Lib.hid (HT.out.below hb)
    clear hb c0 c1 c2 f0 f1 f2 hl1 d0 d1 d2 hl2
    go_wp2_with fail
    go_ret2
    exact ⟨rfl, HT3.out.old⟩
  · obtain ⟨nn, rfl⟩ := nat_of_validP (show validB n S R = true by unfold pebRdB at hrd; simp only [Bool.and_eq_true] at hrd; exact hrd.1)
    obtain ⟨mm, rfl⟩ := nat_of_validP (show validB m S2 R2 = true by unfold pebRdB at hrd; simp only [Bool.and_eq_true] at hrd; exact hrd.2.1)
    have HNP := Lib.hid (newPebbles_any nn mm S R S2 R2 L M v u _ HV.out HU.out hrd)
    obtain ⟨hva, hvb, hrdy, hk1, hk3⟩ := ready_rdy hrd
    obtain ⟨a1, ca, rfl, _, _, _⟩ := hv.view
    obtain ⟨b1, cb, rfl, _, _, _⟩ := hu.view
    unfold strV at HNP
    unfold strV
    by_cases hK : 0 ≤ K ∧ K ≤ 3
    · obtain ⟨t, rfl⟩ := Int.eq_ofNat_of_zero_le hK.1
      have ht3 : t ≤ 3 := by omega
      obtain ⟨hn1, hn8, hSz, hRz, _, _⟩ := valid_is hva
      obtain ⟨hm1, hm8, hSz2, hRz2, _, _⟩ := valid_is hvb
      have HTN := Lib.hid (fun p F W w hQ hF hW => turn_any p nn mm L.length S R S2 R2 F W w hQ hn8 hm8 hn1 hm1 hk3 hF hW)
      have HST := Lib.hid (fun p fv wv v u w hG hv hu => stateOf_any p nn mm L.length S R S2 R2 fv wv v u L M w hG hv hu hrdy rfl hk3 hn8 hm8)
      have HFM := Lib.hid (fun tp cnt v u w hT ht hw => formula_any t ht3 tp nn mm L.length cnt S R S2 R2 L M v u w false hT hrdy rfl hk1 hk3 ⟨hn1, hn8, hSz, hRz⟩ ⟨hm1, hm8, hSz2, hRz2⟩ ht ht3 hw)
      have HLV := lev_at (a := stOf nn S R) (b := stOf mm S2 R2) (by omega) t hrdy
      have HFL : Hid ((fitL (stOf nn S R) (stOf mm S2 R2) nn mm L.length).length = (nn * mm + 1) ^ L.length) := fitL_len _ _ _ _ _
      have HSL : Hid (stP (nn * mm + 1) mm L M < (nn * mm + 1) ^ L.length) := stP_lt hrdy
      have hpow := pow_le (pairs_le hn8 hm8) hk3
      obtain ⟨RV, hrv⟩ : ∃ r, pfRes nn S R L mm S2 R2 M (t : Int) = r := ⟨_, rfl⟩
      have HRV1 : Hid (pwB (stOf nn S R) (stOf mm S2 R2) nn mm t L M = true → RV = .tuple #[.string ByteArray.empty, .bool false]) := fun h => by
        rw [← hrv]; unfold pfRes
        rw [Int.toNat_natCast, Int.toNat_natCast, Int.toNat_natCast, h]; simp
      have HRV2 : Hid (pwB (stOf nn S R) (stOf mm S2 R2) nn mm t L M = false → RV = .tuple #[.string (pebF t (stOf nn S R) (stOf mm S2 R2) L M), .bool true]) := fun h => by
        rw [← hrv]; unfold pfRes
        rw [Int.toNat_natCast, Int.toNat_natCast, Int.toNat_natCast, h, hrd, decide_eq_true hK.1, decide_eq_true hK.2]; rfl
      rw [hrv]
      obtain ⟨F, hF⟩ : ∃ F, fitL (stOf nn S R) (stOf mm S2 R2) nn mm L.length = F := ⟨_, rfl⟩
      have HFE := Lib.hid hF
      rw [hF] at HFL HLV
      have HLVH := Lib.hid HLV
      have hK0B : decide ((t : Int) < 0) = false := decide_eq_false (by omega)
      have hK3B : decide (3 < (t : Int)) = false := decide_eq_false (by omega)
      have hK0I : ¬ ((t : Int) < 0) := by omega
      have hK3I : ¬ (3 < (t : Int)) := by omega
      clear hva hvb hSz hRz hSz2 hRz2 hrdy hv hu hrd hrv hF HLV hK
      go_enter Tryd.func18, Tryd.ntmps18
      go_wp2_with fail
      refine HNP.out.mono ?_; rintro e w1 ⟨p, rfl, hq, hb, hp⟩
      have HT3 := Lib.hid (HT.out.below hb)
      rw [HFE.out] at hq
      obtain ⟨fv, wg, wc, h9, hTl⟩ := Tl.first (w := w) hq HT.out.old.size (Nat.le_trans HT.out.old.size hp) HT3.out.old
      have HTL := Lib.hid hTl
      clear hq hb hp c0 c1 c2 f0 f1 f2 hl1 d0 d1 d2 hl2 HT HNP
      obtain ⟨W, hW⟩ : ∃ W, (w1.alloc (.cells #[.slice (some ⟨wg, 0, none⟩) F.length wc] 60)).alloc (.cells #[.pointer (some ⟨p, 0, none⟩), .slice (some ⟨w1.heap.size, 0, none⟩) 1 1] 75) = W := ⟨_, rfl⟩
      rw [hW] at HTL
      have HW := Lib.hid hW
      obtain ⟨tp, htp⟩ : ∃ tp, w1.heap.size + 1 = tp := ⟨_, rfl⟩
      have HTP := Lib.hid htp
      rw [htp] at HTL
      clear hTl hW htp
      go_upto_region 5 with fail
      rw [HW.out, HTP.out]
      go_wp2_with fail
      go_loopw [38] (fun q wr => ∃ j : Nat, j ≤ t ∧ q = .int .i64 (j : Int) ∧ Hid (∃ winv fv wv xs, xs.length = j + 1 ∧ Tl w tp p nn S R mm S2 R2 L.length F winv fv wv xs j wr)) (fun q _ => t - (intOf q).toNat)
      case atStart => exact ⟨0, by omega, rfl, _, _, _, _, rfl, HTL.out⟩
      case round =>
        clear HTL HW HTP h9 HT3
        obtain ⟨j, hj, rfl, HX⟩ := hrel
        obtain ⟨winv, fv, wv, xs, hxl, hTl⟩ := HX.out
        have HT := Lib.hid hTl
        have HXL := Lib.hid hxl
        clear HX hTl hxl
        by_cases hlt : j < t
        · have hjI : (j : Int) < (t : Int) := by omega
          have HT1 := Lib.hid (HTN.out p F (lev nn mm L.length F j) wr ⟨fv, wv, HT.out.g, HT.out.f, HT.out.b, fun e => (HT.out.fs _ e).1 rfl, fun e => (HT.out.ws _ e).1 rfl⟩ HFL.out (by rw [lev_len]; exact HFL.out))
          go_wp2_with fail
          refine HT1.out.mono ?_; rintro e w3 htu
          obtain ⟨wv2, hTl2⟩ := HT.out.turn htu
          obtain ⟨rfl, _⟩ := htu
          have HT2 := Lib.hid hTl2
          have hwb := hTl2.b
          obtain ⟨g2, c2, rfl, _, _, _, _⟩ := hwb
          clear hTl2 HT1 HT
          obtain ⟨y0, y1, y2, y3⟩ := HT2.out.cells
          have HXL2 : Hid (xs.length ≤ 1000) := by have := HXL.out; show _ ≤ _; omega
          have htl := HT2.out.tlt
          have hplt := HT2.out.g.lt
          have hpt := HT2.out.ne.2.2.1
          generalize (lev nn mm L.length F (j + 1)).length = ln at *
          go_upto_region 8 with fail
          go_region_law (first
            | (refine step_ownV (HT2.out.below (Below.refl _ _).drew).own HXL2 rfl (.tmp 46) (.tmp 51) rfl (.slice (some ⟨g2, 0, none⟩) ln c2) rfl _ rfl rfl rfl ?_; intro g cap w4 ho hg ha hgl; have HP := Lib.hid (HT2.out.push HXL.out ((Below.refl _ _).drew) ho hg ha); obtain ⟨z0, z1⟩ := HT2.out.held ((Below.refl _ _).drew) hg; clear ho hg ha))
          all_goals
            go_wp2_with fail
            go_roundw
            case rel => exact ⟨j + 1, by omega, by go_num, _, _, _, _, by rw [List.length_append, List.length_singleton, HXL.out], HP.out⟩
            case measure => simp [intOf]; omega
        · obtain rfl : j = t := by omega
          obtain ⟨g, cap, rfl, k1, k2, k3, k4, k5⟩ := HT.out.own.cells (by have := HXL.out; omega)
          obtain ⟨sv, q1, ⟨sg, sc, rfl, s1, s2, s3, s4⟩, _⟩ := HT.out.lv j (by have := HXL.out; omega)
          have x1 := (k5 j (by have := HXL.out; omega)).trans q1
          obtain ⟨y0, y1, y2, y3⟩ := HT.out.cells
          have hst : stP (nn * mm + 1) mm L M < (lev nn mm L.length F j).length := by rw [lev_len, HFL.out]; exact HSL.out
          have x2 := s4 _ hst
          rw [HLVH.out] at x2
          have j1 := fun (z : Since wr) => HST.out p fv wv _ _ z.w (HT.out.g.below z.below) (HVW.out.below (HT.out.old.trans (z.below.mono HT.out.old.size))) (HUW.out.below (HT.out.old.trans (z.below.mono HT.out.old.size)))
          have hx0 : 0 < xs.length := by have := HXL.out; omega
          have HFM1 := Lib.hid (fun (h : pwB (stOf nn S R) (stOf mm S2 R2) nn mm j L M = false) w' (hb : Below wr.heap.size wr w') => HFM.out tp xs.length _ _ w' ⟨⟨p, (by have h9 := HT.out.below hb; rw [← HFE.out] at h9; exact h9.talk hx0)⟩, HVW.out.below (HT.out.old.trans (hb.mono HT.out.old.size)), HUW.out.below (HT.out.old.trans (hb.mono HT.out.old.size))⟩ (by have := HXL.out; omega) h)
          have hjl : (j : Int) < (xs.length : Int) := by have := HXL.out; omega
          have hjl2 : j < xs.length := by omega
          have hln : (lev nn mm L.length F j).length ≤ 274625 := by rw [lev_len, HFL.out]; exact hpow
          generalize stP (nn * mm + 1) mm L M = st at *
          generalize (lev nn mm L.length F j).length = ln at *
          generalize pwB (stOf nn S R) (stOf mm S2 R2) nn mm j L M = rb at *
          have J1 := Lib.hid j1
          have f0 := fun s => Since.cell y0 s
          have f1 := fun s => Since.cell y1 s
          have f2 := fun s => Since.cell x1 s
          have f3 := fun s => Since.cell x2 s
          have hstI : (st : Int) < (ln : Int) := by omega
          unfold maxLen at k4 s2
          have HO := Lib.hid HT.out.old
          clear s4 k5 q1 j1
          go_wp2_with fail
          refine wp_region_since (by kernel_rfl) (by kernel_rfl) ?_
          repeat (go_big_quiet_step ((with_reducible exact Since.call (J1.out _))))
          refine wpQuiet_nil ?_
          intro w9 hb9
          have HO9 := Lib.hid (HO.out.trans (hb9.mono HO.out.size))
          have HB9 := Lib.hid hb9
          clear hb9 f0 f1 f2 f3
          cases rb
          · have HRV := Lib.hid (HRV2.out rfl)
            have HF9 := Lib.hid (HFM1.out rfl w9 HB9.out)
            go_wp2_with fail
            refine HF9.out.mono ?_; rintro e w10 ⟨rfl, hb10⟩
            have HO10 := Lib.hid (HO9.out.trans (hb10.mono HO9.out.size))
            clear hb10
            go_wp2_with fail
            go_ret2
            exact ⟨by rw [HRV.out]; rfl, HO10.out⟩
          · have HRV := Lib.hid (HRV1.out rfl)
            go_wp2_with fail
            go_ret2
            exact ⟨by rw [HRV.out]; rfl, HO9.out⟩
    · have HRES : Hid (pfRes nn S R L mm S2 R2 M K = .tuple #[.string ByteArray.empty, .bool false]) := by
        have : (decide (0 ≤ K) && decide (K ≤ 3)) = false := by
          rw [Bool.and_eq_false_iff, decide_eq_false_iff_not, decide_eq_false_iff_not]; omega
        unfold pfRes
        rw [hrd, Bool.true_and, this]; rfl
      rw [HRES.out]
      clear hrd hva hvb hrdy hv hu
      by_cases hK0 : K < 0
      · have hKB : decide (K < 0) = true := decide_eq_true hK0
        go_enter Tryd.func18, Tryd.ntmps18
        go_wp2_with fail
        refine HNP.out.mono ?_; rintro e w1 ⟨p, rfl, hq, hb, hp⟩
        have HT3 := Lib.hid (HT.out.below hb)
        clear hq hb c0 c1 c2 f0 f1 f2 hl1 d0 d1 d2 hl2
        go_wp2_with fail
        go_ret2
        exact ⟨rfl, HT3.out.old⟩
      · have hK3 : 3 < K := by omega
        have hKB : decide (K < 0) = false := decide_eq_false hK0
        have hK3B : decide (3 < K) = true := decide_eq_true hK3
        go_enter Tryd.func18, Tryd.ntmps18
        go_wp2_with fail
        refine HNP.out.mono ?_; rintro e w1 ⟨p, rfl, hq, hb, hp⟩
        have HT3 := Lib.hid (HT.out.below hb)
        clear hq hb c0 c1 c2 f0 f1 f2 hl1 d0 d1 d2 hl2
        go_wp2_with fail
        go_ret2
        exact ⟨rfl, HT3.out.old⟩
end Go.Proofs.YtnhlhjehocngcaaDoor
/- The reference's l7Formula for all turns, and its PebbleFormula. Conditions: the structures' texts fit, the lists are readable. -/
namespace Go.Proofs.YtnhlhjehocngcaaDoor
open Go.RowKit
set_option linter.unusedVariables false
set_option maxRecDepth 100000

theorem FOK_all : ∀ t, FOK t
  | 0 => l7Formula_zero
  | t + 1 => l7Formula_succ t (FOK_all t) (l7Move_ok t (FOK_all t))
theorem szF_le3 {t : Nat} (h : t ≤ 3) : szF t ≤ 2851 := by
  match t, h with
  | 0, _ => decide
  | 1, _ => decide
  | 2, _ => decide
  | 3, _ => decide
set_option maxHeartbeats 4000000 in
theorem specPebbleFormula_any (n m : Int) (S R S2 R2 : ByteArray) (L M : List Int) (K : Int) (v u : Value) (w : World) (hS : S.size ≤ 9223372036854775807) (hR : R.size ≤ 9223372036854775807) (hS2 : S2.size ≤ 9223372036854775807) (hR2 : R2.size ≤ 9223372036854775807) (hv : IntsAt w v L) (hu : IntsAt w u M) :
    Calls Tryd.prog 15 #[strV n S R, v, strV m S2 R2, u, .int .i64 K] w fun e w' => e = .returned (pfRes n S R L m S2 R2 M K) ∧ Below w.heap.size w w' := by
  have HT := Lib.hid (Bxp.new w n S R m S2 R2)
  unfold boxS at HT
  obtain ⟨c0, c1, c2, f0, f1, f2, hl1⟩ := HT.out.a.cells
  obtain ⟨d0, d1, d2, _, _, _, hl2⟩ := HT.out.b.cells
  have HRD := Lib.hid (fun W (hb : Below w.heap.size w W) => l7Ready_any n S R m S2 R2 L M v u W hS hR hS2 hR2 (hv.below hb) (hu.below hb))
  have HIN := Lib.hid (fun W => l1In_any K 0 3 W)
  have HVW := Lib.hid hv
  have HUW := Lib.hid hu
  cases hrd : pebRdB n S R L m S2 R2 M
  · have HRES : Hid (pfRes n S R L m S2 R2 M K = .tuple #[.string ByteArray.empty, .bool false]) := by unfold pfRes; rw [hrd]; rfl
    rw [HRES.out]
    rw [hrd] at HRD
    obtain ⟨a1, ca, rfl, _, _, _⟩ := hv.view
    obtain ⟨b1, cb, rfl, _, _, _⟩ := hu.view
    unfold strV at HRD
    unfold strV
    clear hrd hv hu
    go_enter Tryd.func15, Tryd.ntmps15
    go_wp2_with fail
    refine (HRD.out _ HT.out.old).mono ?_; rintro e w1 ⟨rfl, hb⟩
    have HT3 := Lib.hid (HT.out.below hb)
    clear hb c0 c1 c2 f0 f1 f2 hl1 d0 d1 d2 hl2
    go_wp2_with fail
    go_ret2
    exact ⟨rfl, HT3.out.old⟩
  · obtain ⟨nn, rfl⟩ := nat_of_validP (show validB n S R = true by unfold pebRdB at hrd; simp only [Bool.and_eq_true] at hrd; exact hrd.1)
    obtain ⟨mm, rfl⟩ := nat_of_validP (show validB m S2 R2 = true by unfold pebRdB at hrd; simp only [Bool.and_eq_true] at hrd; exact hrd.2.1)
    obtain ⟨hva, hvb, hrdy, hk1, hk3⟩ := ready_rdy hrd
    obtain ⟨hn1, hn8, hSz, hRz, _, _⟩ := valid_is hva
    obtain ⟨hm1, hm8, hSz2, hRz2, _, _⟩ := valid_is hvb
    rw [hrd] at HRD
    by_cases hK : 0 ≤ K ∧ K ≤ 3
    · obtain ⟨t, rfl⟩ := Int.eq_ofNat_of_zero_le hK.1
      have ht3 : t ≤ 3 := by omega
      rw [show inB (t : Int) 0 3 = true by rw [inB_iff]; omega] at HIN
      have HWN := Lib.hid (fun W (hb : Below w.heap.size w W) => l7Wins_any nn mm t S R S2 R2 L M v u W hSz hRz hSz2 hRz2 hn8 hm8 hk3 hrdy.len.symm ht3 (hv.below hb) (hu.below hb) hrdy.la hrdy.lb hrdy.sg)
      have HLV := Lib.hid (fun W => l7Levels_any nn mm L.length t S R S2 R2 W hSz hRz hSz2 hRz2 hn8 hm8 hk3 ht3)
      have HFO : Hid (∀ (va vb : Value) (cs ds : List (List Nat)) (W : World), Below w.heap.size w W → LevAt W va cs → LevAt W vb ds → Lf (stOf nn S R) (stOf mm S2 R2) nn mm L.length t cs ds → pwB (stOf nn S R) (stOf mm S2 R2) nn mm t L M = false → _) := fun va vb cs ds W hb hA hB hF hp => FOK_all t nn S R mm S2 R2 va vb cs ds t L M v u W ⟨hSz, hRz, hSz2, hRz2, hn8, hm8, hn1, hm1, hA, hB, hF, hv.below hb, hu.below hb, hrdy, hk3⟩ (Nat.le_refl _) ht3 hp
      have hpz : (pebF t (stOf nn S R) (stOf mm S2 R2) L M).size ≤ 2851 := Nat.le_trans (pebF_size t _ _ L M hn1 hn8 hm1 hm8) (szF_le3 ht3)
      obtain ⟨RV, hrv⟩ : ∃ r, pfRes nn S R L mm S2 R2 M (t : Int) = r := ⟨_, rfl⟩
      have HRV1 : Hid (pwB (stOf nn S R) (stOf mm S2 R2) nn mm t L M = true → RV = .tuple #[.string ByteArray.empty, .bool false]) := fun h => by
        rw [← hrv]; unfold pfRes
        rw [Int.toNat_natCast, Int.toNat_natCast, Int.toNat_natCast, h]; simp
      have HRV2 : Hid (pwB (stOf nn S R) (stOf mm S2 R2) nn mm t L M = false → RV = .tuple #[.string (pebF t (stOf nn S R) (stOf mm S2 R2) L M), .bool true]) := fun h => by
        rw [← hrv]; unfold pfRes
        rw [Int.toNat_natCast, Int.toNat_natCast, Int.toNat_natCast, h, hrd, decide_eq_true hK.1, decide_eq_true hK.2]; rfl
      rw [hrv]
      obtain ⟨a1, ca, rfl, _, _, _⟩ := hv.view
      obtain ⟨b1, cb, rfl, _, _, _⟩ := hu.view
      unfold l7V at HFO
      unfold strV at HRD HWN HLV
      unfold strV
      clear hva hvb hSz hRz hSz2 hRz2 hrdy hv hu hrd hrv hK HVW HUW
      generalize pebF t (stOf nn S R) (stOf mm S2 R2) L M = PF at *
      cases hpw : pwB (stOf nn S R) (stOf mm S2 R2) nn mm t L M
      · have HRV := Lib.hid (HRV2.out hpw)
        have HF2 := Lib.hid (fun va vb cs ds W h1 h2 h3 h4 => HFO.out va vb cs ds W h1 h2 h3 h4 hpw)
        rw [hpw] at HWN
        clear HRV1 HRV2 HFO hpw
        go_enter Tryd.func15, Tryd.ntmps15
        go_wp2_with fail
        refine (HRD.out _ HT.out.old).mono ?_; rintro e w1 ⟨rfl, hb⟩
        have HT1 := Lib.hid (HT.out.below hb)
        clear hb c0 c1 c2 f0 f1 f2 hl1 d0 d1 d2 hl2
        obtain ⟨c0, c1, c2, _⟩ := HT1.out.a.cells
        obtain ⟨d0, d1, d2, _⟩ := HT1.out.b.cells
        go_wp2_with fail
        refine (HIN.out _).mono ?_; rintro e w2 ⟨rfl, hw2⟩; subst hw2
        go_wp2_with fail
        refine (HWN.out _ HT1.out.old).mono ?_; rintro e w3 ⟨rfl, hb⟩
        have HT3 := Lib.hid (HT1.out.below hb)
        clear hb c0 c1 c2 d0 d1 d2 HT1
        obtain ⟨c0, c1, c2, _⟩ := HT3.out.a.cells
        obtain ⟨d0, d1, d2, _⟩ := HT3.out.b.cells
        go_wp2_with fail
        refine (HLV.out _).mono ?_; rintro e w4 ⟨va, vb, cs, ds, rfl, hA, hB, hF, hb⟩
        have HT4 := Lib.hid (HT3.out.below hb)
        have HF4 := Lib.hid (HF2.out va vb cs ds w4 HT4.out.old hA hB hF)
        obtain ⟨ga, capa, rfl, -⟩ := hA
        obtain ⟨gb, capb, rfl, -⟩ := hB
        clear hF hb c0 c1 c2 d0 d1 d2 HT3 HF2
        generalize cs.length = lc at *
        generalize ds.length = ld at *
        obtain ⟨c0, c1, c2, _⟩ := HT4.out.a.cells
        obtain ⟨d0, d1, d2, _⟩ := HT4.out.b.cells
        go_wp2_with fail
        refine HF4.out.mono ?_; rintro e w5 ⟨rfl, hb⟩
        have HT5 := Lib.hid (HT4.out.old.trans (hb.mono HT4.out.old.size))
        clear hb
        have hpzI : ¬ (4000 < (PF.size : Int)) := by omega
        go_wp2_with fail
        go_ret2
        exact ⟨by rw [HRV.out]; rfl, HT5.out⟩
      · have HRV := Lib.hid (HRV1.out hpw)
        rw [hpw] at HWN
        clear HRV1 HRV2 HFO hpw
        go_enter Tryd.func15, Tryd.ntmps15
        go_wp2_with fail
        refine (HRD.out _ HT.out.old).mono ?_; rintro e w1 ⟨rfl, hb⟩
        have HT1 := Lib.hid (HT.out.below hb)
        clear hb c0 c1 c2 f0 f1 f2 hl1 d0 d1 d2 hl2
        obtain ⟨c0, c1, c2, _⟩ := HT1.out.a.cells
        obtain ⟨d0, d1, d2, _⟩ := HT1.out.b.cells
        go_wp2_with fail
        refine (HIN.out _).mono ?_; rintro e w2 ⟨rfl, hw2⟩; subst hw2
        go_wp2_with fail
        refine (HWN.out _ HT1.out.old).mono ?_; rintro e w3 ⟨rfl, hb⟩
        have HT3 := Lib.hid (HT1.out.below hb)
        clear hb
        go_wp2_with fail
        go_ret2
        exact ⟨by rw [HRV.out]; rfl, HT3.out.old⟩
    · have HRES : Hid (pfRes nn S R L mm S2 R2 M K = .tuple #[.string ByteArray.empty, .bool false]) := by
        have : (decide (0 ≤ K) && decide (K ≤ 3)) = false := by
          rw [Bool.and_eq_false_iff, decide_eq_false_iff_not, decide_eq_false_iff_not]; omega
        unfold pfRes
        rw [hrd, Bool.true_and, this]; rfl
      rw [HRES.out]
      rw [show inB K 0 3 = false by
        cases h : inB K 0 3
        · rfl
        · rw [inB_iff] at h; exact absurd h hK] at HIN
      obtain ⟨a1, ca, rfl, _, _, _⟩ := hv.view
      obtain ⟨b1, cb, rfl, _, _, _⟩ := hu.view
      unfold strV at HRD
      unfold strV
      clear hrd hva hvb hrdy hv hu hK
      go_enter Tryd.func15, Tryd.ntmps15
      go_wp2_with fail
      refine (HRD.out _ HT.out.old).mono ?_; rintro e w1 ⟨rfl, hb⟩
      have HT3 := Lib.hid (HT.out.below hb)
      clear hb c0 c1 c2 f0 f1 f2 hl1 d0 d1 d2 hl2
      go_wp2_with fail
      refine (HIN.out _).mono ?_; rintro e w2 ⟨rfl, hw2⟩; subst hw2
      go_wp2_with fail
      go_ret2
      exact ⟨rfl, HT3.out.old⟩
end Go.Proofs.YtnhlhjehocngcaaDoor
/- What the laws do with a structure that came in: toStructure, szStructure, eqStructure. Condition: the texts' lengths fit an integer. -/
namespace Go.Proofs.YtnhlhjehocngcaaDoor
open Go.RowKit
set_option linter.unusedVariables false
set_option maxRecDepth 100000

/-- A structure of the laws in block b. -/
def LBlk (w : World) (b : Nat) (n : Int) (S R : ByteArray) : Prop := w.heap[b]? = some (.cells #[.int .i64 n, .string S, .string R] 35 (0, 0))
theorem LBlk.cells {w : World} {b : Nat} {n : Int} {S R : ByteArray} (h : LBlk w b n S R) :
    w.cell? ⟨b, 0, none⟩ = some (.int .i64 n) ∧ w.cell? ⟨b, 1, none⟩ = some (.string S) ∧ w.cell? ⟨b, 2, none⟩ = some (.string R) ∧ b < w.heap.size := by
  unfold LBlk at h
  have hb : b < w.heap.size := by
    rcases Nat.lt_or_ge b w.heap.size with h' | h'
    · exact h'
    · simp [Array.getElem?_eq_none h'] at h
  refine ⟨?_, ?_, ?_, hb⟩ <;> simp [World.cell?, h]
theorem LBlk.new (w : World) (n : Int) (S R : ByteArray) : LBlk (w.alloc (.cells #[.int .i64 n, .string S, .string R] 35)) w.heap.size n S R := heap_alloc_new w _
theorem LBlk.below {w w' : World} {b B : Nat} {n : Int} {S R : ByteArray} (h : LBlk w b n S R) (hb : Below B w w') (hB : b < B) : LBlk w' b n S R := (hb.block b hB).trans h
theorem below_box (w : World) (n : Int) (S R : ByteArray) : Below w.heap.size w (w.alloc (.cells #[.int .i64 n, .string S, .string R] 35)) := (Below.refl _ _).alloc (Nat.le_refl _) _

theorem toStructure_any (n : Int) (S R : ByteArray) (w : World) : Calls Tryd.prog 16 #[strV n S R] w fun e w' => e = .returned (strV n S R) ∧ Below w.heap.size w w' := by
  unfold strV
  go_enter Tryd.func16, Tryd.ntmps16
  go_wp2_with fail
  have h0 := SBlk.new (w.alloc (.cells #[.int .i64 n, .string S, .string R] 35)) n S R
  have h1 := h0.below ((Below.refl _ _).alloc (Nat.le_refl _) (.cells #[.int .i64 n, .string S, .string R] 25)) (by simp)
  simp only [World.size_alloc] at h1
  refine bodyPost_ret (v := strV n S R) ?_ rfl ⟨rfl, ?_⟩
  · exact results_str rfl rfl h1
  · exact (((Below.refl w.heap.size w).alloc (Nat.le_refl _) _).alloc (by simp) _).alloc (by simp; omega) _
theorem szStructure_any (n : Int) (S R : ByteArray) (w : World) (hS : S.size ≤ 9223372036854775807) (hR : R.size ≤ 9223372036854775807) :
    Calls Tryd.prog 14 #[strV n S R, .int .i64 1048576] w fun e w' => e = .returned (.int .i64 (if (S.size : Int) + (R.size : Int) ≤ 1048576 then 1048576 - ((S.size : Int) + (R.size : Int)) else -1)) ∧ Below w.heap.size w w' := by
  unfold strV
  have HB := Lib.hid (below_box w n S R)
  by_cases h1 : 1048576 < S.size
  · have HE : Hid ((if (S.size : Int) + (R.size : Int) ≤ 1048576 then 1048576 - ((S.size : Int) + (R.size : Int)) else -1) = (-1 : Int)) := if_neg (by omega)
    go_enter Tryd.func14, Tryd.ntmps14
    go_wp2_with fail
    go_ret
    exact ⟨ret_int (by first | omega | (rw [HE.out])), HB.out⟩
  · by_cases h2 : 1048576 < S.size + R.size
    · have HE : Hid ((if (S.size : Int) + (R.size : Int) ≤ 1048576 then 1048576 - ((S.size : Int) + (R.size : Int)) else -1) = (-1 : Int)) := if_neg (by omega)
      go_enter Tryd.func14, Tryd.ntmps14
      go_wp2_with fail
      go_ret
      exact ⟨ret_int (by first | omega | (rw [HE.out])), HB.out⟩
    · have HE : Hid ((if (S.size : Int) + (R.size : Int) ≤ 1048576 then 1048576 - ((S.size : Int) + (R.size : Int)) else -1) = 1048576 - ((S.size : Int) + (R.size : Int))) := if_pos (by omega)
      go_enter Tryd.func14, Tryd.ntmps14
      go_wp2_with fail
      go_ret
      exact ⟨ret_int (by first | omega | (rw [HE.out]; omega)), HB.out⟩
/-- A boxed structure and an empty result behind it. -/
structure BoxR (w wr : World) (n : Int) (S R : ByteArray) : Prop where
  a : SBlk wr w.heap.size n S R
  res : SBlk wr (w.heap.size + 1) 0 ByteArray.empty ByteArray.empty
  old : Below w.heap.size w wr
section
variable {w wr w' : World} {n : Int} {S R : ByteArray}
theorem BoxR.below (h : BoxR w wr n S R) (hb : Below wr.heap.size wr w') : BoxR w w' n S R :=
  ⟨h.a.below hb h.a.cells.2.2.2.2.2.2, h.res.below hb h.res.cells.2.2.2.2.2.2, h.old.trans (hb.mono h.old.size)⟩
theorem BoxR.first (w : World) (n : Int) (S R : ByteArray) : BoxR w ((boxS w n S R).alloc (.cells #[.int .i64 0, .string ByteArray.empty, .string ByteArray.empty] 25)) n S R := by
  have hB : Below (boxS w n S R).heap.size (boxS w n S R) ((boxS w n S R).alloc (.cells #[.int .i64 0, .string ByteArray.empty, .string ByteArray.empty] 25)) := (Below.refl _ _).alloc (Nat.le_refl _) _
  refine ⟨(boxS_SBlk w n S R).below hB (boxS_SBlk w n S R).cells.2.2.2.2.2.2, ?_, (boxS_below w n S R).trans (hB.mono (boxS_below w n S R).size)⟩
  have h := SBlk.new (boxS w n S R) 0 ByteArray.empty ByteArray.empty
  rw [boxS_size] at h
  exact h
theorem BoxR.fin (h : BoxR w wr n S R) (u v x : Value) : Below w.heap.size w (((wr.setCell ⟨w.heap.size + 1, 0, none⟩ u).setCell ⟨w.heap.size + 1, 1, none⟩ v).setCell ⟨w.heap.size + 1, 2, none⟩ x) :=
  ((h.old.setCell (by simp) _).setCell (by simp) _).setCell (by simp) _
end
end Go.Proofs.YtnhlhjehocngcaaDoor
/- The reference's source of numbers: what is known of a reader in memory, and that a number that is drawn lies in its range, whatever the bytes are. Conditions: the reader is well formed and has drawn fewer than 2 to the power of 40 numbers. -/
namespace Go.Proofs.YtnhlhjehocngcaaDoor
open Go.RowKit

/-- The reader in block b has drawn k numbers; its bytes are readable and lie in an older block. -/
structure Rd (w : World) (b k : Nat) (a : Option Addr) (len cap : Nat) (f : Nat → Int) : Prop where
  c0 : w.cell? ⟨b, 0, none⟩ = some (.slice a len cap)
  c1 : w.cell? ⟨b, 1, none⟩ = some (.int .i64 (k : Int))
  fr : w.frozen? ⟨b, 1, none⟩ = false
  short : len ≤ 2000
  room : len ≤ cap
  row : len = 0 ∨ ∃ b' off, a = some ⟨b', off, none⟩ ∧ b' < b ∧ (∀ j, j < len → w.cell? ⟨b', off + j, none⟩ = some (.int .u8 (f j))) ∧ ∀ j, 0 ≤ f j ∧ f j ≤ 255

def RdAt (w : World) (b k : Nat) : Prop := ∃ a len cap f, Rd w b k a len cap f

/-- What a draw of a number below n leaves. -/
def Drew (b k : Nat) (n : Int) (w : World) (e : Ending) (w' : World) : Prop :=
  ∃ v : Int, e = .returned (.int .i64 v) ∧ 0 ≤ v ∧ v < n ∧ RdAt w' b (k + 1) ∧ w.grownBy w' (some b)

theorem RdAt.block {w : World} {b k : Nat} (h : RdAt w b k) : b < w.heap.size := by
  obtain ⟨a, len, cap, f, c0, _⟩ := h
  exact World.block_lt_of_cell? w ⟨b, 0, none⟩ c0

theorem RdAt.step {w : World} {b k : Nat} (h : RdAt w b k) (m : Nat) : RdAt ((w.setCell ⟨b, 1, none⟩ (.int .i64 ((k : Int) + 1))).drewN m) b (k + 1) := by
  obtain ⟨a, len, cap, f, c0, c1, fr, short, room, row⟩ := h
  refine ⟨a, len, cap, f, ?_, ?_, ?_, short, room, ?_⟩
  · rw [World.cell?_drewN, World.cell?_setCell_other _ _ _ _ (by simp)]; exact c0
  · rw [World.cell?_drewN, World.cell?_setCell_same _ _ _ c1]; rfl
  · rw [World.frozen?_drewN, World.frozen?_setCell]; exact fr
  · rcases row with h | ⟨b', off, rfl, hb, hc, hf⟩
    · exact .inl h
    · refine .inr ⟨b', off, rfl, hb, fun j hj => ?_, hf⟩
      rw [World.cell?_drewN, World.cell?_setCell_other _ _ _ _ (by intro h; injection h; omega)]
      exact hc j hj

theorem grown_step (w : World) (b : Nat) (u : Value) (m : Nat) : w.grownBy ((w.setCell ⟨b, 1, none⟩ u).drewN m) (some b) :=
  ⟨rfl, rfl, rfl, by simp [World.setCell, World.drewN], fun i _ hne => Below.heap_setCell w ⟨b, 1, none⟩ u i (by rintro rfl; exact hne rfl)⟩

theorem Drew.mk {w : World} {b k : Nat} {n : Int} (v : Int) (h : RdAt w b k) (m : Nat) (h0 : 0 ≤ v) (h1 : v < n) {e : Ending} (he : e = .returned (.int .i64 v)) :
    Drew b k n w e ((w.setCell ⟨b, 1, none⟩ (.int .i64 ((k : Int) + 1))).drewN m) :=
  ⟨v, he, h0, h1, h.step m, grown_step _ _ _ _⟩

theorem ofInt_i64 (a : Nat) (ha : a < 9223372036854775808) : (BitVec.ofInt 64 (a : Int)).toNat = a := by
  rw [BitVec.ofInt_natCast, BitVec.toNat_ofNat]; exact Nat.mod_eq_of_lt (by omega)
theorem i64_xor_nat (a b : Nat) (ha : a < 9223372036854775808) (hb : b < 9223372036854775808) : bits .xor .i64 (a : Int) (b : Int) = ((a ^^^ b : Nat) : Int) := by
  have hx : a ^^^ b < 2 ^ 63 := Nat.xor_lt_two_pow (by omega) (by omega)
  show IntKind.i64.wrap ((BitVec.ofInt 64 (a : Int) ^^^ BitVec.ofInt 64 (b : Int)).toNat : Int) = _
  rw [BitVec.toNat_xor, ofInt_i64 a ha, ofInt_i64 b hb, IntKind.wrap_i64]
  omega
theorem wrap_in {x : Int} (h0 : 0 ≤ x) (h1 : x < 9223372036854775808) : wrap64 x = x := by
  unfold wrap64; omega
theorem mix_bounds (x y : Int) (k len : Nat) (n : Int) (x0 : 0 ≤ x) (x1 : x ≤ 255) (y0 : 0 ≤ y) (y1 : y ≤ 255) (hk : k < 1099511627776) (hl : (0 : Int) < (len : Int)) (n0 : 1 ≤ n) :
    0 ≤ (bits BinOp.xor IntKind.i64 (wrap64 (x * 131 + y * 1117 + (k : Int) * 29 + wrap64 (wrap64 ((k : Int) / (len : Int)) * 53)))
          (wrap64 ((wrap64 (x * 131 + y * 1117 + (k : Int) * 29 + wrap64 (wrap64 ((k : Int) / (len : Int)) * 53))).tdiv 64))).tmod n ∧
    (bits BinOp.xor IntKind.i64 (wrap64 (x * 131 + y * 1117 + (k : Int) * 29 + wrap64 (wrap64 ((k : Int) / (len : Int)) * 53)))
          (wrap64 ((wrap64 (x * 131 + y * 1117 + (k : Int) * 29 + wrap64 (wrap64 ((k : Int) / (len : Int)) * 53))).tdiv 64))).tmod n < n := by
  have d0 : 0 ≤ (k : Int) / (len : Int) := Int.ediv_nonneg (by omega) (by omega)
  have d1 : (k : Int) / (len : Int) ≤ k := Int.ediv_le_self _ (by omega)
  generalize (k : Int) / (len : Int) = d at *
  have e1 : wrap64 d = d := wrap_in d0 (by omega)
  have e2 : wrap64 (d * 53) = d * 53 := wrap_in (by omega) (by omega)
  rw [e1, e2]
  obtain ⟨s, hs⟩ : ∃ s : Nat, x * 131 + y * 1117 + (k : Int) * 29 + d * 53 = s := ⟨(x * 131 + y * 1117 + (k : Int) * 29 + d * 53).toNat, by omega⟩
  have hs1 : s < 9223372036854775808 := by omega
  rw [hs, wrap_in (by omega) (by omega)]
  have e3 : ((s : Int)).tdiv 64 = ((s / 64 : Nat) : Int) := rfl
  rw [e3, wrap_in (by omega) (by omega), i64_xor_nat s (s / 64) hs1 (by omega)]
  exact ⟨Int.tmod_nonneg _ (by omega), Int.tmod_lt_of_pos _ (by omega)⟩

theorem pick_any (w : World) (b k : Nat) (n : Int) (h : RdAt w b k) (hk : k < 1099511627776) (n0 : 1 ≤ n) (n1 : n ≤ 4611686018427387904) :
    Calls Tryd.prog 48 #[.pointer (some ⟨b, 0, none⟩), .int .i64 n] w (Drew b k n w) := by
  have HD := fun v => Drew.mk (n := n) v h
  obtain ⟨a, len, cap, f, c0, c1, fr, short, room, row⟩ := h
  have HDD := Lib.hid HD; clear HD
  by_cases h0 : len = 0
  · subst h0
    clear row
    go_enter Tryd.func48, Tryd.ntmps48
    go_wp2
    go_ret
    exact HDD.out 0 0 (by omega) (by omega) rfl
  · obtain ⟨b', off, rfl, hb, hc, hf⟩ := row.resolve_left h0
    clear row
    have hl0 : (0 : Int) < (len : Int) := by omega
    have hl1 : ((len : Int) == 0) = false := by simp; omega
    have hn1 : ¬ n < 1 := by omega
    by_cases hlt : k < len
    · have hck := hc k hlt
      obtain ⟨hf0, hf1⟩ := hf k
      have hlt' : (k : Int) < (len : Int) := by omega
      generalize f k = v at *
      clear hc hf
      go_enter Tryd.func48, Tryd.ntmps48
      go_wp2
      go_ret
      refine HDD.out (v % n) 0 (Int.emod_nonneg _ (by omega)) (Int.emod_lt_of_pos _ (by omega)) rfl
    · have hlt' : (len : Int) ≤ (k : Int) := by omega
      have i0 := hc (k % len) (Nat.mod_lt _ (by omega))
      have i1 := hc ((k * 7 + 3) % len) (Nat.mod_lt _ (by omega))
      obtain ⟨x0, x1⟩ := hf (k % len)
      obtain ⟨y0, y1⟩ := hf ((k * 7 + 3) % len)
      generalize f (k % len) = x at *
      generalize f ((k * 7 + 3) % len) = y at *
      have p0 : ((k : Int) % (len : Int)) = ((k % len : Nat) : Int) := by simp
      have p1 : (((k : Int) * 7 + 3) % (len : Int)) = (((k * 7 + 3) % len : Nat) : Int) := by simp
      have q0 : k % len < len := Nat.mod_lt _ (by omega)
      have q1 : (k * 7 + 3) % len < len := Nat.mod_lt _ (by omega)
      generalize k % len = m0 at *
      generalize (k * 7 + 3) % len = m1 at *
      clear hc hf hlt
      go_enter Tryd.func48, Tryd.ntmps48
      go_wp2
      go_quiet (fail)
      go_wp2
      go_ret
      obtain ⟨r0, r1⟩ := mix_bounds x y k len n x0 x1 y0 y1 hk hl0 n0
      exact HDD.out _ nq r0 r1 rfl
end Go.Proofs.YtnhlhjehocngcaaDoor
/- The reader is opened, draws an element of a list of numbers; lengths of orders and the arguments of the order laws are drawn, each in its range. Conditions: the bytes are readable; at most so many numbers have been drawn. -/
namespace Go.Proofs.YtnhlhjehocngcaaDoor
open Go.RowKit

/-- A reader that has drawn at most K numbers. -/
def RdB (w : World) (b K : Nat) : Prop := ∃ k, k ≤ K ∧ RdAt w b k
theorem RdB.mono {w : World} {b K K' : Nat} (h : RdB w b K) (hk : K ≤ K') : RdB w b K' := by
  obtain ⟨k, h1, h2⟩ := h
  exact ⟨k, by omega, h2⟩
theorem RdB.block {w : World} {b K : Nat} (h : RdB w b K) : b < w.heap.size := by
  obtain ⟨k, _, h2⟩ := h
  exact h2.block
def DrewB (b K : Nat) (n : Int) (w : World) (e : Ending) (w' : World) : Prop :=
  ∃ v : Int, e = .returned (.int .i64 v) ∧ 0 ≤ v ∧ v < n ∧ RdB w' b (K + 1) ∧ w.grownBy w' (some b)
theorem pickB (w : World) (b K : Nat) (n : Int) (h : RdB w b K) (hk : K < 1099511627776) (n0 : 1 ≤ n) (n1 : n ≤ 4611686018427387904) :
    Calls Tryd.prog 48 #[.pointer (some ⟨b, 0, none⟩), .int .i64 n] w (DrewB b K n w) := by
  obtain ⟨k, h1, h2⟩ := h
  refine (pick_any w b k n h2 (by omega) n0 n1).mono fun e w' ⟨v, he, v0, v1, hr, hg⟩ => ⟨v, he, v0, v1, ⟨k + 1, by omega, hr⟩, hg⟩

theorem RdAt.grown {w w' : World} {b k : Nat} (h : RdAt w b k) (hg : w.grownBy w' none) : RdAt w' b k := by
  have hb := h.block
  obtain ⟨a, len, cap, f, c0, c1, fr, short, room, row⟩ := h
  refine ⟨a, len, cap, f, hg.cell c0 (by simp), hg.cell c1 (by simp), ?_, short, room, ?_⟩
  · exact (World.frozen?_of_block (hg.block b hb (by simp))).trans fr
  · rcases row with h | ⟨b', off, rfl, hb', hc, hf⟩
    · exact .inl h
    · exact .inr ⟨b', off, rfl, hb', fun j hj => hg.cell (hc j hj) (by simp), hf⟩
theorem RdB.grown {w w' : World} {b K : Nat} (h : RdB w b K) (hg : w.grownBy w' none) : RdB w' b K := by
  obtain ⟨k, h1, h2⟩ := h
  exact ⟨k, h1, h2.grown hg⟩

theorem IsRow.below {k : IntKind} {w w' : World} {a : Option Addr} {len cap : Nat} {zs : List Int} (h : IsRow k w a len cap zs) (hb : Below w.heap.size w w') : IsRow k w' a len cap zs := by
  rcases h with h | ⟨x, h1, h2, h3, h4, h5, h6⟩
  · exact .inl h
  · refine .inr ⟨x, h1, h2, h3, h4, fun i hi => ?_, h6⟩
    rw [hb.cell (World.block_lt_of_cell? w _ (h5 i hi))]
    exact h5 i hi

/-- What l15Open leaves: a new reader that has drawn nothing. -/
def Opened (w : World) (e : Ending) (w' : World) : Prop :=
  e = .returned (.pointer (some ⟨w.heap.size, 0, none⟩)) ∧ RdB w' w.heap.size 0 ∧ Below w.heap.size w w' ∧ w'.heap.size = w.heap.size + 1

theorem Opened.mk {w : World} {a : Option Addr} {len cap n : Nat} {zs : List Int} {e : Ending} {T : TypeId} (h : IsRow .u8 w a len cap zs) (hn : n ≤ len) (hn' : n ≤ 2000) (he : e = .returned (.pointer (some ⟨w.heap.size, 0, none⟩))) :
    Opened w e (w.alloc (.cells #[.slice a n cap, .int .i64 0] T)) := by
  refine ⟨he, ⟨0, Nat.le_refl _, a, n, cap, fun j => zs.getD j 0, ?_, ?_, ?_, hn', ?_, ?_⟩, (Below.refl _ _).alloc (Nat.le_refl _) _, by simp⟩
  · simp
  · simp
  · simp
  · rcases h with ⟨rfl, rfl, rfl, rfl⟩ | ⟨x, rfl, h2, h3, h4, h5, h6⟩ <;> omega
  · by_cases h0 : n = 0
    · exact .inl h0
    · rcases h with ⟨rfl, rfl, rfl, rfl⟩ | ⟨x, rfl, h2, h3, h4, h5, h6⟩
      · omega
      · obtain ⟨b, off, rfl, hc⟩ := ints_at h5 (by omega)
        have hb : b < w.heap.size := World.block_lt_of_cell? w _ (hc 0 (by omega))
        refine .inr ⟨b, off, rfl, hb, fun j hj => ?_, fun j => ?_⟩
        · rw [World.cell?_alloc_lt w _ _ (by exact hb)]
          exact hc j (by omega)
        · by_cases hj : j < zs.length
          · have hm : zs.getD j 0 ∈ zs := by simp [hj]
            have := bounds_u8 (h6 _ hm)
            omega
          · simp [hj]

theorem l15Open_any (w : World) (a : Option Addr) (len cap : Nat) (zs : List Int) (h : IsRow .u8 w a len cap zs) :
    Calls Tryd.prog 20 #[.slice a len cap] w (Opened w) := by
  have HD := fun n hn hn' T e he => Opened.mk (n := n) (T := T) (e := e) h hn hn' he
  have hl : len ≤ cap ∧ cap ≤ maxLen := by
    rcases h with ⟨rfl, rfl, rfl, rfl⟩ | ⟨x, rfl, h2, h3, h4, h5, h6⟩
    · simp
    · exact ⟨h2, h3⟩
  unfold maxLen at hl
  obtain ⟨l0, l1⟩ := hl
  have HDD := Lib.hid HD; clear HD h
  by_cases h0 : len ≤ 2000
  · have h0' : (len : Int) ≤ 2000 := by omega
    go_enter Tryd.func20, Tryd.ntmps20
    go_wp2
    go_ret
    exact HDD.out len (Nat.le_refl _) h0 _ _ rfl
  · have h0' : (2000 : Int) < (len : Int) := by omega
    go_enter Tryd.func20, Tryd.ntmps20
    go_wp2
    go_ret
    exact HDD.out 2000 (by omega) (Nat.le_refl _) _ _ rfl

/-- What a draw of one of n numbers leaves. -/
def NumPost (b K n : Nat) (f : Nat → Int) (w : World) (e : Ending) (w' : World) : Prop :=
  ∃ j, j < n ∧ e = .returned (.int .i64 (f j)) ∧ RdB w' b (K + 1) ∧ w.grownBy w' (some b)

theorem num_any (w : World) (b K lb n : Nat) (f : Nat → Int) (h : RdB w b K) (hk : K < 1099511627776) (hne : lb ≠ b) (h0 : 1 ≤ n) (h1 : n ≤ 1000)
    (hx : ∀ j, j < n → w.cell? ⟨lb, j, none⟩ = some (.int .i64 (f j))) :
    Calls Tryd.prog 21 #[.pointer (some ⟨b, 0, none⟩), .slice (some ⟨lb, 0, none⟩) n n] w (NumPost b K n f w) := by
  have HX := Lib.hid hx; clear hx
  have H := Lib.hid h; clear h
  have HNE := Lib.hid hne; clear hne
  go_enter Tryd.func21, Tryd.ntmps21
  go_wp2_with fail
  refine (pickB _ b K _ H.out hk (by omega) (by omega)).mono ?_; rintro e w1 ⟨v, rfl, v0, v1, hr, hg⟩
  obtain ⟨j, rfl⟩ := Int.eq_ofNat_of_zero_le v0
  have hj : j < n := by omega
  have hc := hg.cell (HX.out j hj) (by intro h; injection h with h; exact HNE.out h)
  have HP : Hid (NumPost b K n f w (.returned (.int .i64 (f j))) w1) := ⟨j, hj, rfl, hr, hg⟩
  clear hr hg HX H HNE
  generalize f j = v at *
  go_wp2
  go_ret
  exact HP.out

theorem grown_alloc (w : World) (o : Obj) : w.grownBy (w.alloc o) none :=
  ⟨rfl, rfl, rfl, by simp, fun i hi _ => Below.heap_alloc w o i hi⟩

/-- What a draw of an element of a list leaves. -/
def ElemPost (b K : Nat) (xs : List Int) (w : World) (e : Ending) (w' : World) : Prop :=
  ∃ v : Int, v ∈ xs ∧ e = .returned (.int .i64 v) ∧ RdB w' b (K + 1) ∧ w.grownBy w' (some b)
theorem num_list (w : World) (b K : Nat) (xs : List Int) (T : TypeId) (h : RdB w b K) (hk : K < 1099511627776) (h0 : 1 ≤ xs.length) (h1 : xs.length ≤ 1000) :
    Calls Tryd.prog 21 #[.pointer (some ⟨b, 0, none⟩), .slice (some ⟨w.heap.size, 0, none⟩) xs.length xs.length] (w.alloc (.cells (xs.map (Value.int .i64)).toArray T)) (ElemPost b K xs w) := by
  refine (num_any _ b K w.heap.size xs.length (fun j => xs.getD j 0) (h.grown (grown_alloc w _)) hk (by have := h.block; omega) h0 h1 ?_).mono ?_
  · intro j hj
    rw [World.cell?_alloc_new]
    simp [hj]
  · rintro e w' ⟨j, hj, he, hr, hg⟩
    exact ⟨xs.getD j 0, by simp [hj], he, hr, ((grown_alloc w _).but _).trans hg⟩

/-- Lengths that are drawn. -/
def LenPost (b K : Nat) (w : World) (e : Ending) (w' : World) : Prop :=
  ∃ n : Int, e = .returned (.int .i64 n) ∧ -1 ≤ n ∧ n ≤ 1000001 ∧ RdB w' b (K + 2) ∧ w.grownBy w' (some b)

end Go.Proofs.YtnhlhjehocngcaaDoor
/- The draws of the order laws: DrawOrdersAlike, DrawOrderRounds, DrawEvenSentence; each number lies in a range. Condition: the bytes are readable. -/
namespace Go.Proofs.YtnhlhjehocngcaaDoor
open Go.RowKit

theorem below_of_grown {w w1 w2 : World} {b : Nat} (h : Below w.heap.size w w1) (hb : w.heap.size ≤ b) (hg : w1.grownBy w2 (some b)) : Below w.heap.size w w2 :=
  h.grown hg h.size (fun k hk => by injection hk with hk; omega)

/-- Three numbers that are drawn. -/
def Draw3 (w : World) (e : Ending) (w' : World) : Prop :=
  ∃ n m r : Int, e = .returned (.tuple #[.int .i64 n, .int .i64 m, .int .i64 r]) ∧ (-1 ≤ n ∧ n ≤ 1000003) ∧ (-1 ≤ m ∧ m ≤ 1000003) ∧ (-1 ≤ r ∧ r ≤ 11) ∧ Below w.heap.size w w'
def Draw2 (w : World) (e : Ending) (w' : World) : Prop :=
  ∃ n m : Int, e = .returned (.tuple #[.int .i64 n, .int .i64 m]) ∧ (-1 ≤ n ∧ n ≤ 1000003) ∧ (-1 ≤ m ∧ m ≤ 1000003) ∧ Below w.heap.size w w'
def DrawNR (w : World) (e : Ending) (w' : World) : Prop :=
  ∃ n r : Int, e = .returned (.tuple #[.int .i64 n, .int .i64 r]) ∧ (-1 ≤ n ∧ n ≤ 1000003) ∧ (-1 ≤ r ∧ r ≤ 11) ∧ Below w.heap.size w w'

end Go.Proofs.YtnhlhjehocngcaaDoor
/- Draws of words: (*l15Rd).of, l12Draw, l12Open, and the arguments of the word laws. Condition: at most so many numbers have been drawn; the bytes are readable. -/
namespace Go.Proofs.YtnhlhjehocngcaaDoor
open Go.RowKit
set_option linter.unusedVariables false

/-- A text that is drawn: at most n bytes; at most K numbers have been drawn then. -/
def TxtP (b K n : Nat) (w : World) (e : Ending) (w' : World) : Prop := ∃ t : ByteArray, t.size ≤ n ∧ e = .returned (.string t) ∧ RdB w' b K ∧ w.grownBy w' (some b)
end Go.Proofs.YtnhlhjehocngcaaDoor
/- The draws of the word laws' arguments. Condition: the bytes are readable. -/
namespace Go.Proofs.YtnhlhjehocngcaaDoor
open Go.RowKit
set_option linter.unusedVariables false

/-- A text and a number that are drawn. -/
def DrawTN (w : World) (e : Ending) (w' : World) : Prop := ∃ (t : ByteArray) (n : Int), t.size ≤ 9 ∧ e = .returned (.tuple #[.string t, .int .i64 n]) ∧ Below w.heap.size w w'

def DrawNN (w : World) (e : Ending) (w' : World) : Prop := ∃ (n m : Int), e = .returned (.tuple #[.int .i64 n, .int .i64 m]) ∧ Below w.heap.size w w'
def DrawT1 (w : World) (e : Ending) (w' : World) : Prop := ∃ t : ByteArray, t.size ≤ 9 ∧ e = .returned (.string t) ∧ Below w.heap.size w w'
end Go.Proofs.YtnhlhjehocngcaaDoor
/- Lists of numbers: toIntS and eqIntS of the laws. Condition: the list is not too long. -/
namespace Go.Proofs.YtnhlhjehocngcaaDoor
open Go.RowKit
set_option linter.unusedVariables false

/-- A slice of a call's own that holds numbers. -/
structure IntsOut (w w' : World) (v : Value) (ys : List Int) : Prop where
  form : v = .slice (some ⟨w.heap.size, 0, none⟩) ys.length ys.length
  lt : w.heap.size < w'.heap.size
  cells : ∀ j (h : j < ys.length), w'.cell? ⟨w.heap.size, j, none⟩ = some (.int .i64 ys[j])
  old : Below w.heap.size w w'

theorem intInfo3 : (Tryd.prog.info? 3).map (fun i => (i.zero, i.size, i.bytes)) = some (some (.int .i64 0), 1, 8) := by kernel_rfl

theorem toIntS_any (w : World) (a : Option Addr) (len cap : Nat) (zs : List Int) (h : IsRow .i64 w a len cap zs) (hl : (len : Int) ≤ 1048576) :
    Calls Tryd.prog 17 #[.slice a len cap] w fun e w' => ∃ v, e = .returned v ∧ IntsOut w w' v (zs.take len) := by
  have hA : 0 < len → ∃ b off, a = some ⟨b, off, none⟩ ∧ b < w.heap.size ∧ ∀ k, k < len → w.cell? ⟨b, off + k, none⟩ = some (.int .i64 (zs.getD k 0)) := by
    intro h0
    rcases h with ⟨_, rfl, _⟩ | ⟨x, rfl, h2, h3, h4, h5, h6⟩
    · omega
    · obtain ⟨b, off, rfl, hc⟩ := ints_at h5 (by omega)
      exact ⟨b, off, rfl, World.block_lt_of_cell? w _ (hc 0 (by omega)), fun k hk => hc k (by omega)⟩
  have hT : ∀ k (hk : k < (zs.take len).length), (zs.take len)[k] = zs.getD k 0 := by
    intro k hk
    rw [List.length_take] at hk
    rw [List.getElem_take, List.getD_eq_getElem?_getD, List.getElem?_eq_getElem (by omega)]
    rfl
  have hzl : (zs.take len).length = len := by
    rw [List.length_take]
    rcases h with ⟨_, rfl, _⟩ | ⟨x, rfl, hlc, _, hzl, hc, _⟩ <;> omega
  have HA := Lib.hid hA
  have HTk := Lib.hid hT; clear hT
  have HZ := Lib.hid hzl
  clear hA hzl h
  obtain ⟨i, hi, hz, h1, h2⟩ := info_parts intInfo3
  have hb2 : i.bytes * len ≤ 281474976710656 := by rw [h2]; omega
  have hb3 : len ≤ maxLen := by unfold maxLen; omega
  have HMk := Lib.hid (And.intro hb2 hb3); clear hb2 hb3
  have HI := Lib.hid (And.intro hi (And.intro hz h1)); clear hi hz h1 h2
  go_enter Tryd.func17, Tryd.ntmps17
  go_wp2_with (first | (refine wpList_make_full w rfl (.tmp 6) (.tmp 6) 28 rfl w.heap.size 3 i (.int .i64 0) 1 Tryd.underlying28 HI.out.1 HI.out.2.1 HI.out.2.2 .i64 .i64 (len : Int) (len : Int) len rfl rfl rfl rfl HMk.out.1 HMk.out.2 (Nat.le_refl _) ?_; intro w1 hown hgr; have HO := Lib.hid hown; have HG := Lib.hid hgr; clear hown hgr) | fail)
  have HB1 : Hid (Below w.heap.size w w1) := ((Below.refl _ _).grown HG.out (Nat.le_refl _) (fun k hk => by cases hk))
  have HX : Hid (∃ xs : List Value, w1.ownsRow w.heap.size 3 1 (.slice (some ⟨w.heap.size, 0, none⟩) len len) len xs ∧ ∀ j, j < 0 → xs[j]? = some (.int .i64 (zs.getD j 0))) := ⟨_, HO.out, fun j hj => by omega⟩
  clear HO HG HI HMk
  go_loopw [4] (fun i wr => ∃ k : Nat, k ≤ len ∧ i = .int .i64 k ∧ Hid (∃ xs : List Value, wr.ownsRow w.heap.size 3 1 (.slice (some ⟨w.heap.size, 0, none⟩) len len) len xs ∧ ∀ j, j < k → xs[j]? = some (.int .i64 (zs.getD j 0))) ∧ Hid (Below w.heap.size w wr)) (fun i _ => len - (intOf i).toNat)
  case atStart => exact ⟨0, by omega, rfl, HX.out, HB1.out⟩
  case round =>
    obtain ⟨k, hk, rfl, HXr, HB⟩ := hrel
    by_cases hlt : k < len
    · obtain ⟨b, off, rfl, hb, hc⟩ := HA.out (by omega)
      have hck := (HB.out.cell (p := ⟨b, off + k, none⟩) hb).trans (hc k hlt)
      obtain ⟨xs, hown, hxs⟩ := HXr.out
      have hlx : xs.length = len := by simpa using hown.1
      have hcd : wr.cell? ⟨w.heap.size, k, none⟩ = some xs[k] := by
        rw [hown.cellAt k (by omega)]; exact List.getElem?_eq_getElem (by omega)
      have hfd := hown.frozenAt k
      obtain ⟨z, hz⟩ : ∃ z, zs.getD k 0 = z := ⟨_, rfl⟩
      rw [hz] at hck
      obtain ⟨u, hu⟩ : ∃ u, xs[k] = u := ⟨_, rfl⟩
      rw [hu] at hcd
      have HS := Lib.hid (hown.stored k (.int .i64 z))
      have HX2 : Hid (∃ xs : List Value, (wr.setCell ⟨w.heap.size, k, none⟩ (.int .i64 z)).ownsRow w.heap.size 3 1 (.slice (some ⟨w.heap.size, 0, none⟩) len len) len xs ∧ ∀ j, j < k + 1 → xs[j]? = some (.int .i64 (zs.getD j 0))) := by
        refine ⟨_, HS.out.1, fun j hj => ?_⟩
        rw [List.getElem?_set]
        by_cases hjk : k = j
        · subst hjk
          rw [if_pos rfl, if_pos (by omega), hz]
        · rw [if_neg hjk]
          exact hxs j (by omega)
      have HB2 : Hid (Below w.heap.size w (wr.setCell ⟨w.heap.size, k, none⟩ (.int .i64 z))) := HB.out.setCell (Nat.le_refl _) _
      clear hc hown hxs hlx hz hu HS
      go_wp2_with fail
      go_roundw
      case rel => exact ⟨k + 1, by omega, by go_num, HX2.out, HB2.out⟩
      case measure => simp [intOf]; omega
    · have hkn : k = len := by omega
      have HE : Hid (IntsOut w wr (.slice (some ⟨w.heap.size, 0, none⟩) len len) (zs.take len)) := by
        obtain ⟨xs, hown, hxs⟩ := HXr.out
        refine ⟨by rw [HZ.out], ?_, fun j hj => ?_, HB.out⟩
        · exact (hown.lt w.heap.size rfl).2
        · rw [HZ.out] at hj
          rw [hown.cellAt j (by omega), hxs j (by omega), HTk.out]
      have HK := Lib.hid hkn; clear hkn
      go_wp2_with fail
      go_ret
      exact ⟨_, rfl, HE.out⟩

theorem eqIntS_same (ys : List Int) (g1 g2 : Nat) (w : World) (hl : ys.length ≤ 9000000000000)
    (h1 : ∀ j (h : j < ys.length), w.cell? ⟨g1, j, none⟩ = some (.int .i64 ys[j])) (h2 : ∀ j (h : j < ys.length), w.cell? ⟨g2, j, none⟩ = some (.int .i64 ys[j])) :
    Calls Tryd.prog 19 #[.slice (some ⟨g1, 0, none⟩) ys.length ys.length, .slice (some ⟨g2, 0, none⟩) ys.length ys.length] w fun e w' => e = .returned (.bool true) ∧ Below w.heap.size w w' := by
  have H1 := Lib.hid h1
  have H2 := Lib.hid h2
  clear h1 h2
  obtain ⟨n, hn⟩ : ∃ n, ys.length = n := ⟨_, rfl⟩
  have HN := Lib.hid hn
  rw [hn] at hl ⊢
  clear hn
  go_enter Tryd.func19, Tryd.ntmps19
  go_wp2_with fail
  go_loopw [5] (fun i wr => ∃ k : Nat, k ≤ n ∧ i = .int .i64 k ∧ ∃ q : Nat, wr = w.drewN q) (fun i _ => n - (intOf i).toNat)
  case atStart => exact ⟨0, by omega, rfl, 0, rfl⟩
  case round =>
    obtain ⟨k, hk, rfl, q, rfl⟩ := hrel
    by_cases hlt : k < n
    · have hkl : k < ys.length := by rw [HN.out]; exact hlt
      have c1 := H1.out k hkl
      have c2 := H2.out k hkl
      have hltI : (k : Int) < (n : Int) := by omega
      obtain ⟨z, hz⟩ : ∃ z, ys[k] = z := ⟨_, rfl⟩
      rw [hz] at c1 c2
      clear hz hkl
      go_wp2_with fail
      go_quiet (fail)
      go_wp2_with fail
      go_roundw
      case rel => exact ⟨k + 1, by omega, by go_num, _, rfl⟩
      case measure => simp [intOf]; omega
    · have hltI : ¬ (k : Int) < (n : Int) := by omega
      go_wp2_with fail
      go_ret
      have h := Below.refl w.heap.size w
      exact ⟨rfl, h.os, h.tape, h.output, h.size, h.block⟩
end Go.Proofs.YtnhlhjehocngcaaDoor
namespace Go.Proofs.YtnhlhjehocngcaaDoor
open Go.RowKit
set_option linter.unusedVariables false
set_option maxRecDepth 100000

/-- szStructure at any budget. -/
theorem szStructure_at (n : Int) (S R : ByteArray) (B : Int) (w : World) (hB : 0 ≤ B ∧ B ≤ 1048576) (hS : S.size ≤ 9223372036854775807) (hR : R.size ≤ 9223372036854775807) :
    Calls Tryd.prog 14 #[strV n S R, .int .i64 B] w fun e w' => e = .returned (.int .i64 (if (S.size : Int) + (R.size : Int) ≤ B then B - ((S.size : Int) + (R.size : Int)) else -1)) ∧ Below w.heap.size w w' := by
  unfold strV
  have HB := Lib.hid (below_box w n S R)
  by_cases h1 : B < S.size
  · have HE : Hid ((if (S.size : Int) + (R.size : Int) ≤ B then B - ((S.size : Int) + (R.size : Int)) else -1) = (-1 : Int)) := if_neg (by omega)
    have hneg : B - (S.size : Int) < 0 := by omega
    go_enter Tryd.func14, Tryd.ntmps14
    go_wp2_with fail
    go_ret
    exact ⟨ret_int (by first | omega | (rw [HE.out])), HB.out⟩
  · by_cases h2 : B < S.size + R.size
    · have HE : Hid ((if (S.size : Int) + (R.size : Int) ≤ B then B - ((S.size : Int) + (R.size : Int)) else -1) = (-1 : Int)) := if_neg (by omega)
      have hneg : ¬ B - (S.size : Int) < 0 := by omega
      have hneg2 : B - (S.size : Int) - (R.size : Int) < 0 := by omega
      go_enter Tryd.func14, Tryd.ntmps14
      go_wp2_with fail
      go_ret
      exact ⟨ret_int (by first | omega | (rw [HE.out])), HB.out⟩
    · have HE : Hid ((if (S.size : Int) + (R.size : Int) ≤ B then B - ((S.size : Int) + (R.size : Int)) else -1) = B - ((S.size : Int) + (R.size : Int))) := if_pos (by omega)
      have hneg : ¬ B - (S.size : Int) < 0 := by omega
      have hneg2 : ¬ B - (S.size : Int) - (R.size : Int) < 0 := by omega
      go_enter Tryd.func14, Tryd.ntmps14
      go_wp2_with fail
      go_ret
      exact ⟨ret_int (by first | omega | (rw [HE.out]; omega)), HB.out⟩
theorem IntsOut.ints {w w' : World} {v : Value} {ys : List Int} (h : IntsOut w w' v ys) (hl : ys.length ≤ 1048576) : IntsAt w' v ys :=
  .inr ⟨w.heap.size, 0, ys.length, h.form, Nat.le_refl _, by unfold maxLen; omega, h.lt, fun j hj => by
    rw [Nat.zero_add, h.cells j hj, List.getD_eq_getElem?_getD, List.getElem?_eq_getElem hj]; rfl⟩
/-- A slice that holds numbers. -/
def IntsIn44 (w : World) (v : Value) (ys : List Int) : Prop :=
  ∃ g, v = .slice (some ⟨g, 0, none⟩) ys.length ys.length ∧ g < w.heap.size ∧ ∀ j (h : j < ys.length), w.cell? ⟨g, j, none⟩ = some (.int .i64 ys[j])
theorem IntsOut.toIn44 {w w' : World} {v : Value} {ys : List Int} (h : IntsOut w w' v ys) : IntsIn44 w' v ys := ⟨_, h.form, h.lt, h.cells⟩
theorem IntsIn44.below {w w' : World} {v : Value} {ys : List Int} (h : IntsIn44 w v ys) (hb : Below w.heap.size w w') : IntsIn44 w' v ys := by
  obtain ⟨g, h1, h2, h3⟩ := h
  exact ⟨g, h1, Nat.lt_of_lt_of_le h2 hb.size, fun j hj => (hb.cell (p := ⟨g, j, none⟩) h2).trans (h3 j hj)⟩
theorem IntsIn44.ints {w : World} {v : Value} {ys : List Int} (h : IntsIn44 w v ys) (hl : ys.length ≤ 1048576) : IntsAt w v ys := by
  obtain ⟨g, h1, h2, h3⟩ := h
  refine .inr ⟨g, 0, ys.length, h1, Nat.le_refl _, by unfold maxLen; omega, h2, fun j hj => ?_⟩
  rw [Nat.zero_add, h3 j hj, List.getD_eq_getElem?_getD, List.getElem?_eq_getElem hj]; rfl
theorem eqInts_in44 (v v2 : Value) (ys : List Int) (w : World) (h : IntsIn44 w v ys) (h2 : IntsIn44 w v2 ys) (hl : ys.length ≤ 1048576) :
    Calls Tryd.prog 19 #[v, v2] w fun e w' => e = .returned (.bool true) ∧ Below w.heap.size w w' := by
  obtain ⟨g, rfl, hg, hc⟩ := h
  obtain ⟨g2, rfl, hg2, hc2⟩ := h2
  exact eqIntS_same ys g g2 w (by omega) hc hc2
theorem pfRes_form (n : Int) (S R : ByteArray) (L : List Int) (m : Int) (S2 R2 : ByteArray) (M : List Int) (K : Int) : ∃ X b, pfRes n S R L m S2 R2 M K = .tuple #[.string X, .bool b] := by
  unfold pfRes
  split
  · exact ⟨_, _, rfl⟩
  · exact ⟨_, _, rfl⟩
/-- Both lists, as far as they are made. -/
structure P44 (w : World) (ys zs : List Int) (o1 o2 : Option Value) (W : World) : Prop where
  b : Below w.heap.size w W
  v : ∀ v, o1 = some v → IntsAt W v ys
  u : ∀ v, o2 = some v → IntsAt W v zs
theorem P44.below {w W W' : World} {ys zs : List Int} {o1 o2 : Option Value} (h : P44 w ys zs o1 o2 W) (hb : Below W.heap.size W W') : P44 w ys zs o1 o2 W' :=
  ⟨h.b.trans (hb.mono h.b.size), fun v e => (h.v v e).below hb, fun v e => (h.u v e).below hb⟩
theorem P44.one {w W W' : World} {ys zs : List Int} {o1 o2 : Option Value} {v : Value} (h : P44 w ys zs o1 o2 W) (hb : Below W.heap.size W W') (hi : IntsAt W' v ys) : P44 w ys zs (some v) o2 W' :=
  ⟨(h.below hb).b, fun u e => by cases e; exact hi, (h.below hb).u⟩
theorem P44.two {w W W' : World} {ys zs : List Int} {o1 o2 : Option Value} {v : Value} (h : P44 w ys zs o1 o2 W) (hb : Below W.heap.size W W') (hi : IntsAt W' v zs) : P44 w ys zs o1 (some v) W' :=
  ⟨(h.below hb).b, (h.below hb).v, fun u e => by cases e; exact hi⟩
theorem two_boxes (w : World) (n : Int) (S R : ByteArray) (m : Int) (S2 R2 : ByteArray) : LBlk ((w.alloc (.cells #[.int .i64 n, .string S, .string R] 35)).alloc (.cells #[.int .i64 m, .string S2, .string R2] 35)) w.heap.size n S R ∧ LBlk ((w.alloc (.cells #[.int .i64 n, .string S, .string R] 35)).alloc (.cells #[.int .i64 m, .string S2, .string R2] 35)) (w.heap.size + 1) m S2 R2 ∧ Below w.heap.size w ((w.alloc (.cells #[.int .i64 n, .string S, .string R] 35)).alloc (.cells #[.int .i64 m, .string S2, .string R2] 35)) := by
  have h1 := LBlk.new w n S R
  have h2 := LBlk.new (w.alloc (.cells #[.int .i64 n, .string S, .string R] 35)) m S2 R2
  simp only [World.size_alloc] at h2
  refine ⟨h1.below (below_box _ m S2 R2) h1.cells.2.2.2, h2, ?_⟩
  exact ((Below.refl w.heap.size w).alloc (Nat.le_refl _) _).alloc (by simp) _
set_option maxHeartbeats 8000000 in
theorem fnExactPebbleFormula_walk (n : Int) (S R : ByteArray) (a1 : Option Addr) (len1 cap1 : Nat) (z1 : List Int) (m : Int) (S2 R2 : ByteArray) (a2 : Option Addr) (len2 cap2 : Nat) (z2 : List Int) (K : Int) (w : World)
    (_w0 : (Lit.int .i64 n).wf = true) (hS : S.size ≤ maxLen) (hR : R.size ≤ maxLen) (r1 : IsRow .i64 w a1 len1 cap1 z1) (_w2 : (Lit.int .i64 m).wf = true) (hS2 : S2.size ≤ maxLen) (hR2 : R2.size ≤ maxLen) (r2 : IsRow .i64 w a2 len2 cap2 z2) (_w4 : (Lit.int .i64 K).wf = true) :
    Calls Tryd.prog 4 #[.agg #[.int .i64 n, .string S, .string R], .slice a1 len1 cap1, .agg #[.int .i64 m, .string S2, .string R2], .slice a2 len2 cap2, .int .i64 K] w fun e w' => e = .returned (.bool true) ∧ Below w.heap.size w w' := by
  unfold maxLen at hS hR hS2 hR2
  have HB0 := Lib.hid (two_boxes w n S R m S2 R2)
  have hlen1 : len1 ≤ 9223372036854775807 := by
    rcases r1 with ⟨_, h, _⟩ | ⟨_, _, h1, h2, _⟩
    · rw [h]; decide
    · unfold maxLen at h2; omega
  have hlen2 : len2 ≤ 9223372036854775807 := by
    rcases r2 with ⟨_, h, _⟩ | ⟨_, _, h1, h2, _⟩
    · rw [h]; decide
    · unfold maxLen at h2; omega
  by_cases l1 : (len1 : Int) ≤ 1048576
  case neg =>
    have l1' : (1048576 : Int) < (len1 : Int) := by omega
    go_enter Tryd.func4, Tryd.ntmps4
    go_wp2_with fail
    go_ret
    exact ⟨rfl, HB0.out.2.2⟩
  by_cases l2 : (len2 : Int) ≤ 1048576
  case neg =>
    have l2' : (1048576 : Int) < (len2 : Int) := by omega
    go_enter Tryd.func4, Tryd.ntmps4
    go_wp2_with fail
    go_ret
    exact ⟨rfl, HB0.out.2.2⟩
  have HSA := Lib.hid (fun B w hB => szStructure_at n S R B w hB (by omega) (by omega))
  have HSB := Lib.hid (fun B w hB => szStructure_at m S2 R2 B w hB (by omega) (by omega))
  obtain ⟨s0, s1, s2, hl⟩ := HB0.out.1.cells
  obtain ⟨q0, q1, q2, hl2⟩ := HB0.out.2.1.cells
  by_cases y1 : (S.size : Int) + (R.size : Int) ≤ 1048576
  case neg =>
    have HSA1 := Lib.hid (fun w => HSA.out 1048576 w ⟨by omega, by omega⟩)
    rw [if_neg y1] at HSA1
    unfold strV at HSA1
    go_enter Tryd.func4, Tryd.ntmps4
    go_wp2_with fail
    refine (HSA1.out _).mono ?_; rintro _ w1 ⟨rfl, hb⟩
    have HB1 := Lib.hid (HB0.out.2.2.trans (hb.mono HB0.out.2.2.size))
    clear hb s0 s1 s2 hl q0 q1 q2 hl2
    go_wp2_with fail
    go_ret
    exact ⟨rfl, HB1.out⟩
  have HSA1 := Lib.hid (fun w => HSA.out 1048576 w ⟨by omega, by omega⟩)
  rw [if_pos y1] at HSA1
  obtain ⟨B, hBe⟩ : ∃ B : Int, 1048576 - ((S.size : Int) + (R.size : Int)) = B := ⟨_, rfl⟩
  have hB0 : 0 ≤ B ∧ B ≤ 1048576 := by omega
  rw [hBe] at HSA1
  have hBn : ¬ B < 0 := by omega
  have HSB1 := Lib.hid (fun w => HSB.out B w hB0)
  have HX : Hid (S2.size ≤ 9223372036854775807 ∧ R2.size ≤ 9223372036854775807 ∧ S.size ≤ 9223372036854775807 ∧ R.size ≤ 9223372036854775807) := ⟨by omega, by omega, by omega, by omega⟩
  clear hBe hB0 y1 hS hR hS2 hR2 HSA HSB
  by_cases y2 : (S2.size : Int) + (R2.size : Int) ≤ B
  case neg =>
    rw [if_neg y2] at HSB1
    unfold strV at HSA1 HSB1
    clear y2
    go_enter Tryd.func4, Tryd.ntmps4
    go_wp2_with fail
    refine (HSA1.out _).mono ?_; rintro _ w1 ⟨rfl, hb⟩
    have HB1 := Lib.hid (HB0.out.2.2.trans (hb.mono HB0.out.2.2.size))
    have HL1 := Lib.hid (HB0.out.2.1.below hb hl2)
    clear hb s0 s1 s2 hl q0 q1 q2 hl2
    obtain ⟨q0, q1, q2, hl2⟩ := HL1.out.cells
    go_wp2_with fail
    refine (HSB1.out _).mono ?_; rintro _ w2 ⟨rfl, hb⟩
    have HB2 := Lib.hid (HB1.out.trans (hb.mono HB1.out.size))
    clear hb q0 q1 q2 hl2
    go_wp2_with fail
    go_ret
    exact ⟨rfl, HB2.out⟩
  rw [if_pos y2] at HSB1
  obtain ⟨B2, hB2⟩ : ∃ B2 : Int, B - ((S2.size : Int) + (R2.size : Int)) = B2 := ⟨_, rfl⟩
  have hB2n : ¬ B2 < 0 := by omega
  rw [hB2] at HSB1
  clear hB2 y2
  have hy1 : (z1.take len1).length ≤ 1048576 := by rw [List.length_take]; omega
  have hy2 : (z2.take len2).length ≤ 1048576 := by rw [List.length_take]; omega
  have HI1 : Hid (∀ W, Below w.heap.size w W → Calls Tryd.prog 17 #[.slice a1 len1 cap1] W fun e w' => ∃ v, e = .returned v ∧ IntsOut W w' v (z1.take len1)) := fun W hb => toIntS_any W a1 len1 cap1 z1 (r1.below hb) l1
  have HI2 : Hid (∀ W, Below w.heap.size w W → Calls Tryd.prog 17 #[.slice a2 len2 cap2] W fun e w' => ∃ v, e = .returned v ∧ IntsOut W w' v (z2.take len2)) := fun W hb => toIntS_any W a2 len2 cap2 z2 (r2.below hb) l2
  have HY : Hid ((z1.take len1).length ≤ 1048576 ∧ (z2.take len2).length ≤ 1048576) := ⟨hy1, hy2⟩
  generalize z1.take len1 = ys at *
  generalize z2.take len2 = zs at *
  obtain ⟨X, b, hform⟩ := pfRes_form n S R ys m S2 R2 zs K
  have HPS : Hid (∀ v u W, IntsAt W v ys → IntsAt W u zs → _) := fun v u W h1 h2 => specPebbleFormula_any n m S R S2 R2 ys zs K v u W HX.out.2.2.1 HX.out.2.2.2 HX.out.1 HX.out.2.1 h1 h2
  have HPI : Hid (∀ v u W, IntsAt W v ys → IntsAt W u zs → _) := fun v u W h1 h2 => implPebbleFormula_any n m S R S2 R2 ys zs K v u W HX.out.2.2.1 HX.out.2.2.2 HX.out.1 HX.out.2.1 h1 h2
  rw [hform] at HPS HPI
  have HTA := Lib.hid (fun w => toStructure_any n S R w)
  have HTB := Lib.hid (fun w => toStructure_any m S2 R2 w)
  unfold strV at HSA1 HSB1 HPS HPI HTA HTB
  clear hform hy1 hy2 r1 r2
  go_enter Tryd.func4, Tryd.ntmps4
  go_wp2_with fail
  refine (HSA1.out _).mono ?_; rintro _ w1 ⟨rfl, hb⟩
  have HB1 : Hid (LBlk w1 w.heap.size n S R ∧ LBlk w1 (w.heap.size + 1) m S2 R2 ∧ Below w.heap.size w w1) := ⟨HB0.out.1.below hb hl, HB0.out.2.1.below hb hl2, HB0.out.2.2.trans (hb.mono HB0.out.2.2.size)⟩
  clear hb s0 s1 s2 hl q0 q1 q2 hl2 HB0
  obtain ⟨q0, q1, q2, hl2⟩ := HB1.out.2.1.cells
  go_wp2_with fail
  refine (HSB1.out _).mono ?_; rintro _ w2 ⟨rfl, hb⟩
  have HB2 : Hid (LBlk w2 w.heap.size n S R ∧ LBlk w2 (w.heap.size + 1) m S2 R2 ∧ Below w.heap.size w w2) := ⟨HB1.out.1.below hb HB1.out.1.cells.2.2.2, HB1.out.2.1.below hb hl2, HB1.out.2.2.trans (hb.mono HB1.out.2.2.size)⟩
  clear hb q0 q1 q2 hl2 HB1 HSA1 HSB1
  go_upto_region 12 with fail
  have KS : Hid (∀ W, Below w2.heap.size w2 W → (W.cell? ⟨w.heap.size, 0, none⟩ = some (.int .i64 n) ∧ W.cell? ⟨w.heap.size, 1, none⟩ = some (.string S) ∧ W.cell? ⟨w.heap.size, 2, none⟩ = some (.string R)) ∧ W.cell? ⟨w.heap.size + 1, 0, none⟩ = some (.int .i64 m) ∧ W.cell? ⟨w.heap.size + 1, 1, none⟩ = some (.string S2) ∧ W.cell? ⟨w.heap.size + 1, 2, none⟩ = some (.string R2)) := fun W hb => by
    obtain ⟨s0, s1, s2, _⟩ := (HB2.out.1.below hb HB2.out.1.cells.2.2.2).cells
    obtain ⟨q0, q1, q2, _⟩ := (HB2.out.2.1.below hb HB2.out.2.1.cells.2.2.2).cells
    exact ⟨⟨s0, s1, s2⟩, q0, q1, q2⟩
  have HP0 : Hid (P44 w2 ys zs none none w2.drew) := ⟨(Below.refl _ _).drew, fun v e => (by cases e), fun v e => (by cases e)⟩
  go_cut [12, 13] (fun x y wx => x = .string X ∧ y = .bool b ∧ Hid (Below w2.heap.size w2 wx))
  case first =>
    obtain ⟨⟨s0, s1, s2⟩, q0, q1, q2⟩ := KS.out w2 (Below.refl _ _)
    have HP := Lib.hid HP0.out
    clear HP0 HPI
    go_region_held3 (fun W => (W.cell? ⟨w.heap.size, 0, none⟩ = some (.int .i64 n) ∧ W.cell? ⟨w.heap.size, 1, none⟩ = some (.string S) ∧ W.cell? ⟨w.heap.size, 2, none⟩ = some (.string R)) ∧ W.cell? ⟨w.heap.size + 1, 0, none⟩ = some (.int .i64 m) ∧ W.cell? ⟨w.heap.size + 1, 1, none⟩ = some (.string S2) ∧ W.cell? ⟨w.heap.size + 1, 2, none⟩ = some (.string R2))
      (first | exact KS.out _ HP.out.b | exact KS.out _ (Below.refl _ _) | go_keep)
      (first
      | (go_at_call 15; refine (HPS.out _ _ _ (HP.out.v _ rfl) (HP.out.u _ rfl)).mono ?_; rintro _ wn ⟨rfl, hb⟩; replace HP := Lib.hid (HP.out.below hb); clear hb)
      | (go_at_call 17; with_reducible refine (HI1.out _ (HB2.out.2.2.trans (HP.out.b.mono HB2.out.2.2.size))).mono ?_; rintro _ wn ⟨v1, rfl, hi⟩; replace HP := Lib.hid (HP.out.one hi.old (hi.ints HY.out.1)); clear hi)
      | (go_at_call 17; with_reducible refine (HI2.out _ (HB2.out.2.2.trans (HP.out.b.mono HB2.out.2.2.size))).mono ?_; rintro _ wn ⟨v2, rfl, hi⟩; replace HP := Lib.hid (HP.out.two hi.old (hi.ints HY.out.2)); clear hi)
      | (go_at_call 16; with_reducible refine (HTA.out _).mono ?_; rintro _ wn ⟨rfl, hb⟩; replace HP := Lib.hid (HP.out.below hb); clear hb)
      | (go_at_call 16; with_reducible refine (HTB.out _).mono ?_; rintro _ wn ⟨rfl, hb⟩; replace HP := Lib.hid (HP.out.below hb); clear hb))
    all_goals
      go_wp2_with fail
      go_meet
      exact ⟨rfl, rfl, HP.out.b⟩
  case rest =>
    obtain ⟨rfl, rfl, HBC⟩ := hcut
    clear HP0 HPS
    have HBW := Lib.hid (HB2.out.2.2.trans (HBC.out.mono HB2.out.2.2.size))
    go_wp2_with fail
    refine (HI1.out _ HBW.out).mono ?_; rintro _ w3 ⟨v1, rfl, hi1⟩
    have HV1 : Hid (IntsIn44 w3 v1 ys ∧ Below w2.heap.size w2 w3) := ⟨hi1.toIn44, HBC.out.trans (hi1.old.mono HBC.out.size)⟩
    clear hi1 HBC HBW
    go_wp2_with fail
    refine (HI2.out _ (HB2.out.2.2.trans (HV1.out.2.mono HB2.out.2.2.size))).mono ?_; rintro _ w4 ⟨v2, rfl, hi2⟩
    have HV2 : Hid (IntsIn44 w4 v1 ys ∧ IntsIn44 w4 v2 zs ∧ Below w2.heap.size w2 w4) := ⟨HV1.out.1.below hi2.old, hi2.toIn44, HV1.out.2.trans (hi2.old.mono HV1.out.2.size)⟩
    clear hi2 HV1
    obtain ⟨⟨s0, s1, s2⟩, q0, q1, q2⟩ := KS.out w4 HV2.out.2.2
    have J1 : Hid (∀ z : Since w4, _) := fun z => HTA.out z.w
    have J2 : Hid (∀ z : Since w4, _) := fun z => HTB.out z.w
    have J3 : Hid (∀ z : Since w4, _) := fun z => HPI.out v1 v2 z.w ((HV2.out.1.below z.below).ints HY.out.1) ((HV2.out.2.1.below z.below).ints HY.out.2)
    have p0 := fun s => Since.cell s0 s
    have p1 := fun s => Since.cell s1 s
    have p2 := fun s => Since.cell s2 s
    have p3 := fun s => Since.cell q0 s
    have p4 := fun s => Since.cell q1 s
    have p5 := fun s => Since.cell q2 s
    go_upto_region 15 with fail
    refine wp_region_since (by kernel_rfl) (by kernel_rfl) ?_
    repeat (go_big_quiet_step (first | (with_reducible exact Since.call (J1.out _)) | (with_reducible exact Since.call (J2.out _)) | (with_reducible exact Since.call (J3.out _))))
    refine wpQuiet_nil ?_
    intro w5 hb5
    have HV5 : Hid (IntsIn44 w5 v1 ys ∧ IntsIn44 w5 v2 zs ∧ Below w2.heap.size w2 w5) := ⟨HV2.out.1.below hb5, HV2.out.2.1.below hb5, HV2.out.2.2.trans (hb5.mono HV2.out.2.2.size)⟩
    clear hb5 HV2 p0 p1 p2 p3 p4 p5 s0 s1 s2 q0 q1 q2 J1 J2 J3 KS HTA HTB HPI
    cases b
    all_goals
      go_wp2_with fail
      refine (HI1.out _ (HB2.out.2.2.trans (HV5.out.2.2.mono HB2.out.2.2.size))).mono ?_; rintro _ w6 ⟨v6, rfl, hi6⟩
      have HV6 : Hid (IntsIn44 w6 v1 ys ∧ IntsIn44 w6 v2 zs ∧ Below w2.heap.size w2 w6 ∧ IntsIn44 w6 v6 ys) := ⟨HV5.out.1.below hi6.old, HV5.out.2.1.below hi6.old, HV5.out.2.2.trans (hi6.old.mono HV5.out.2.2.size), hi6.toIn44⟩
      clear hi6 HV5
      go_wp2_with fail
      refine (eqInts_in44 v1 v6 ys w6 HV6.out.1 HV6.out.2.2.2 HY.out.1).mono ?_; rintro _ w7 ⟨rfl, hb⟩
      have HV7 : Hid (IntsIn44 w7 v2 zs ∧ Below w2.heap.size w2 w7) := ⟨HV6.out.2.1.below hb, HV6.out.2.2.1.trans (hb.mono HV6.out.2.2.1.size)⟩
      clear hb HV6
      go_wp2_with fail
      refine (HI2.out _ (HB2.out.2.2.trans (HV7.out.2.mono HB2.out.2.2.size))).mono ?_; rintro _ w8 ⟨v8, rfl, hi8⟩
      have HV8 : Hid (IntsIn44 w8 v2 zs ∧ Below w2.heap.size w2 w8 ∧ IntsIn44 w8 v8 zs) := ⟨HV7.out.1.below hi8.old, HV7.out.2.trans (hi8.old.mono HV7.out.2.size), hi8.toIn44⟩
      clear hi8 HV7
      go_wp2_with fail
      refine (eqInts_in44 v2 v8 zs w8 HV8.out.1 HV8.out.2.2 HY.out.2).mono ?_; rintro _ w9 ⟨rfl, hb⟩
      have HV9 := Lib.hid (HB2.out.2.2.trans ((HV8.out.2.1.trans (hb.mono HV8.out.2.1.size)).mono HB2.out.2.2.size))
      clear hb HV8
      go_wp2_with fail
      go_ret
      exact ⟨rfl, HV9.out⟩
end Go.Proofs.YtnhlhjehocngcaaDoor

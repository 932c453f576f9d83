/- Contracts of the program's functions and what they compute: part 22. Conditions: those that each theorem states. -/
import Derived.Test.YtnhlhjehocngcaaGreatDoorP50n21
namespace Go.Proofs.YtnhlhjehocngcaaGreatDoor
open Go.RowKit
set_option linter.unusedVariables false
set_option maxRecDepth 100000
/-- What a round of l7Levels keeps. -/
structure RdL (w : World) (n : Nat) (S R : ByteArray) (m : Nat) (S2 R2 : ByteArray) (va vb : Value) (xs ys : List Value) (cs ds : List (List Nat)) (tb gL gC : Nat) (F : Nat → Prop) (vs : Array Value) (D : List (List UInt8)) (wr : World) : Prop where
  l : Lv w n S R m S2 R2 va vb xs ys cs ds wr
  q : Tq (w.heap.size + 2) wr tb gL gC F vs D
  ap : ∀ b, (va.ownBlock = some b ∨ vb.ownBlock = some b ∨ ∃ x ∈ xs ++ ys, x.ownBlock = some b) → ¬ F b ∧ b ≠ tb
section
variable {w wr w' : World} {n m tb gL gC : Nat} {S R S2 R2 : ByteArray} {va vb : Value} {xs ys : List Value} {cs ds : List (List Nat)} {F : Nat → Prop} {vs : Array Value} {D : List (List UInt8)}
theorem Lv.blk (h : Lv w n S R m S2 R2 va vb xs ys cs ds wr) : ∀ b, (va.ownBlock = some b ∨ vb.ownBlock = some b ∨ ∃ x ∈ xs ++ ys, x.ownBlock = some b) → b < wr.heap.size := by
  intro b hb
  have hh : ∀ (v : Value) (k : Nat), (∃ g, v.ownBlock = some g ∧ k ≤ g ∧ g < wr.heap.size) → v.ownBlock = some b → b < wr.heap.size := fun v k ⟨g, h1, _, h2⟩ e => by rw [h1] at e; injection e with e; omega
  rcases hb with hb | hb | ⟨x, hx, hb⟩
  · exact hh va _ h.ra.home hb
  · exact hh vb _ h.rb.home hb
  · rcases List.mem_append.1 hx with hx | hx
    · obtain ⟨g, h1, h2⟩ := h.ra.has x hx
      rw [h1] at hb; injection hb with hb; omega
    · obtain ⟨g, h1, h2⟩ := h.rb.has x hx
      rw [h1] at hb; injection hb with hb; omega
theorem RdL.below (h : RdL w n S R m S2 R2 va vb xs ys cs ds tb gL gC F vs D wr) (hb : Below wr.heap.size wr w') : RdL w n S R m S2 R2 va vb xs ys cs ds tb gL gC F vs D w' := ⟨h.l.below hb, h.q.below hb, h.ap⟩
theorem RdL.step {N : Nat} {str : Nat → List UInt8} {e : Ending} (h : RdL w n S R m S2 R2 va vb xs ys cs ds tb gL gC F vs D wr) (hl : LvP gL gC F D N str wr e w') :
    ∃ (x : Value) (c : List Nat) (F' : Nat → Prop) (vs' : Array Value) (E : List (List UInt8)), e = .returned x ∧ Own 0 w' x c ∧ LevN (D ++ E) N str c ∧ E.length ≤ N ∧ (∀ b, x.ownBlock = some b → ¬ F' b ∧ b ≠ tb) ∧ x.ownBlock ≠ va.ownBlock ∧ x.ownBlock ≠ vb.ownBlock ∧ RdL w n S R m S2 R2 va vb xs ys cs ds tb gL gC F' vs' (D ++ E) w' := by
  have hw := h.l.sb.cells.2.2.2.2.2.2
  obtain ⟨x, c, F', vs', E, rfl, h1, h2, h3, h4, h5, h6, h7⟩ := h.q.step (by omega) hl
  obtain ⟨bx, x1, x2, x3⟩ := h1.block
  have hlt := h.q.lt
  have hold : ∀ b, (va.ownBlock = some b ∨ vb.ownBlock = some b ∨ ∃ x ∈ xs ++ ys, x.ownBlock = some b) → b ≠ bx := fun b hb => by
    have := h.l.blk b hb
    omega
  refine ⟨x, c, F', vs', E, rfl, h1.mono (Nat.zero_le _), h2, h3, fun b hb => ⟨h4 b hb, ?_⟩, fun e => ?_, fun e => ?_, h.l.off h7 h.q.lo (fun b hb => (h.ap b hb).1), h6, fun b hb => ⟨fun hf => ?_, (h.ap b hb).2⟩⟩
  · rw [x1] at hb; injection hb with hb; omega
  · exact hold bx (.inl (by rw [← e, x1])) rfl
  · exact hold bx (.inr (.inl (by rw [← e, x1]))) rfl
  · rcases h5 b hf with q | q
    · exact (h.ap b hb).1 q
    · have := h.l.blk b hb
      omega
theorem RdL.pushA {x : Value} {c : List Nat} {g cap : Nat} (h : RdL w n S R m S2 R2 va vb xs ys cs ds tb gL gC F vs D wr) (hx : Own 0 wr x c) (hf : ∀ b, x.ownBlock = some b → ¬ F b ∧ b ≠ tb) (hxn : x.ownBlock ≠ va.ownBlock) (hxm : x.ownBlock ≠ vb.ownBlock) (ho : OwnW (w.heap.size + 2) w' (.slice (some ⟨g, 0, none⟩) (xs.length + 1) cap) (xs ++ [x])) (hg : wr.grownBy w' va.ownBlock) (ha : va.ownBlock = some g ∨ wr.heap.size ≤ g) :
    RdL w n S R m S2 R2 (.slice (some ⟨g, 0, none⟩) (xs.length + 1) cap) vb (xs ++ [x]) ys (cs ++ [c]) ds tb gL gC F vs D w' := by
  obtain ⟨ba, a1, _, _⟩ := h.l.ra.home
  have hgk : ¬ F g ∧ g ≠ tb := by
    rcases ha with e | e
    · exact h.ap g (.inl e)
    · have := h.q.lt
      exact ⟨fun hf => by have := h.q.t.lt g hf; omega, by omega⟩
  refine ⟨h.l.pushA hx hxn hxm ho hg ha, by rw [a1] at hg; exact h.q.grown hg (h.ap ba (.inl a1)).1 (h.ap ba (.inl a1)).2, fun b hb => ?_⟩
  rcases hb with hb | hb | ⟨y, hy, hb⟩
  · have : g = b := by simpa [Value.ownBlock] using hb
    rw [← this]; exact hgk
  · exact h.ap b (.inr (.inl hb))
  · rcases List.mem_append.1 hy with hy | hy
    · rcases List.mem_append.1 hy with hy | hy
      · exact h.ap b (.inr (.inr ⟨y, List.mem_append.2 (.inl hy), hb⟩))
      · rw [List.mem_singleton.1 hy] at hb
        exact hf b hb
    · exact h.ap b (.inr (.inr ⟨y, List.mem_append.2 (.inr hy), hb⟩))
theorem RdL.pushB {x : Value} {c : List Nat} {g cap : Nat} (h : RdL w n S R m S2 R2 va vb xs ys cs ds tb gL gC F vs D wr) (hx : Own 0 wr x c) (hf : ∀ b, x.ownBlock = some b → ¬ F b ∧ b ≠ tb) (hxn : x.ownBlock ≠ va.ownBlock) (hxm : x.ownBlock ≠ vb.ownBlock) (ho : OwnW (w.heap.size + 2) w' (.slice (some ⟨g, 0, none⟩) (ys.length + 1) cap) (ys ++ [x])) (hg : wr.grownBy w' vb.ownBlock) (ha : vb.ownBlock = some g ∨ wr.heap.size ≤ g) :
    Lv w n S R m S2 R2 va (.slice (some ⟨g, 0, none⟩) (ys.length + 1) cap) xs (ys ++ [x]) cs (ds ++ [c]) w' := h.l.pushB hx hxn hxm ho hg ha
theorem RdL.new {gL gC : Nat} {B w1 : World} (h : Lv w n S R m S2 R2 va vb xs ys cs ds B) (ht : Tbl w1 gL gC F vs []) (hb : Below B.heap.size B w1) (hF : ∀ b, F b → B.heap.size ≤ b)
    (hw : Below w1.heap.size w1 w') (hbx : w'.heap[w1.heap.size]? = some (.cells #[.slice (some ⟨gL, 0, none⟩) 997 997, .slice (some ⟨gC, 0, none⟩) 1 1] 110 (0, 0))) : RdL w n S R m S2 R2 va vb xs ys cs ds w1.heap.size gL gC F vs [] w' := by
  have h1 := h.sb.cells.2.2.2.2.2.2
  have h2 := hb.size
  refine ⟨h.below (hb.trans (hw.mono h2)), ⟨ht.below hw, hbx, fun hf => by have := ht.lt _ hf; omega, fun b hf => by have := hF b hf; omega, by omega⟩, fun b hb' => ?_⟩
  have h3 := h.blk b hb'
  exact ⟨fun hf => by have := hF b hf; omega, by omega⟩
end
/-- What is known of the levels. -/
structure Lf (a b : Gs.St) (n m k t : Nat) (cs ds : List (List Nat)) : Prop where
  lc : cs.length = t + 1
  ld : ds.length = t + 1
  at' : ∀ i, i ≤ t → (cs.getD i []).length = (n + 1) ^ k ∧ (ds.getD i []).length = (m + 1) ^ k ∧ (∀ x ∈ cs.getD i [], x ≤ 1000000) ∧ (∀ x ∈ ds.getD i [], x ≤ 1000000) ∧ EqT a b n m k i (cs.getD i []) (ds.getD i [])
theorem LevN.le {D : List (List UInt8)} {N : Nat} {str : Nat → List UInt8} {c : List Nat} (h : LevN D N str c) (hD : D.length ≤ 100000) : ∀ x ∈ c, x ≤ 1000000 := fun x hx => by
  obtain ⟨i, hi, e⟩ := List.mem_iff_getElem.1 hx
  have h1 := h.2 i (by rw [← h.1]; exact hi)
  rw [show c.getD i 0 = x by rw [List.getD_eq_getElem?_getD, List.getElem?_eq_getElem hi, e]; rfl] at h1
  have := (List.getElem?_eq_some_iff.1 h1).1
  omega
theorem getD_snoc {α : Type} (L : List α) (x d : α) (i : Nat) : (L ++ [x]).getD i d = if i < L.length then L.getD i d else if i = L.length then x else d := by
  rw [List.getD_eq_getElem?_getD]
  split
  · rw [List.getElem?_append_left (by assumption), List.getD_eq_getElem?_getD]
  · split
    · subst_vars; simp
    · rw [List.getElem?_eq_none (by rw [List.length_append, List.length_singleton]; omega)]; rfl
theorem Lf.first {a b : Gs.St} {n m k : Nat} {D E : List (List UInt8)} {c d : List Nat} (hD : (D ++ E).Nodup) (hl : (D ++ E).length ≤ 100000) (h1 : LevN D ((n + 1) ^ k) (fun i => pebAt a (atL (n + 1) k i)) c) (h2 : LevN (D ++ E) ((m + 1) ^ k) (fun i => pebAt b (atL (m + 1) k i)) d) : Lf a b n m k 0 [c] [d] := by
  refine ⟨rfl, rfl, fun i hi => ?_⟩
  obtain rfl : i = 0 := by omega
  exact ⟨h1.1, h2.1, h1.more.le hl, h2.le hl, eqT_start hD h1.more h2⟩
theorem Lf.push {a b : Gs.St} {n m k t : Nat} {cs ds : List (List Nat)} {D E : List (List UInt8)} {c d : List Nat} (h : Lf a b n m k t cs ds) (hD : (D ++ E).Nodup) (hl : (D ++ E).length ≤ 100000) (h1 : LevN D ((n + 1) ^ k) (rndS n k (cs.getD t [])) c) (h2 : LevN (D ++ E) ((m + 1) ^ k) (rndS m k (ds.getD t [])) d) : Lf a b n m k (t + 1) (cs ++ [c]) (ds ++ [d]) := by
  refine ⟨by simp [h.lc], by simp [h.ld], fun i hi => ?_⟩
  rw [getD_snoc, getD_snoc, h.lc, h.ld]
  by_cases hlt : i < t + 1
  · rw [if_pos hlt, if_pos hlt]
    exact h.at' i (by omega)
  · obtain rfl : i = t + 1 := by omega
    rw [if_neg hlt, if_pos rfl, if_neg hlt, if_pos rfl]
    exact ⟨h1.1, h2.1, h1.more.le hl, h2.le hl, eqT_step hD (h.at' t (Nat.le_refl _)).2.2.2.2 h1.more h2⟩
/-- What l7Levels returns. -/
def LevAt (w : World) (v : Value) (cs : List (List Nat)) : Prop := ∃ g cap, v = .slice (some ⟨g, 0, none⟩) cs.length cap ∧ cs.length ≤ cap ∧ cap ≤ maxLen ∧ g < w.heap.size ∧ ∀ i, i < cs.length → ∃ x, w.cell? ⟨g, i, none⟩ = some x ∧ NumsAt w x (cs.getD i [])
theorem LevAt.below {w w' : World} {v : Value} {cs : List (List Nat)} (h : LevAt w v cs) (hb : Below w.heap.size w w') : LevAt w' v cs := by
  obtain ⟨g, cap, rfl, h1, h2, h3, h4⟩ := h
  refine ⟨g, cap, rfl, h1, h2, Nat.lt_of_lt_of_le h3 hb.size, fun i hi => ?_⟩
  obtain ⟨x, q1, q2⟩ := h4 i hi
  exact ⟨x, (hb.cell (p := ⟨g, i, none⟩) h3).trans q1, q2.below hb⟩
theorem Row.lev {B : Nat} {wr : World} {v : Value} {xs : List Value} {cs : List (List Nat)} (h : Row B wr v xs cs) : LevAt wr v cs := by
  obtain ⟨g, cap, rfl, h1, h2, h3, h4, h5⟩ := h.own.cells h.pos
  rw [h.len] at h3 h5
  refine ⟨g, cap, by rw [h.len], h3, h4, h2, fun i hi => ?_⟩
  obtain ⟨x, q1, q2⟩ := h.at' i hi
  exact ⟨x, (h5 i hi).trans q1, q2.nums⟩
def LevQ (a b : Gs.St) (n m k t : Nat) (w : World) (e : Ending) (w' : World) : Prop :=
  ∃ va vb cs ds, e = .returned (.tuple #[va, vb]) ∧ LevAt w' va cs ∧ LevAt w' vb ds ∧ Lf a b n m k t cs ds ∧ Below w.heap.size w w'
/-- The beginning of l7Levels. -/
structure R0 (w : World) (n : Nat) (S R : ByteArray) (m : Nat) (S2 R2 : ByteArray) (tb gL gC : Nat) (F : Nat → Prop) (vs : Array Value) (D : List (List UInt8)) (wr : World) : Prop where
  x : Bxp w wr n S R m S2 R2
  q : Tq (w.heap.size + 2) wr tb gL gC F vs D
section
variable {w wr w' : World} {n m tb gL gC : Nat} {S R S2 R2 : ByteArray} {F : Nat → Prop} {vs : Array Value} {D : List (List UInt8)}
theorem R0.below (h : R0 w n S R m S2 R2 tb gL gC F vs D wr) (hb : Below wr.heap.size wr w') : R0 w n S R m S2 R2 tb gL gC F vs D w' := ⟨h.x.below hb, h.q.below hb⟩
theorem R0.new {gL gC : Nat} {B w1 : World} (h : Bxp w B n S R m S2 R2) (ht : Tbl w1 gL gC F vs []) (hb : Below B.heap.size B w1) (hF : ∀ b, F b → B.heap.size ≤ b)
    (hw : Below w1.heap.size w1 w') (hbx : w'.heap[w1.heap.size]? = some (.cells #[.slice (some ⟨gL, 0, none⟩) 997 997, .slice (some ⟨gC, 0, none⟩) 1 1] 110 (0, 0))) : R0 w n S R m S2 R2 w1.heap.size gL gC F vs [] w' := by
  have h1 := h.b.cells.2.2.2.2.2.2
  have h2 := hb.size
  exact ⟨h.below (hb.trans (hw.mono h2)), ⟨ht.below hw, hbx, fun hf => by have := ht.lt _ hf; omega, fun b hf => by have := hF b hf; omega, by omega⟩⟩
theorem R0.step {N : Nat} {str : Nat → List UInt8} {e : Ending} (h : R0 w n S R m S2 R2 tb gL gC F vs D wr) (hl : LvP gL gC F D N str wr e w') :
    ∃ (x : Value) (c : List Nat) (F' : Nat → Prop) (vs' : Array Value) (E : List (List UInt8)), e = .returned x ∧ Own wr.heap.size w' x c ∧ LevN (D ++ E) N str c ∧ E.length ≤ N ∧ (∀ b, x.ownBlock = some b → ¬ F' b) ∧ Off F wr w' ∧ R0 w n S R m S2 R2 tb gL gC F' vs' (D ++ E) w' := by
  have h1 := h.x.b.cells.2.2.2.2.2.2
  obtain ⟨x, c, F', vs', E, rfl, q1, q2, q3, q4, q5, q6, q7⟩ := h.q.step (by omega) hl
  have hno : ∀ b, b < w.heap.size + 2 → ¬ F b := fun b hb hf => by have := h.q.lo b hf; omega
  exact ⟨x, c, F', vs', E, rfl, q1, q2, q3, q4, q7, ⟨(q7.block _ (by omega) (hno _ (by omega))).trans h.x.a, (q7.block _ h1 (hno _ (by omega))).trans h.x.b, h.x.old.trans (q7.below (by omega) (fun b hb => by have := h.q.lo b hb; omega))⟩, q6⟩
theorem R0.cells (h : R0 w n S R m S2 R2 tb gL gC F vs D wr) : wr.cell? ⟨w.heap.size, 0, none⟩ = some (.int .i64 (n : Int)) ∧ wr.cell? ⟨w.heap.size, 1, none⟩ = some (.string S) ∧ wr.cell? ⟨w.heap.size, 2, none⟩ = some (.string R) ∧ wr.cell? ⟨w.heap.size + 1, 0, none⟩ = some (.int .i64 (m : Int)) ∧ wr.cell? ⟨w.heap.size + 1, 1, none⟩ = some (.string S2) ∧ wr.cell? ⟨w.heap.size + 1, 2, none⟩ = some (.string R2) ∧ wr.cell? ⟨tb, 0, none⟩ = some (.slice (some ⟨gL, 0, none⟩) 997 997) ∧ wr.cell? ⟨tb, 1, none⟩ = some (.slice (some ⟨gC, 0, none⟩) 1 1) := by
  obtain ⟨c0, c1, c2, _⟩ := h.x.a.cells
  obtain ⟨d0, d1, d2, _⟩ := h.x.b.cells
  exact ⟨c0, c1, c2, d0, d1, d2, h.q.cells.1, h.q.cells.2⟩
end
/-- Both first levels lie in rows of their own. -/
theorem Lv.first {w w3 w5 : World} {n m tb gL gC : Nat} {S R S2 R2 : ByteArray} {F1 F2 : Nat → Prop} {vs1 vs2 : Array Value} {D1 D2 : List (List UInt8)} {x1 x2 : Value} {c1 c2 : List Nat} {B3 : Nat}
    (h3 : R0 w n S R m S2 R2 tb gL gC F1 vs1 D1 w3) (o1 : Own B3 w3 x1 c1) (hB3 : w.heap.size + 2 ≤ B3) (f1 : ∀ b, x1.ownBlock = some b → ¬ F1 b) (off : Off F1 (w3.alloc (.cells #[x1] 25)) w5)
    (h5 : R0 w n S R m S2 R2 tb gL gC F2 vs2 D2 w5) (o2 : Own (w3.heap.size + 1) w5 x2 c2) :
    Lv w n S R m S2 R2 (.slice (some ⟨w3.heap.size, 0, none⟩) 1 1) (.slice (some ⟨w5.heap.size, 0, none⟩) 1 1) [x1] [x2] [c1] [c2] (w5.alloc (.cells #[x2] 25)) := by
  have hsz := h3.x.b.cells.2.2.2.2.2.2
  have hs := off.size
  simp at hs
  have ha : OwnW (w.heap.size + 2) (w3.alloc (.cells #[x1] 25)) (.slice (some ⟨w3.heap.size, 0, none⟩) 1 1) [x1] := OwnW.one x1 (by omega)
  have ha5 := ha.kept (w' := w5) (fun b hb hl => off.block b hl (fun hf => by
    have e : w3.heap.size = b := by simpa [Value.ownBlock] using hb
    have := h3.q.t.lt b hf
    omega)) off.size
  have hb5 : OwnW (w.heap.size + 2) (w5.alloc (.cells #[x2] 25)) (.slice (some ⟨w5.heap.size, 0, none⟩) 1 1) [x2] := OwnW.one x2 (by omega)
  have hal : Below w5.heap.size w5 (w5.alloc (.cells #[x2] 25)) := (Below.refl _ _).alloc (Nat.le_refl _) _
  obtain ⟨b1, p1, p2, p3⟩ := o1.block
  obtain ⟨b2, r1, r2, r3⟩ := o2.block
  have o15 : Own 0 w5 x1 c1 := ((o1.mono (Nat.zero_le _)).alloc _).off off f1
  have h6 := h5.below hal
  refine ⟨h6.x.a, h6.x.b, ⟨ha5.below hal, rfl, by simp, fun i hi => ?_⟩, ⟨hb5, rfl, by simp, fun i hi => ?_⟩, ?_, ?_, h6.x.old⟩
  · obtain rfl : i = 0 := by simpa using hi
    exact ⟨x1, rfl, o15.below hal⟩
  · obtain rfl : i = 0 := by simpa using hi
    exact ⟨x2, rfl, (o2.mono (Nat.zero_le _)).below hal⟩
  · simp [Value.ownBlock]; omega
  · intro x hx
    simp at hx
    rcases hx with rfl | rfl
    · rw [p1]; simp [Value.ownBlock]; omega
    · rw [r1]; simp [Value.ownBlock]; omega
end Go.Proofs.YtnhlhjehocngcaaGreatDoor

namespace Go.Proofs.YtnhlhjehocngcaaGreatDoor
open Go.RowKit
set_option linter.unusedVariables false
set_option maxRecDepth 100000
theorem Row.look {B g len cap i : Nat} {wr : World} {xs : List Value} {cs : List (List Nat)} (h : Row B wr (.slice (some ⟨g, 0, none⟩) len cap) xs cs) (hi : i < cs.length) : ∃ x, wr.cell? ⟨g, i, none⟩ = some x ∧ Own 0 wr x (cs.getD i []) ∧ x ∈ xs := by
  obtain ⟨g2, c2, e, h1, h2, h3, h4, h5⟩ := h.own.cells h.pos
  injection e with e1
  injection e1 with e1
  injection e1 with e1
  subst e1
  obtain ⟨x, q1, q2⟩ := h.at' i hi
  exact ⟨x, (h5 i (by rw [h.len]; exact hi)).trans q1, q2, List.mem_of_getElem? q1⟩
theorem RdL.cells {w wr : World} {n m tb gL gC : Nat} {S R S2 R2 : ByteArray} {va vb : Value} {xs ys : List Value} {cs ds : List (List Nat)} {F : Nat → Prop} {vs : Array Value} {D : List (List UInt8)} (h : RdL w n S R m S2 R2 va vb xs ys cs ds tb gL gC F vs D wr) : wr.cell? ⟨w.heap.size, 0, none⟩ = some (.int .i64 (n : Int)) ∧ wr.cell? ⟨w.heap.size, 1, none⟩ = some (.string S) ∧ wr.cell? ⟨w.heap.size, 2, none⟩ = some (.string R) ∧ wr.cell? ⟨w.heap.size + 1, 0, none⟩ = some (.int .i64 (m : Int)) ∧ wr.cell? ⟨w.heap.size + 1, 1, none⟩ = some (.string S2) ∧ wr.cell? ⟨w.heap.size + 1, 2, none⟩ = some (.string R2) ∧ wr.cell? ⟨tb, 0, none⟩ = some (.slice (some ⟨gL, 0, none⟩) 997 997) ∧ wr.cell? ⟨tb, 1, none⟩ = some (.slice (some ⟨gC, 0, none⟩) 1 1) := by
  obtain ⟨c0, c1, c2, _⟩ := h.l.sa.cells
  obtain ⟨d0, d1, d2, _⟩ := h.l.sb.cells
  exact ⟨c0, c1, c2, d0, d1, d2, h.q.cells.1, h.q.cells.2⟩
theorem step_ownW {ops : Array Oper} {o : Oper} {a : Act} {K : Act → World → Prop} {Q : Exit → Act → World → Prop} {E : Prop} {B : Nat} {w : World} {v : Value} {xs : List Value}
    (hown : OwnW B w v xs) (hL : Hid (xs.length ≤ 1000)) (hgd : o.guard = none) (s x : Operand)
    (ho : o.op = .call { callee := .builtin .append, args := #[s, x], argTypes := #[65, 65] }) (y : Value) (hy : y.oneCell' = true) (b : Nat) (hb : w.heap.size = b)
    (hs : a.eval s = v) (hx : a.eval x = .slice (some ⟨b, 0, none⟩) 1 1)
    (h : ∀ g cap w', OwnW B w' (.slice (some ⟨g, 0, none⟩) (xs.length + 1) cap) (xs ++ [y]) → w.grownBy w' v.ownBlock → (v.ownBlock = some g ∨ w.heap.size ≤ g) → g < w'.heap.size → K (a.put o.dst (.slice (some ⟨g, 0, none⟩) (xs.length + 1) cap)) w') :
    if Region.wanted o (yielded ops a.tmps) = true then Oper.wp Tryz.prog o a (w.alloc (.cells #[y] 25)) K Q else E := by
  have hL := hL.out
  subst hb
  obtain ⟨i, hi, hz, h1, h2⟩ := info_parts intsInfo
  have hbase : B ≤ w.heap.size := hown.low
  refine step_append_lies _ hgd s x 65 ho B 25 i (.slice none 0 0) 1 24 Tryz.underlying65 hi hz h1 h2 rfl (by decide) v xs.length xs hs (hown.own.alloc _) ⟨w.heap.size, 0, none⟩ 1 1 [y] hx rfl ?_ ?_ (by decide) ?_ ?_ ?_ _ rfl ?_
  · intro j u hj
    match j, hj with
    | 0, hj => simp at hj; subst hj; simp [Addr.add]
  · intro u hu
    simp at hu; subst hu; exact hy
  · unfold maxLen; omega
  · omega
  · simp; omega
  · intro g cap w' h2 h3 h4 h5
    refine h g cap w' ⟨?_, ?_⟩ ?_ ?_ h5
    · simpa using h2
    · have := h3.size
      simp at this
      omega
    · refine ⟨h3.os, h3.tape, h3.output, ?_, fun k hk hne => ?_⟩
      · have := h3.size
        simp at this
        omega
      · rw [h3.block k (by simp; omega) hne]
        exact Below.heap_alloc _ _ _ hk
    · rcases h4 with h | h
      · exact .inl h
      · exact .inr (by rw [h]; simp)
set_option maxHeartbeats 4000000 in
theorem l7Levels_any (n m k t : Nat) (S R S2 R2 : ByteArray) (w : World) (hS : S.size = n) (hR : R.size = n * n) (hS2 : S2.size = m) (hR2 : R2.size = m * m) (hn : n ≤ 8) (hm : m ≤ 8) (hk : k ≤ 3) (ht : t ≤ 3) :
    Calls Tryz.prog 33 #[strV n S R, strV m S2 R2, .int .i64 (k : Int), .int .i64 (t : Int)] w (LevQ (stOf n S R) (stOf m S2 R2) n m k t w) := by
  have HT := Lib.hid (Bxp.new w n S R m S2 R2)
  have hsz : (boxS (boxS w n S R) m S2 R2).heap.size = w.heap.size + 2 := by rw [boxS_size, boxS_size]
  obtain ⟨W, hW⟩ : ∃ W, boxS (boxS w n S R) m S2 R2 = W := ⟨_, rfl⟩
  rw [hW] at HT hsz
  unfold boxS at hW
  have HW := Lib.hid hW
  have HSZ := Lib.hid hsz
  clear hW hsz
  have HNEW := Lib.hid (fun w => l5New_any w)
  have HSA := Lib.hid (fun gL gC F vs D W (hT : Tbl W gL gC F vs D) (hD : D.length ≤ 100000) => l7Start_any gL gC n k F vs D S R W hT hD hS hR hn hk)
  have HSB := Lib.hid (fun gL gC F vs D W (hT : Tbl W gL gC F vs D) (hD : D.length ≤ 100000) => l7Start_any gL gC m k F vs D S2 R2 W hT hD hS2 hR2 hm hk)
  have HPN := Lib.hid (pw_le hn hk)
  have HPM := Lib.hid (pw_le hm hk)
  have HK := Lib.hid (And.intro hn (And.intro hm hk))
  have HRA := Lib.hid (fun gL gC F vs D v C W (hT : Tbl W gL gC F vs D) (hD : D.length ≤ 100000) (hv : Own 0 W v C) (hvF : ∀ b, v.ownBlock = some b → ¬ F b) (hC : C.length = (n + 1) ^ k) (hCb : ∀ x ∈ C, x ≤ 1000000) => l7Round_any gL gC n k 0 F vs D S R v C W hT hD hn hk hv hvF hC hCb)
  have HRB := Lib.hid (fun gL gC F vs D v C W (hT : Tbl W gL gC F vs D) (hD : D.length ≤ 100000) (hv : Own 0 W v C) (hvF : ∀ b, v.ownBlock = some b → ¬ F b) (hC : C.length = (m + 1) ^ k) (hCb : ∀ x ∈ C, x ≤ 1000000) => l7Round_any gL gC m k 0 F vs D S2 R2 v C W hT hD hm hk hv hvF hC hCb)
  unfold strV tblV at HSA HSB HRA HRB
  clear hS hR hS2 hR2 hn hm hk
  unfold strV
  go_enter Tryz.func33, Tryz.ntmps33
  go_upto_region 1 with fail
  rw [HW.out]
  go_wp2_with fail
  refine (HNEW.out _).mono ?_; rintro e w1 ⟨gL, gC, F, vs, rfl, hT, hb, hF⟩
  have HN1 := Lib.hid (And.intro hT (And.intro hb hF))
  clear hT hb hF
  unfold tblV
  go_upto_region 2 with fail
  obtain ⟨w2, hw2⟩ : ∃ w2, w1.alloc (.cells #[.slice (some ⟨gL, 0, none⟩) 997 997, .slice (some ⟨gC, 0, none⟩) 1 1] 110) = w2 := ⟨_, rfl⟩
  have HR2 : Hid (R0 w n S R m S2 R2 w1.heap.size gL gC F vs [] w2) := by
    rw [← hw2]
    exact R0.new HT.out HN1.out.1 HN1.out.2.1 HN1.out.2.2 ((Below.refl _ _).alloc (Nat.le_refl _) _) (heap_alloc_new w1 _)
  rw [hw2]
  clear hw2 HN1 HW HSZ HT
  obtain ⟨tb, htb⟩ : ∃ tb, w1.heap.size = tb := ⟨_, rfl⟩
  rw [htb] at HR2 ⊢
  clear htb
  obtain ⟨c0, c1, c2, d0, d1, d2, e0, e1⟩ := HR2.out.cells
  go_wp2_with fail
  refine (HSA.out gL gC F vs [] _ HR2.out.q.t (by simp)).mono ?_; rintro e w3 hq
  obtain ⟨x1, l1, F1, vs1, E1, rfl, q1, q2, q3, q4, q5, q6⟩ := HR2.out.step hq
  obtain ⟨g1, cap1, rfl, -⟩ := q1.cells
  generalize l1.length = ln1 at *
  have HR3 : Hid (R0 w n S R m S2 R2 tb gL gC F1 vs1 ([] ++ E1) w3 ∧ w.heap.size + 2 ≤ w2.heap.size) := ⟨q6, by have := HR2.out.x.b.cells.2.2.2.2.2.2; omega⟩
  have HX1 : Hid (Own w2.heap.size w3 (.slice (some ⟨g1, 0, none⟩) ln1 cap1) l1 ∧ LevN ([] ++ E1) ((n + 1) ^ k) (fun i => pebAt (stOf n S R) (atL (n + 1) k i)) l1 ∧ E1.length ≤ 729 ∧ ∀ b, (Value.slice (some ⟨g1, 0, none⟩) ln1 cap1).ownBlock = some b → ¬ F1 b) := ⟨q1, q2, Nat.le_trans q3 HPN.out, q4⟩
  clear hq q1 q2 q3 q4 q5 q6 c0 c1 c2 d0 d1 d2 e0 e1
  have HR4 := Lib.hid (HR3.out.1.below ((Below.refl _ _).alloc (Nat.le_refl _) (.cells #[.slice (some ⟨g1, 0, none⟩) ln1 cap1] 25)))
  go_upto_region 3 with fail
  obtain ⟨c0, c1, c2, d0, d1, d2, e0, e1⟩ := HR4.out.cells
  go_wp2_with fail
  refine (HSB.out gL gC F1 vs1 _ _ HR4.out.q.t (by have := HX1.out.2.2.1; simp; omega)).mono ?_; rintro e w5 hq
  obtain ⟨x2, l2, F2, vs2, E2, rfl, q1, q2, q3, q4, q5, q6⟩ := HR4.out.step hq
  obtain ⟨g2, cap2, rfl, -⟩ := q1.cells
  generalize l2.length = ln2 at *
  have HLV : Hid (Lv w n S R m S2 R2 (.slice (some ⟨w3.heap.size, 0, none⟩) 1 1) (.slice (some ⟨w5.heap.size, 0, none⟩) 1 1) [.slice (some ⟨g1, 0, none⟩) ln1 cap1] [.slice (some ⟨g2, 0, none⟩) ln2 cap2] [l1] [l2] (w5.alloc (.cells #[.slice (some ⟨g2, 0, none⟩) ln2 cap2] 25))) := Lv.first HR3.out.1 HX1.out.1 HR3.out.2 HX1.out.2.2.2 q5 q6 (by simpa using q1)
  have HLF : Hid (Lf (stOf n S R) (stOf m S2 R2) n m k 0 [l1] [l2]) := Lf.first q6.q.t.nodup (by have := HX1.out.2.2.1; have := HPM.out; simp; omega) HX1.out.2.1 q2
  clear hq q1 q2 q3 q4 q5 q6 c0 c1 c2 d0 d1 d2 e0 e1 HR4 HR3 HR2 HX1
  go_upto_region 4 with fail
  obtain ⟨w6, hw6⟩ : ∃ w6, w5.alloc (.cells #[.slice (some ⟨g2, 0, none⟩) ln2 cap2] 25) = w6 := ⟨_, rfl⟩
  rw [hw6] at HLV ⊢
  clear hw6
  generalize w3.heap.size = h3 at *
  generalize w5.heap.size = h5 at *
  go_wp2_with fail
  go_loopw [11, 12, 13] (fun va vb q wr => ∃ i : Nat, i ≤ t ∧ q = .int .i64 (i : Int) ∧ Hid (∃ xs ys cs ds, Lv w n S R m S2 R2 va vb xs ys cs ds wr ∧ Lf (stOf n S R) (stOf m S2 R2) n m k i cs ds)) (fun _ _ q _ => t - (intOf q).toNat)
  case atStart => exact ⟨0, by omega, rfl, _, _, _, _, HLV.out, HLF.out⟩
  case round =>
    clear HLV HLF HSA HSB
    obtain ⟨i, hi, rfl, HX⟩ := hrel
    by_cases hlt : i < t
    · obtain ⟨xs, ys, cs, ds, hLV, hLF⟩ := HX.out
      obtain ⟨ga, capa, rfl, -⟩ := hLV.ra.own.cells hLV.ra.pos
      obtain ⟨gb, capb, rfl, -⟩ := hLV.rb.own.cells hLV.rb.pos
      have hxl : xs.length = i + 1 := by rw [hLV.ra.len, hLF.lc]
      have hyl : ys.length = i + 1 := by rw [hLV.rb.len, hLF.ld]
      rw [hxl, hyl] at hLV ⊢
      have HXL : Hid (xs.length = i + 1 ∧ ys.length = i + 1) := ⟨hxl, hyl⟩
      have HLV := Lib.hid hLV
      have HLF := Lib.hid hLF
      clear hLV hLF HX hxl hyl
      have hiI : (i : Int) < (t : Int) := by omega
      have htI : (t : Int) ≤ 3 := by omega
      go_wp2_with fail
      refine (HNEW.out _).mono ?_; rintro e w1 ⟨gL, gC, F, vs, rfl, hT, hb, hF⟩
      have HN1 := Lib.hid (And.intro hT (And.intro hb hF))
      clear hT hb hF
      unfold tblV
      go_upto_region 8 with fail
      obtain ⟨w2, hw2⟩ : ∃ w2, w1.alloc (.cells #[.slice (some ⟨gL, 0, none⟩) 997 997, .slice (some ⟨gC, 0, none⟩) 1 1] 110) = w2 := ⟨_, rfl⟩
      have HR2 : Hid (RdL w n S R m S2 R2 (.slice (some ⟨ga, 0, none⟩) (i + 1) capa) (.slice (some ⟨gb, 0, none⟩) (i + 1) capb) xs ys cs ds w1.heap.size gL gC F vs [] w2) := by
        rw [← hw2]
        exact RdL.new HLV.out HN1.out.1 HN1.out.2.1 HN1.out.2.2 ((Below.refl _ _).alloc (Nat.le_refl _) _) (heap_alloc_new w1 _)
      rw [hw2]
      clear hw2 HN1 HLV
      obtain ⟨tb, htb⟩ : ∃ tb, w1.heap.size = tb := ⟨_, rfl⟩
      rw [htb] at HR2 ⊢
      clear htb
      obtain ⟨c0, c1, c2, d0, d1, d2, e0, e1⟩ := HR2.out.cells
      obtain ⟨xi, x0, x1, x2⟩ := HR2.out.l.ra.look (i := i) (by rw [HLF.out.lc]; omega)
      have HXI : Hid (Own 0 w2 xi (cs.getD i []) ∧ ∀ b, xi.ownBlock = some b → ¬ F b) := ⟨x1, fun b hb => (HR2.out.ap b (.inr (.inr ⟨xi, List.mem_append.2 (.inl x2), hb⟩))).1⟩
      clear x1 x2
      have HX1 : Hid (xs.length ≤ 1000 ∧ ys.length ≤ 1000) := by have := HXL.out; exact ⟨by omega, by omega⟩
      go_cut [11] (fun va wx => ∃ g cap, va = .slice (some ⟨g, 0, none⟩) (i + 1 + 1) cap ∧ Hid (∃ x1 l1 F1 vs1 E1, RdL w n S R m S2 R2 va (.slice (some ⟨gb, 0, none⟩) (i + 1) capb) (xs ++ [x1]) ys (cs ++ [l1]) ds tb gL gC F1 vs1 ([] ++ E1) wx ∧ LevN ([] ++ E1) ((n + 1) ^ k) (rndS n k (cs.getD i [])) l1 ∧ E1.length ≤ (n + 1) ^ k))
      case first =>
        have HRD := Lib.hid (HR2.out.below (Below.refl _ _).drew)
        have HCL := Lib.hid (HRA.out gL gC F vs [] xi (cs.getD i []) w2.drew HRD.out.q.t (by simp) (HXI.out.1.below (Below.refl _ _).drew) HXI.out.2 (HLF.out.at' i (Nat.le_refl _)).1 (HLF.out.at' i (Nat.le_refl _)).2.2.1)
        have hii : (i : Int) < (i : Int) + 1 := by omega
        go_region_law (first
          | (refine step_ownW HR3.out.l.ra.own HXL1 rfl (.tmp 32) (.tmp 41) rfl (.slice (some ⟨g1, 0, none⟩) ln1 cap1) rfl _ rfl rfl rfl ?_; intro g cap w4 ho hg ha hgl; have HR4 := Lib.hid (HR3.out.pushA HX3.out.1 HX3.out.2.1 HX3.out.2.2.1 HX3.out.2.2.2.1 ho hg ha); clear ho hg ha hgl)
          | (go_simp; go_at_call 72; refine HCL.out.mono ?_; rintro e w3 hq; obtain ⟨x1, l1, F1, vs1, E1, rfl, q1, q2, q3, q4, q5, q6, q7⟩ := HRD.out.step hq; obtain ⟨g1, cap1, rfl, -⟩ := q1.cells; have HXL1 : Hid (xs.length ≤ 1000) := HX1.out.1; generalize l1.length = ln1 at *; have HR3 := Lib.hid q7; have HX3 := Lib.hid (And.intro q1 (And.intro q4 (And.intro q5 (And.intro q6 (And.intro q2 q3))))); clear hq q1 q2 q3 q4 q5 q6 q7))
        all_goals
          have HXE : Hid (xs.length + 1 = i + 1 + 1) := by have := HXL.out.1; show _ = _; omega
          have HQ : Hid (∃ x1 l1 F1 vs1 E1, RdL w n S R m S2 R2 (.slice (some ⟨g, 0, none⟩) (i + 1 + 1) cap) (.slice (some ⟨gb, 0, none⟩) (i + 1) capb) (xs ++ [x1]) ys (cs ++ [l1]) ds tb gL gC F1 vs1 ([] ++ E1) w4 ∧ LevN ([] ++ E1) ((n + 1) ^ k) (rndS n k (cs.getD i [])) l1 ∧ E1.length ≤ (n + 1) ^ k) := ⟨_, _, _, _, _, by rw [← HXE.out]; exact HR4.out, HX3.out.2.2.2.2.1, HX3.out.2.2.2.2.2⟩
          rw [HXE.out]
          clear HR4 HX3 HR3 HX1 HRD HCL
          go_wp2_with fail
          go_meet
          exact ⟨g, cap, rfl, HQ⟩
      case rest =>
        obtain ⟨gn, capn, rfl, HQ⟩ := hcut
        clear HR2 HXI c0 c1 c2 d0 d1 d2 e0 e1 x0
        go_upto_region 9 with fail
        go_cut [12] (fun vb wx => ∃ g cap, vb = .slice (some ⟨g, 0, none⟩) (i + 1 + 1) cap ∧ Hid (∃ xs ys cs ds, Lv w n S R m S2 R2 (.slice (some ⟨gn, 0, none⟩) (i + 1 + 1) capn) vb xs ys cs ds wx ∧ Lf (stOf n S R) (stOf m S2 R2) n m k (i + 1) cs ds))
        case first =>
          obtain ⟨xn, ln, Fn, vn, En, hRn, hLn, hEn⟩ := HQ.out
          have HRD := Lib.hid (hRn.below (Below.refl _ _).drew)
          have HLN := Lib.hid (And.intro hLn hEn)
          obtain ⟨c0, c1, c2, d0, d1, d2, e0, e1⟩ := hRn.cells
          obtain ⟨yi, y0, y1, y2⟩ := hRn.l.rb.look (i := i) (by rw [HLF.out.ld]; omega)
          have HYI : Hid (Own 0 wc yi (ds.getD i []) ∧ ∀ b, yi.ownBlock = some b → ¬ Fn b) := ⟨y1, fun b hb => (hRn.ap b (.inr (.inr ⟨yi, List.mem_append.2 (.inr y2), hb⟩))).1⟩
          clear hRn hLn hEn y1 y2 HQ
          have HCL := Lib.hid (HRB.out gL gC Fn vn ([] ++ En) yi (ds.getD i []) wc.drew HRD.out.q.t (by have := HLN.out.2; have := HPN.out; simp; omega) (HYI.out.1.below (Below.refl _ _).drew) HYI.out.2 (HLF.out.at' i (Nat.le_refl _)).2.1 (HLF.out.at' i (Nat.le_refl _)).2.2.2.1)
          have hii : (i : Int) < (i : Int) + 1 := by omega
          go_region_law (first
            | (refine step_ownW HR3.out.l.rb.own HXL1 rfl (.tmp 43) (.tmp 52) rfl (.slice (some ⟨g1, 0, none⟩) ln1 cap1) rfl _ rfl rfl rfl ?_; intro g cap w4 ho hg ha hgl; have HR4 := Lib.hid (And.intro (HR3.out.pushB HX3.out.1 HX3.out.2.1 HX3.out.2.2.1 HX3.out.2.2.2.1 ho hg ha) HR3.out.q.t.nodup); clear ho hg ha hgl)
            | (go_simp; go_at_call 72; refine HCL.out.mono ?_; rintro e w3 hq; obtain ⟨x1, l1, F1, vs1, E1, rfl, q1, q2, q3, q4, q5, q6, q7⟩ := HRD.out.step hq; obtain ⟨g1, cap1, rfl, -⟩ := q1.cells; have HXL1 : Hid (ys.length ≤ 1000) := (by have := HXL.out.2; show _ ≤ _; omega); generalize l1.length = ln1 at *; have HR3 := Lib.hid q7; have HX3 := Lib.hid (And.intro q1 (And.intro q4 (And.intro q5 (And.intro q6 (And.intro q2 q3))))); clear hq q1 q2 q3 q4 q5 q6 q7))
          all_goals
            have HXE : Hid (ys.length + 1 = i + 1 + 1) := by have := HXL.out.2; show _ = _; omega
            have HQ2 : Hid (∃ xs ys cs ds, Lv w n S R m S2 R2 (.slice (some ⟨gn, 0, none⟩) (i + 1 + 1) capn) (.slice (some ⟨g, 0, none⟩) (i + 1 + 1) cap) xs ys cs ds w4 ∧ Lf (stOf n S R) (stOf m S2 R2) n m k (i + 1) cs ds) := ⟨_, _, _, _, by have h9 := HR4.out.1; rw [HXE.out] at h9; exact h9, HLF.out.push HR4.out.2 (by have := HLN.out.2; have := HX3.out.2.2.2.2.2; have := HPN.out; have := HPM.out; simp; omega) HLN.out.1 HX3.out.2.2.2.2.1⟩
            rw [HXE.out]
            clear HR4 HX3 HR3 HRD HCL HLN
            go_wp2_with fail
            go_meet
            exact ⟨g, cap, rfl, HQ2⟩
        case rest =>
          obtain ⟨gm, capm, rfl, HQ2⟩ := hcut
          clear HQ HLF
          have ht4 : ¬ ((4 : Int) < (t : Int)) := by omega
          go_upto_region 10 with fail
          go_quiet (fail)
          have HQ3 : Hid (∃ xs ys cs ds, Lv w n S R m S2 R2 (.slice (some ⟨gn, 0, none⟩) (i + 1 + 1) capn) (.slice (some ⟨gm, 0, none⟩) (i + 1 + 1) capm) xs ys cs ds (wc.drewN nq) ∧ Lf (stOf n S R) (stOf m S2 R2) n m k (i + 1) cs ds) := by
            obtain ⟨xs, ys, cs, ds, h1, h2⟩ := HQ2.out
            exact ⟨xs, ys, cs, ds, h1.below (below_drewQ (Below.refl _ _) nq), h2⟩
          clear HQ2
          go_wp2_with fail
          go_roundw
          case rel => exact ⟨i + 1, by omega, by go_num, HQ3⟩
          case measure => simp [intOf]; omega
    · obtain rfl : i = t := by omega
      obtain ⟨xs, ys, cs, ds, hLV, hLF⟩ := HX.out
      have HF : Hid (LevQ (stOf n S R) (stOf m S2 R2) n m k i w (.returned (.tuple #[u11, u12])) wr) := ⟨_, _, cs, ds, rfl, hLV.ra.lev, hLV.rb.lev, hLF, hLV.old⟩
      clear hLV hLF HX
      go_wp2_with fail
      go_ret2
      exact HF.out
end Go.Proofs.YtnhlhjehocngcaaGreatDoor

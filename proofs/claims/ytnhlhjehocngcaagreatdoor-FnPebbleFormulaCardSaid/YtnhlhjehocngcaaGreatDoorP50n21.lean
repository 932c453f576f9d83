/- Contracts of the program's functions and what they compute: part 21. Conditions: those that each theorem states. -/
import Derived.Test.YtnhlhjehocngcaaGreatDoorP50n10
import Derived.Test.YtnhlhjehocngcaaGreatDoorP50n19
import Derived.Test.YtnhlhjehocngcaaGreatDoorP50n20
import Derived.Laws.ResultCell
import Derived.Deep.RegionHeld3
import Derived.StillTailTactics
namespace Go.Proofs.YtnhlhjehocngcaaGreatDoor
open Go.RowKit
set_option linter.unusedVariables false
/-- What l5New leaves. -/
def NewTbl (w : World) (e : Ending) (w' : World) : Prop :=
  ∃ gL gC F vs, e = .returned (tblV gL gC) ∧ Tbl w' gL gC F vs [] ∧ Below w.heap.size w w' ∧ ∀ b, F b → w.heap.size ≤ b
theorem listInfo : (Tryz.prog.info? 176).map (fun i => (i.zero, i.size, i.bytes)) = some (some (.slice none 0 0), 1, 24) := by kernel_rfl
theorem tblInfo : (Tryz.prog.info? 110).map (·.size) = some 2 := by kernel_rfl
theorem bucket_nil (k : Nat) : bucket [] k = [] := rfl
theorem tbl_new {w' : World} {gL gC : Nat} {cur : Array Value} (hs : cur.size = 997) (hc : cur.toList.take 997 = List.replicate 997 (.slice none 0 0)) (hL : w'.heap[gL]? = some (.cells cur 176 (0, 0))) (hC : w'.heap[gC]? = some (.cells #[.int .i64 0] 3 (0, 0))) (hne : gL ≠ gC) :
    Tbl w' gL gC (fun b => b = gL ∨ b = gC) cur [] := by
  have hcur : cur.toList = List.replicate 997 (.slice none 0 0) := by
    rw [← hc, List.take_of_length_le (by simp [hs])]
  have hat : ∀ k, k < 997 → cur.getD k undef = .slice none 0 0 := by
    intro k hk
    rw [Array.getD_eq_getD_getElem?, ← Array.getElem?_toList, hcur, List.getElem?_replicate, if_pos hk]
    rfl
  have lt : ∀ b o, w'.heap[b]? = some o → b < w'.heap.size := fun b o h => (Array.getElem?_eq_some_iff.1 h).1
  refine ⟨.inl rfl, .inr rfl, hne, ?_, hs, hL, ?_, ?_, hC, List.nodup_nil⟩
  · rintro b (rfl | rfl)
    · exact lt _ _ hL
    · exact lt _ _ hC
  · intro k hk
    rw [hat k hk, bucket_nil]
    exact ⟨World.ownsRow_nil _ _ _ _, fun b hb => by cases hb⟩
  · intro j k hj hk _
    rw [hat j hj]
    exact .inl rfl
theorem res_grown {w w1 : World} (hgr : (w.alloc (.cells #[.slice none 0 0, .slice none 0 0] 110)).grownBy w1 none) :
    w1.cell? ⟨w.heap.size, 0, none⟩ = some (.slice none 0 0) ∧ w1.cell? ⟨w.heap.size, 1, none⟩ = some (.slice none 0 0) ∧ w1.frozen? ⟨w.heap.size, 0, none⟩ = false ∧ w1.frozen? ⟨w.heap.size, 1, none⟩ = false ∧ w.heap.size < w1.heap.size := by
  have h := (hgr.block w.heap.size (by simp) (by simp)).trans (heap_alloc_new w _)
  have hs := hgr.size
  simp at hs
  refine ⟨?_, ?_, ?_, ?_, by omega⟩ <;> simp [World.cell?, World.frozen?, h]
theorem new_end {w w1 : World} (hgr : (w.alloc (.cells #[.slice none 0 0, .slice none 0 0] 110)).grownBy w1 none)
    (hown : w1.ownsRow w.heap.size 176 1 (.slice (some ⟨(w.alloc (.cells #[.slice none 0 0, .slice none 0 0] 110)).heap.size, 0, none⟩) 997 997) 997 (madeCells (Value.slice none 0 0).cells (997 * 1)).toList) :
    NewTbl w (.returned (tblV (w.heap.size + 1) w1.heap.size)) (((w1.setCell ⟨w.heap.size, 0, none⟩ (.slice (some ⟨w.heap.size + 1, 0, none⟩) 997 997)).setCell ⟨w.heap.size, 1, none⟩ (.slice (some ⟨w1.heap.size, 0, none⟩) 1 1)).alloc (.cells #[.int .i64 0] 3)) ∧
    (((w1.setCell ⟨w.heap.size, 0, none⟩ (.slice (some ⟨w.heap.size + 1, 0, none⟩) 997 997)).setCell ⟨w.heap.size, 1, none⟩ (.slice (some ⟨w1.heap.size, 0, none⟩) 1 1)).alloc (.cells #[.int .i64 0] 3)).heap[w.heap.size]? = some (.cells #[.slice (some ⟨w.heap.size + 1, 0, none⟩) 997 997, .slice (some ⟨w1.heap.size, 0, none⟩) 1 1] 110 (0, 0)) := by
  have h := (hgr.block w.heap.size (by simp) (by simp)).trans (heap_alloc_new w _)
  have hlt := (hown.lt _ rfl).2
  have hsz : (w.alloc (.cells #[.slice none 0 0, .slice none 0 0] 110)).heap.size = w.heap.size + 1 := by simp
  have hlt : w.heap.size + 1 < w1.heap.size := by have e : (⟨(w.alloc (.cells #[.slice none 0 0, .slice none 0 0] 110)).heap.size, 0, none⟩ : Addr).block = w.heap.size + 1 := hsz; rw [e] at hlt; exact hlt
  rw [hsz] at hown
  generalize hW : (w1.setCell ⟨w.heap.size, 0, none⟩ (.slice (some ⟨w.heap.size + 1, 0, none⟩) 997 997)).setCell ⟨w.heap.size, 1, none⟩ (.slice (some ⟨w1.heap.size, 0, none⟩) 1 1) = W
  have hWs : W.heap.size = w1.heap.size := by rw [← hW]; simp [World.setCell]
  have hWb : ∀ b, b ≠ w.heap.size → W.heap[b]? = w1.heap[b]? := fun b hb => by rw [← hW, Below.heap_setCell _ _ _ _ hb, Below.heap_setCell _ _ _ _ hb]
  have hWr : W.heap[w.heap.size]? = some (.cells #[.slice (some ⟨w.heap.size + 1, 0, none⟩) 997 997, .slice (some ⟨w1.heap.size, 0, none⟩) 1 1] 110 (0, 0)) := by
    rw [← hW]
    simp [World.setCell, Array.getElem?_modify, h]
  have hBel : Below w.heap.size w W := by
    have h1 := ((Below.refl w.heap.size w).alloc (Nat.le_refl _) (.cells #[.slice none 0 0, .slice none 0 0] 110)).grown hgr (by simp) (fun k hk => by cases hk)
    rw [← hW]
    exact (h1.setCell (Nat.le_refl _) _).setCell (Nat.le_refl _) _
  refine ⟨?_, (Below.heap_alloc _ _ _ (by omega)).trans hWr⟩
  rcases hown.2 with ⟨h1, _⟩ | ⟨g, cap, cur, hv, hb, hg, hnc, hcm, hcs, htake⟩
  · cases h1
  · injection hv with e1 e2 e3
    injection e1 with e1
    injection e1 with e4 e5
    subst e4; subst e3
    refine ⟨w.heap.size + 1, w1.heap.size, _, cur, rfl, tbl_new (by simpa using hcs) ?_ ?_ ?_ (by omega), hBel.alloc hBel.size _, ?_⟩
    · have := htake
      rw [show (Value.slice none 0 0).cells = #[.slice none 0 0] from rfl, toList_madeCells_one] at this
      exact this
    · rw [Below.heap_alloc _ _ _ (by omega), hWb _ (by omega)]
      exact hg
    · rw [← hWs]
      exact heap_alloc_new W _
    · rintro b (rfl | rfl) <;> omega
set_option maxRecDepth 100000 in
theorem l5New_any (w : World) : Calls Tryz.prog 70 #[] w (NewTbl w) := by
  obtain ⟨i, hi, hz, h1, h2⟩ := info_parts listInfo
  have HI := Lib.hid (And.intro hi (And.intro hz (And.intro h1 h2)))
  clear hi hz h1 h2
  go_enter Tryz.func70, Tryz.ntmps70
  go_wp2_with (first | (refine wpList_make_full _ rfl _ _ 108 rfl w.heap.size 176 i (.slice none 0 0) 1 Tryz.underlying108 HI.out.1 HI.out.2.1 HI.out.2.2.1 .i64 .i64 997 997 997 rfl rfl rfl rfl (by rw [HI.out.2.2.2]; decide) (by decide) (by simp) ?_; intro w1 hown hgr; have HO := Lib.hid hown; have HG := Lib.hid hgr; obtain ⟨r0, r1, f0, f1, hzz⟩ := res_grown hgr; clear hown hgr) | fail)
  obtain ⟨hn, hr⟩ := new_end HG.out HO.out
  refine bodyPost_ret (v := tblV (w.heap.size + 1) w1.heap.size) ?_ rfl hn
  exact results_cell_row rfl _ _ w.heap.size 110 #[.slice (some ⟨w.heap.size + 1, 0, none⟩) 997 997, .slice (some ⟨w1.heap.size, 0, none⟩) 1 1] (0, 0) _ rfl hr Tryz.underlying110 rfl tblInfo
end Go.Proofs.YtnhlhjehocngcaaGreatDoor

namespace Go.Proofs.YtnhlhjehocngcaaGreatDoor
open Go.RowKit
set_option linter.unusedVariables false
set_option maxRecDepth 100000
theorem intsInfo : (Tryz.prog.info? 25).map (fun i => (i.zero, i.size, i.bytes)) = some (some (.slice none 0 0), 1, 24) := by kernel_rfl
/-- A slice of slices of numbers of the call's own. -/
structure OwnW (B : Nat) (w : World) (v : Value) (xs : List Value) : Prop where
  own : w.ownsRow B 25 1 v xs.length xs
  low : B ≤ w.heap.size
theorem OwnW.kept {B : Nat} {w w' : World} {v : Value} {xs : List Value} (h : OwnW B w v xs) (hb : ∀ k, v.ownBlock = some k → k < w.heap.size → w'.heap[k]? = w.heap[k]?) (hs : w.heap.size ≤ w'.heap.size) : OwnW B w' v xs := by
  refine ⟨⟨h.own.1, ?_⟩, Nat.le_trans h.low hs⟩
  rcases h.own.2 with hn | ⟨g, cap, cur, rfl, hb', hgg, rest⟩
  · exact .inl hn
  · exact .inr ⟨g, cap, cur, rfl, hb', by rw [hb g rfl (Array.getElem?_eq_some_iff.1 hgg).1]; exact hgg, rest⟩
theorem OwnW.below {B : Nat} {w w' : World} {v : Value} {xs : List Value} (h : OwnW B w v xs) (hb : Below w.heap.size w w') : OwnW B w' v xs := h.kept (fun k _ hk => hb.block k hk) hb.size
theorem OwnW.cells {B : Nat} {w : World} {v : Value} {xs : List Value} (h : OwnW B w v xs) (hne : 0 < xs.length) :
    ∃ g cap, v = .slice (some ⟨g, 0, none⟩) xs.length cap ∧ B ≤ g ∧ g < w.heap.size ∧ xs.length ≤ cap ∧ cap ≤ maxLen ∧ ∀ j, j < xs.length → w.cell? ⟨g, j, none⟩ = xs[j]? := by
  rcases h.own.2 with ⟨h1, h2⟩ | ⟨g, cap, cur, rfl, hb, hg, hnc, hcm, hcs, htake⟩
  · omega
  · exact ⟨g, cap, rfl, hb, (h.own.lt g rfl).2, hnc, hcm, fun j hj => h.own.cellAt j (by omega)⟩
theorem OwnW.one {B : Nat} {w : World} (x : Value) (hB : B ≤ w.heap.size) : OwnW B (w.alloc (.cells #[x] 25)) (.slice (some ⟨w.heap.size, 0, none⟩) 1 1) [x] :=
  ⟨⟨rfl, .inr ⟨w.heap.size, 1, #[x], rfl, hB, heap_alloc_new w _, Nat.le_refl 1, (by unfold maxLen; omega), rfl, rfl⟩⟩, by simp; omega⟩
/-- A slice of levels. -/
structure Row (B : Nat) (wr : World) (v : Value) (xs : List Value) (cs : List (List Nat)) : Prop where
  own : OwnW B wr v xs
  len : xs.length = cs.length
  pos : 0 < xs.length
  at' : ∀ i, i < cs.length → ∃ x, xs[i]? = some x ∧ Own 0 wr x (cs.getD i [])
/-- What l7Levels keeps. -/
structure Lv (w : World) (n : Nat) (S R : ByteArray) (m : Nat) (S2 R2 : ByteArray) (va vb : Value) (xs ys : List Value) (cs ds : List (List Nat)) (wr : World) : Prop where
  sa : SBlk wr w.heap.size n S R
  sb : SBlk wr (w.heap.size + 1) m S2 R2
  ra : Row (w.heap.size + 2) wr va xs cs
  rb : Row (w.heap.size + 2) wr vb ys ds
  ne : va.ownBlock ≠ vb.ownBlock
  xa : ∀ x ∈ xs ++ ys, x.ownBlock ≠ va.ownBlock ∧ x.ownBlock ≠ vb.ownBlock
  old : Below w.heap.size w wr
section
variable {w wr w' wx : World} {n m : Nat} {S R S2 R2 : ByteArray} {va vb : Value} {xs ys : List Value} {cs ds : List (List Nat)}
theorem Row.below {B : Nat} {v : Value} (h : Row B wr v xs cs) (hb : Below wr.heap.size wr w') : Row B w' v xs cs :=
  ⟨h.own.below hb, h.len, h.pos, fun i hi => by
    obtain ⟨x, h1, h2⟩ := h.at' i hi
    exact ⟨x, h1, h2.below hb⟩⟩
theorem Lv.below (h : Lv w n S R m S2 R2 va vb xs ys cs ds wr) (hb : Below wr.heap.size wr w') : Lv w n S R m S2 R2 va vb xs ys cs ds w' := by
  have h1 := h.sb.cells.2.2.2.2.2.2
  exact ⟨h.sa.below hb (by omega), h.sb.below hb h1, h.ra.below hb, h.rb.below hb, h.ne, h.xa, h.old.trans (hb.mono (by omega))⟩
theorem Lv.swap (h : Lv w n S R m S2 R2 va vb xs ys cs ds wr) : ∀ x ∈ ys ++ xs, x.ownBlock ≠ vb.ownBlock ∧ x.ownBlock ≠ va.ownBlock := fun x hx => by
  have := h.xa x (by rw [List.mem_append] at hx ⊢; exact hx.symm)
  exact ⟨this.2, this.1⟩
/-- A row is grown by a level. -/
theorem Row.push {B : Nat} {v x : Value} {c : List Nat} {g cap : Nat} (h : Row B wx v xs cs) (hv : ∀ y ∈ xs, y.ownBlock ≠ v.ownBlock) (hx : Own 0 wx x c) (hxv : x.ownBlock ≠ v.ownBlock) (ho : OwnW B w' (.slice (some ⟨g, 0, none⟩) (xs.length + 1) cap) (xs ++ [x])) (hg : wx.grownBy w' v.ownBlock) : Row B w' (.slice (some ⟨g, 0, none⟩) (xs.length + 1) cap) (xs ++ [x]) (cs ++ [c]) := by
  have hk : ∀ (y : Value) (d : List Nat), Own 0 wx y d → y.ownBlock ≠ v.ownBlock → Own 0 w' y d := fun y d hy hn => hy.kept (fun b hb hl => hg.block b hl (fun e => hn (by rw [hb, e]))) hg.size
  refine ⟨ho, by simp [h.len], by simp, fun i hi => ?_⟩
  rw [List.length_append, List.length_singleton] at hi
  by_cases hlt : i < cs.length
  · obtain ⟨y, h1, h2⟩ := h.at' i hlt
    refine ⟨y, by rw [List.getElem?_append_left (by rw [h.len]; exact hlt)]; exact h1, ?_⟩
    rw [show (cs ++ [c]).getD i [] = cs.getD i [] by rw [List.getD_eq_getElem?_getD, List.getElem?_append_left hlt, ← List.getD_eq_getElem?_getD]]
    exact hk y _ h2 (hv y (List.mem_of_getElem? h1))
  · obtain rfl : i = cs.length := by omega
    refine ⟨x, by rw [← h.len]; simp, ?_⟩
    rw [show (cs ++ [c]).getD cs.length [] = c by simp]
    exact hk x c hx hxv
theorem Row.other {B : Nat} {v : Value} {row : Option Nat} (h : Row B wx v xs cs) (hv : ∀ y ∈ xs, y.ownBlock ≠ row) (hn : v.ownBlock ≠ row) (hg : wx.grownBy w' row) : Row B w' v xs cs :=
  ⟨h.own.kept (fun b hb hl => hg.block b hl (fun e => hn (by rw [hb, e]))) hg.size, h.len, h.pos, fun i hi => by
    obtain ⟨y, h1, h2⟩ := h.at' i hi
    exact ⟨y, h1, h2.kept (fun b hb hl => hg.block b hl (fun e => hv y (List.mem_of_getElem? h1) (by rw [hb, e]))) hg.size⟩⟩
theorem Row.has {B : Nat} {v : Value} (h : Row B wr v xs cs) : ∀ y ∈ xs, ∃ b, y.ownBlock = some b ∧ b < wr.heap.size := fun y hy => by
  obtain ⟨i, hi, e⟩ := List.mem_iff_getElem.1 hy
  obtain ⟨x, h1, h2⟩ := h.at' i (by rw [← h.len]; exact hi)
  rw [List.getElem?_eq_getElem hi, e] at h1
  injection h1 with h1
  subst h1
  obtain ⟨b, q1, _, q2⟩ := h2.block
  exact ⟨b, q1, q2⟩
theorem Row.home {B : Nat} {v : Value} (h : Row B wr v xs cs) : ∃ b, v.ownBlock = some b ∧ B ≤ b ∧ b < wr.heap.size := by
  obtain ⟨g, cap, rfl, h1, h2, _⟩ := h.own.cells h.pos
  exact ⟨g, rfl, h1, h2⟩
/-- The first side's row is grown by a level. -/
theorem Lv.pushA {x : Value} {c : List Nat} {g cap : Nat} (h : Lv w n S R m S2 R2 va vb xs ys cs ds wx) (hx : Own 0 wx x c) (hxn : x.ownBlock ≠ va.ownBlock) (hxm : x.ownBlock ≠ vb.ownBlock) (ho : OwnW (w.heap.size + 2) w' (.slice (some ⟨g, 0, none⟩) (xs.length + 1) cap) (xs ++ [x])) (hg : wx.grownBy w' va.ownBlock) (ha : va.ownBlock = some g ∨ wx.heap.size ≤ g) :
    Lv w n S R m S2 R2 (.slice (some ⟨g, 0, none⟩) (xs.length + 1) cap) vb (xs ++ [x]) ys (cs ++ [c]) ds w' := by
  have hx0 := h
  obtain ⟨ba, a1, a2, a3⟩ := h.ra.home
  obtain ⟨bb, b1, b2, b3⟩ := h.rb.home
  obtain ⟨bx, x1, x2, x3⟩ := hx.block
  have hgo : (Value.slice (some ⟨g, 0, none⟩) (xs.length + 1) cap).ownBlock = some g := rfl
  have hgb : ∀ b, b < wx.heap.size → va.ownBlock ≠ some b → some b ≠ some g := fun b hb hn e => by
    injection e with e
    rcases ha with h1 | h1
    · exact hn (by rw [h1, e])
    · omega
  have hall : ∀ y ∈ xs ++ ys, y.ownBlock ≠ some g := fun y hy => by
    obtain ⟨b, q1, q2⟩ : ∃ b, y.ownBlock = some b ∧ b < wx.heap.size := by
      rcases List.mem_append.1 hy with hy | hy
      · exact h.ra.has y hy
      · exact h.rb.has y hy
    rw [q1]
    exact hgb b (by omega) (fun e => (h.xa y hy).1 (by rw [q1, e]))
  have hsz := h.sb.cells.2.2.2.2.2.2
  have hself : ∀ b, b < w.heap.size + 2 → some b ≠ va.ownBlock := fun b hb e => by rw [a1] at e; injection e with e; omega
  refine ⟨(hg.block _ (by omega) (hself w.heap.size (by omega))).trans hx0.sa, (hg.block _ (by omega) (hself (w.heap.size + 1) (by omega))).trans hx0.sb, hx0.ra.push (fun y hy => (h.xa y (List.mem_append.2 (.inl hy))).1) hx hxn ho hg, hx0.rb.other (fun y hy => (h.xa y (List.mem_append.2 (.inr hy))).1) (fun e => h.ne e.symm) hg, ?_, fun y hy => ?_, hx0.old.grown hg hx0.old.size (fun b hb => by rw [a1] at hb; injection hb with hb; omega)⟩
  · rw [hgo, b1]
    exact fun e => hgb bb (by omega) (by rw [a1]; intro e2; exact h.ne (by rw [a1, b1, e2])) e.symm
  · rw [hgo]
    rcases List.mem_append.1 hy with hy | hy
    · rcases List.mem_append.1 hy with hy | hy
      · exact ⟨hall y (List.mem_append.2 (.inl hy)), (h.xa y (List.mem_append.2 (.inl hy))).2⟩
      · rw [List.mem_singleton.1 hy]
        exact ⟨by rw [x1]; exact hgb bx x3 (by rw [← x1]; exact fun e => hxn e.symm), hxm⟩
    · exact ⟨hall y (List.mem_append.2 (.inr hy)), (h.xa y (List.mem_append.2 (.inr hy))).2⟩
theorem Lv.pushB {x : Value} {c : List Nat} {g cap : Nat} (h : Lv w n S R m S2 R2 va vb xs ys cs ds wx) (hx : Own 0 wx x c) (hxn : x.ownBlock ≠ va.ownBlock) (hxm : x.ownBlock ≠ vb.ownBlock) (ho : OwnW (w.heap.size + 2) w' (.slice (some ⟨g, 0, none⟩) (ys.length + 1) cap) (ys ++ [x])) (hg : wx.grownBy w' vb.ownBlock) (ha : vb.ownBlock = some g ∨ wx.heap.size ≤ g) :
    Lv w n S R m S2 R2 va (.slice (some ⟨g, 0, none⟩) (ys.length + 1) cap) xs (ys ++ [x]) cs (ds ++ [c]) w' := by
  have hx0 := h
  obtain ⟨ba, a1, a2, a3⟩ := h.ra.home
  obtain ⟨bb, b1, b2, b3⟩ := h.rb.home
  obtain ⟨bx, x1, x2, x3⟩ := hx.block
  have hgo : (Value.slice (some ⟨g, 0, none⟩) (ys.length + 1) cap).ownBlock = some g := rfl
  have hgb : ∀ b, b < wx.heap.size → vb.ownBlock ≠ some b → some b ≠ some g := fun b hb hn e => by
    injection e with e
    rcases ha with h1 | h1
    · exact hn (by rw [h1, e])
    · omega
  have hall : ∀ y ∈ xs ++ ys, y.ownBlock ≠ some g := fun y hy => by
    obtain ⟨b, q1, q2⟩ : ∃ b, y.ownBlock = some b ∧ b < wx.heap.size := by
      rcases List.mem_append.1 hy with hy | hy
      · exact h.ra.has y hy
      · exact h.rb.has y hy
    rw [q1]
    exact hgb b (by omega) (fun e => (h.xa y hy).2 (by rw [q1, e]))
  have hsz := h.sb.cells.2.2.2.2.2.2
  have hself : ∀ b, b < w.heap.size + 2 → some b ≠ vb.ownBlock := fun b hb e => by rw [b1] at e; injection e with e; omega
  refine ⟨(hg.block _ (by omega) (hself w.heap.size (by omega))).trans hx0.sa, (hg.block _ (by omega) (hself (w.heap.size + 1) (by omega))).trans hx0.sb, hx0.ra.other (fun y hy => (h.xa y (List.mem_append.2 (.inl hy))).2) h.ne hg, hx0.rb.push (fun y hy => (h.xa y (List.mem_append.2 (.inr hy))).2) hx hxm ho hg, ?_, fun y hy => ?_, hx0.old.grown hg hx0.old.size (fun b hb => by rw [b1] at hb; injection hb with hb; omega)⟩
  · rw [hgo, a1]
    exact hgb ba (by omega) (by rw [b1]; intro e2; exact h.ne (by rw [a1, b1, e2]))
  · rw [hgo]
    rcases List.mem_append.1 hy with hy | hy
    · exact ⟨(h.xa y (List.mem_append.2 (.inl hy))).1, hall y (List.mem_append.2 (.inl hy))⟩
    · rcases List.mem_append.1 hy with hy | hy
      · exact ⟨(h.xa y (List.mem_append.2 (.inr hy))).1, hall y (List.mem_append.2 (.inr hy))⟩
      · rw [List.mem_singleton.1 hy]
        exact ⟨hxn, by rw [x1]; exact hgb bx x3 (by rw [← x1]; exact fun e => hxm e.symm)⟩
theorem Lv.off {F : Nat → Prop} (h : Lv w n S R m S2 R2 va vb xs ys cs ds wr) (ho : Off F wr w') (hlo : ∀ b, F b → w.heap.size + 2 ≤ b) (ha : ∀ b, (va.ownBlock = some b ∨ vb.ownBlock = some b ∨ ∃ x ∈ xs ++ ys, x.ownBlock = some b) → ¬ F b) : Lv w n S R m S2 R2 va vb xs ys cs ds w' := by
  have h1 := h.sb.cells.2.2.2.2.2.2
  have hno : ∀ b, b < w.heap.size + 2 → ¬ F b := fun b hb hf => by have := hlo b hf; omega
  have hr : ∀ (B : Nat) (v : Value) (zs : List Value) (es : List (List Nat)), (∀ b, v.ownBlock = some b → ¬ F b) → (∀ x ∈ zs, ∀ b, x.ownBlock = some b → ¬ F b) → Row B wr v zs es → Row B w' v zs es := fun B v zs es k1 k2 hR =>
    ⟨hR.own.kept (fun b hb hl => ho.block b hl (k1 b hb)) ho.size, hR.len, hR.pos, fun i hi => by
      obtain ⟨y, q1, q2⟩ := hR.at' i hi
      exact ⟨y, q1, q2.kept (fun b hb hl => ho.block b hl (k2 y (List.mem_of_getElem? q1) b hb)) ho.size⟩⟩
  refine ⟨(ho.block _ (by omega) (hno _ (by omega))).trans h.sa, (ho.block _ (by omega) (hno _ (by omega))).trans h.sb, hr _ _ _ _ (fun b hb => ha b (.inl hb)) (fun x hx b hb => ha b (.inr (.inr ⟨x, List.mem_append.2 (.inl hx), hb⟩))) h.ra, hr _ _ _ _ (fun b hb => ha b (.inr (.inl hb))) (fun x hx b hb => ha b (.inr (.inr ⟨x, List.mem_append.2 (.inr hx), hb⟩))) h.rb, h.ne, h.xa, h.old.trans (ho.below (by omega) (fun b hb => by have := hlo b hb; omega))⟩
end
/-- A table in a box of its own. -/
structure Tq (B : Nat) (wr : World) (tb gL gC : Nat) (F : Nat → Prop) (vs : Array Value) (D : List (List UInt8)) : Prop where
  t : Tbl wr gL gC F vs D
  box : wr.heap[tb]? = some (.cells #[.slice (some ⟨gL, 0, none⟩) 997 997, .slice (some ⟨gC, 0, none⟩) 1 1] 110 (0, 0))
  nb : ¬ F tb
  lo : ∀ b, F b → B ≤ b
  hi : B ≤ tb
section
variable {B tb gL gC : Nat} {F : Nat → Prop} {vs : Array Value} {D : List (List UInt8)} {w wr w' : World}
theorem Tq.lt (h : Tq B wr tb gL gC F vs D) : tb < wr.heap.size := (Array.getElem?_eq_some_iff.1 h.box).1
theorem Tq.cells (h : Tq B wr tb gL gC F vs D) : wr.cell? ⟨tb, 0, none⟩ = some (.slice (some ⟨gL, 0, none⟩) 997 997) ∧ wr.cell? ⟨tb, 1, none⟩ = some (.slice (some ⟨gC, 0, none⟩) 1 1) := by
  have hb := h.box
  constructor <;> (unfold World.cell?; rw [hb]; rfl)
theorem Tq.below (h : Tq B wr tb gL gC F vs D) (hb : Below wr.heap.size wr w') : Tq B w' tb gL gC F vs D :=
  ⟨h.t.below hb, (hb.block _ h.lt).trans h.box, h.nb, h.lo, h.hi⟩
theorem Tq.grown {g : Nat} (h : Tq B wr tb gL gC F vs D) (hg : wr.grownBy w' (some g)) (h1 : ¬ F g) (h2 : g ≠ tb) : Tq B w' tb gL gC F vs D :=
  ⟨h.t.off (Off.grown (F := fun b => b = g) hg (fun b hb => by injection hb with hb; exact hb.symm)) (fun b hf e => h1 (by rw [← e]; exact hf)), (hg.block _ h.lt (fun e => h2 (by injection e with e; exact e.symm))).trans h.box, h.nb, h.lo, h.hi⟩
theorem Tq.step {N : Nat} {str : Nat → List UInt8} {e : Ending} (h : Tq B wr tb gL gC F vs D) (hB : B ≤ wr.heap.size) (hl : LvP gL gC F D N str wr e w') :
    ∃ (x : Value) (c : List Nat) (F' : Nat → Prop) (vs' : Array Value) (E : List (List UInt8)), e = .returned x ∧ Own wr.heap.size w' x c ∧ LevN (D ++ E) N str c ∧ E.length ≤ N ∧ (∀ b, x.ownBlock = some b → ¬ F' b) ∧ (∀ b, F' b → F b ∨ wr.heap.size ≤ b) ∧ Tq B w' tb gL gC F' vs' (D ++ E) ∧ Off F wr w' := by
  obtain ⟨x, c, F', vs', E, rfl, h1, h2, h3, h4, h5, h6, h7⟩ := hl
  have := h.lt
  refine ⟨x, c, F', vs', E, rfl, h1, h3, h4, h7, h6, ⟨h2, (h5.block _ h.lt h.nb).trans h.box, fun hf => ?_, fun b hf => ?_, h.hi⟩, h5⟩
  · rcases h6 tb hf with q | q
    · exact h.nb q
    · omega
  · rcases h6 b hf with q | q
    · exact h.lo b q
    · omega
end
end Go.Proofs.YtnhlhjehocngcaaGreatDoor

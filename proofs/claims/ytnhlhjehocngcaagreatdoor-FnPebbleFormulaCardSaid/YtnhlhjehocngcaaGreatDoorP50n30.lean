/- Contracts of the program's functions and what they compute: part 30. Conditions: those that each theorem states. -/
import Derived.Test.YtnhlhjehocngcaaGreatDoorP50n29
namespace Go.Proofs.YtnhlhjehocngcaaGreatDoor
open Go.RowKit
set_option linter.unusedVariables false
set_option maxRecDepth 100000
theorem boolsInfo : (Tryz.prog.info? 54).map (fun i => (i.zero, i.size, i.bytes)) = some (some (.slice none 0 0), 1, 24) := by kernel_rfl
/-- A slice of slices of bools of the call's own. -/
structure OwnV (B : Nat) (w : World) (v : Value) (xs : List Value) : Prop where
  own : w.ownsRow B 54 1 v xs.length xs
  low : B ≤ w.heap.size
theorem OwnV.kept {B : Nat} {w w' : World} {v : Value} {xs : List Value} (h : OwnV B w v xs) (hb : ∀ k, v.ownBlock = some k → k < w.heap.size → w'.heap[k]? = w.heap[k]?) (hs : w.heap.size ≤ w'.heap.size) : OwnV B w' v xs := by
  refine ⟨⟨h.own.1, ?_⟩, Nat.le_trans h.low hs⟩
  rcases h.own.2 with hn | ⟨g, cap, cur, rfl, hb', hgg, rest⟩
  · exact .inl hn
  · exact .inr ⟨g, cap, cur, rfl, hb', by rw [hb g rfl (Array.getElem?_eq_some_iff.1 hgg).1]; exact hgg, rest⟩
theorem OwnV.below {B : Nat} {w w' : World} {v : Value} {xs : List Value} (h : OwnV B w v xs) (hb : Below w.heap.size w w') : OwnV B w' v xs := h.kept (fun k _ hk => hb.block k hk) hb.size
theorem OwnV.cells {B : Nat} {w : World} {v : Value} {xs : List Value} (h : OwnV B w v xs) (hne : 0 < xs.length) :
    ∃ g cap, v = .slice (some ⟨g, 0, none⟩) xs.length cap ∧ B ≤ g ∧ g < w.heap.size ∧ xs.length ≤ cap ∧ cap ≤ maxLen ∧ ∀ j, j < xs.length → w.cell? ⟨g, j, none⟩ = xs[j]? := by
  rcases h.own.2 with ⟨h1, h2⟩ | ⟨g, cap, cur, rfl, hb, hg, hnc, hcm, hcs, htake⟩
  · omega
  · exact ⟨g, cap, rfl, hb, (h.own.lt g rfl).2, hnc, hcm, fun j hj => h.own.cellAt j (by omega)⟩
theorem step_ownV {ops : Array Oper} {o : Oper} {a : Act} {K : Act → World → Prop} {Q : Exit → Act → World → Prop} {E : Prop} {B : Nat} {w : World} {v : Value} {xs : List Value}
    (hown : OwnV B w v xs) (hL : Hid (xs.length ≤ 1000)) (hgd : o.guard = none) (s x : Operand)
    (ho : o.op = .call { callee := .builtin .append, args := #[s, x], argTypes := #[57, 57] }) (y : Value) (hy : y.oneCell' = true) (b : Nat) (hb : w.heap.size = b)
    (hs : a.eval s = v) (hx : a.eval x = .slice (some ⟨b, 0, none⟩) 1 1)
    (h : ∀ g cap w', OwnV B w' (.slice (some ⟨g, 0, none⟩) (xs.length + 1) cap) (xs ++ [y]) → w.grownBy w' v.ownBlock → (v.ownBlock = some g ∨ w.heap.size ≤ g) → g < w'.heap.size → K (a.put o.dst (.slice (some ⟨g, 0, none⟩) (xs.length + 1) cap)) w') :
    if Region.wanted o (yielded ops a.tmps) = true then Oper.wp Tryz.prog o a (w.alloc (.cells #[y] 54)) K Q else E := by
  have hL := hL.out
  subst hb
  obtain ⟨i, hi, hz, h1, h2⟩ := info_parts boolsInfo
  have hbase : B ≤ w.heap.size := hown.low
  refine step_append_lies _ hgd s x 57 ho B 54 i (.slice none 0 0) 1 24 Tryz.underlying57 hi hz h1 h2 rfl (by decide) v xs.length xs hs (hown.own.alloc _) ⟨w.heap.size, 0, none⟩ 1 1 [y] hx rfl ?_ ?_ (by decide) ?_ ?_ ?_ _ rfl ?_
  · intro j u hj
    match j, hj with
    | 0, hj => simp at hj; subst hj; simp [Addr.add]
  · intro u hu
    simp at hu; subst hu; exact hy
  · unfold maxLen; omega
  · omega
  · simp; omega
  · intro g cap w' h2 h3 h4 h5
    refine h g cap w' ⟨?_, ?_⟩ ?_ ?_ h5
    · simpa using h2
    · have := h3.size
      simp at this
      omega
    · refine ⟨h3.os, h3.tape, h3.output, ?_, fun k hk hne => ?_⟩
      · have := h3.size
        simp at this
        omega
      · rw [h3.block k (by simp; omega) hne]
        exact Below.heap_alloc _ _ _ hk
    · rcases h4 with h | h
      · exact .inl h
      · exact .inr (by rw [h]; simp)
/-- What PebbleFormula's loop keeps. -/
structure Tl (w : World) (tp p n : Nat) (S R : ByteArray) (m : Nat) (S2 R2 : ByteArray) (k : Nat) (F : List Bool) (winv fv wv : Value) (xs : List Value) (j : Nat) (wr : World) : Prop where
  g : PebG wr p n S R m S2 R2 k fv wv
  f : BoolsAt wr fv F
  b : BoolsAt wr wv (lev n m k F j)
  fs : ∀ b, fv.ownBlock = some b → b ≠ p ∧ b ≠ tp ∧ winv.ownBlock ≠ some b
  ws : ∀ b, wv.ownBlock = some b → b ≠ p ∧ b ≠ tp ∧ winv.ownBlock ≠ some b
  t : wr.heap[tp]? = some (.cells #[.pointer (some ⟨p, 0, none⟩), winv] 59 (0, 0))
  own : OwnV w.heap.size wr winv xs
  ne : winv.ownBlock ≠ some p ∧ winv.ownBlock ≠ some tp ∧ p ≠ tp ∧ w.heap.size ≤ p ∧ w.heap.size ≤ tp
  lv : ∀ i, i < xs.length → ∃ sv, xs[i]? = some sv ∧ BoolsAt wr sv (lev n m k F i) ∧ ∀ b, sv.ownBlock = some b → b ≠ p ∧ b ≠ tp ∧ winv.ownBlock ≠ some b
  old : Below w.heap.size w wr
section
variable {w wr w' : World} {tp p n m k j : Nat} {S R S2 R2 : ByteArray} {F : List Bool} {winv fv wv v' : Value} {xs : List Value}
theorem Tl.below (h : Tl w tp p n S R m S2 R2 k F winv fv wv xs j wr) (hb : Below wr.heap.size wr w') : Tl w tp p n S R m S2 R2 k F winv fv wv xs j w' :=
  ⟨h.g.below hb, h.f.below hb, h.b.below hb, h.fs, h.ws, (hb.block _ (Array.getElem?_eq_some_iff.1 h.t).1).trans h.t, h.own.below hb, h.ne, fun i hi => by
    obtain ⟨sv, h1, h2, h3⟩ := h.lv i hi
    exact ⟨sv, h1, h2.below hb, h3⟩, h.old.trans (hb.mono h.old.size)⟩
theorem Tl.tlt (h : Tl w tp p n S R m S2 R2 k F winv fv wv xs j wr) : tp < wr.heap.size := (Array.getElem?_eq_some_iff.1 h.t).1
theorem Tl.cells (h : Tl w tp p n S R m S2 R2 k F winv fv wv xs j wr) : wr.cell? ⟨tp, 0, none⟩ = some (.pointer (some ⟨p, 0, none⟩)) ∧ wr.cell? ⟨tp, 1, none⟩ = some winv ∧ wr.frozen? ⟨tp, 1, none⟩ = false ∧ wr.cell? ⟨p, 9, none⟩ = some wv := by
  have ht := h.t
  refine ⟨?_, ?_, ?_, h.g.cells.2.2.2.2.2.1⟩
  · unfold World.cell?; rw [ht]; rfl
  · unfold World.cell?; rw [ht]; rfl
  · unfold World.frozen?; rw [ht]; rfl
/-- After a turn. -/
theorem Tl.turn (h : Tl w tp p n S R m S2 R2 k F winv fv wv xs j wr) {e : Ending} (ht : TurnP wr p n S R m S2 R2 k F (lev n m k F j) e w') : ∃ wv', Tl w tp p n S R m S2 R2 k F winv fv wv' xs (j + 1) w' := by
  obtain ⟨_, _, ho, fv2, wv2, h1, h2, h3, h4, h5⟩ := ht
  have e1 := h.g.cells.2.2.2.2.1
  rw [e1] at h1
  injection h1 with h1
  subst h1
  have hp := h.g.lt
  have htl := h.tlt
  have hno : ∀ b, winv.ownBlock = some b → b < wr.heap.size := fun b hb => (h.own.own.lt b hb).2
  have hkb : ∀ sv L, (∀ b, sv.ownBlock = some b → b ≠ p ∧ b ≠ tp ∧ winv.ownBlock ≠ some b) → BoolsAt wr sv L → BoolsAt w' sv L := fun sv L hs hb => hb.kept (fun b hb' hl => ho.block b hl (hs b hb').1) ho.size
  refine ⟨wv2, h2, h3, h4, h.fs, fun b hb => ?_, (ho.block tp htl (fun e => h.ne.2.2.1 e.symm)).trans h.t, h.own.kept (fun b hb hl => ho.block b hl (fun e => h.ne.1 (by rw [hb, e]))) ho.size, h.ne, fun i hi => ?_, ⟨ho.os.trans h.old.os, ho.tape.trans h.old.tape, ho.output.trans h.old.output, Nat.le_trans h.old.size ho.size, fun b hb => (ho.block b (Nat.lt_of_lt_of_le hb h.old.size) (fun e => by have := h.ne.2.2.2.1; omega)).trans (h.old.block b hb)⟩⟩
  · have := h5 b hb
    refine ⟨by omega, by omega, fun e => ?_⟩
    have := hno b e
    omega
  · obtain ⟨sv, q1, q2, q3⟩ := h.lv i hi
    exact ⟨sv, q1, hkb sv _ q3 q2, q3⟩
/-- After an append and its store. -/
theorem Tl.push {wx : World} {g cap : Nat} (h : Tl w tp p n S R m S2 R2 k F winv fv wv xs j wr) (hj : xs.length = j) (hx : Below wr.heap.size wr wx) (ho : OwnV w.heap.size w' (.slice (some ⟨g, 0, none⟩) (xs.length + 1) cap) (xs ++ [wv])) (hg : wx.grownBy w' winv.ownBlock) (ha : winv.ownBlock = some g ∨ wx.heap.size ≤ g) :
    Tl w tp p n S R m S2 R2 k F (.slice (some ⟨g, 0, none⟩) (xs.length + 1) cap) fv wv (xs ++ [wv]) j (w'.setCell ⟨tp, 1, none⟩ (.slice (some ⟨g, 0, none⟩) (xs.length + 1) cap)) := by
  have hxT := h.below hx
  have hp := hxT.g.lt
  have htl := hxT.tlt
  have hob : (Value.slice (some ⟨g, 0, none⟩) (xs.length + 1) cap).ownBlock = some g := rfl
  have hgl := (ho.own.lt g rfl)
  have hgp : g ≠ p := by
    rcases ha with e | e
    · rintro rfl; exact hxT.ne.1 e
    · omega
  have hgt : g ≠ tp := by
    rcases ha with e | e
    · rintro rfl; exact hxT.ne.2.1 e
    · omega
  have hgb : ∀ b, b < wx.heap.size → winv.ownBlock ≠ some b → g ≠ b := fun b hb hn => by
    rcases ha with e | e
    · rintro rfl; exact hn e
    · omega
  have hset : ∀ b, b ≠ tp → (w'.setCell ⟨tp, 1, none⟩ (.slice (some ⟨g, 0, none⟩) (xs.length + 1) cap)).heap[b]? = w'.heap[b]? := fun b hb => Below.heap_setCell _ _ _ _ hb
  have hblk : ∀ b, b < wx.heap.size → winv.ownBlock ≠ some b → b ≠ tp → (w'.setCell ⟨tp, 1, none⟩ (.slice (some ⟨g, 0, none⟩) (xs.length + 1) cap)).heap[b]? = wx.heap[b]? := fun b h1 h2 h3 => (hset b h3).trans (hg.block b h1 (fun e => h2 e.symm))
  have hkb : ∀ sv L, (∀ b, sv.ownBlock = some b → b ≠ p ∧ b ≠ tp ∧ winv.ownBlock ≠ some b) → BoolsAt wx sv L → BoolsAt (w'.setCell ⟨tp, 1, none⟩ (.slice (some ⟨g, 0, none⟩) (xs.length + 1) cap)) sv L := fun sv L hs hb => hb.kept (fun b hb' hl => hblk b hl (hs b hb').2.2 (hs b hb').2.1) (by simpa using hg.size)
  have hnew : ∀ sv L, BoolsAt wx sv L → (∀ b, sv.ownBlock = some b → b ≠ p ∧ b ≠ tp ∧ winv.ownBlock ≠ some b) → ∀ b, sv.ownBlock = some b → b ≠ p ∧ b ≠ tp ∧ (Value.slice (some ⟨g, 0, none⟩) (xs.length + 1) cap).ownBlock ≠ some b := fun sv L hb hs b hsb => by
    obtain ⟨q1, q2, q3⟩ := hs b hsb
    refine ⟨q1, q2, fun e => ?_⟩
    rw [hob] at e
    injection e with e
    obtain ⟨b2, hb2, hl⟩ := hb.block
    rw [hsb] at hb2
    injection hb2 with hb2
    exact hgb b (by omega) q3 e
  refine ⟨⟨(hblk p hp hxT.ne.1 hxT.ne.2.2.1).trans hxT.g.blk⟩, hkb fv _ hxT.fs hxT.f, hkb wv _ hxT.ws hxT.b, hnew fv _ hxT.f hxT.fs, hnew wv _ hxT.b hxT.ws, ?_, ho.kept (fun b hb hl => hset b (fun e => hgt (by rw [hob] at hb; injection hb with hb; omega))) (by simp), ⟨?_, ?_, hxT.ne.2.2⟩, fun i hi => ?_, ?_⟩
  · have ht : w'.heap[tp]? = some (.cells #[.pointer (some ⟨p, 0, none⟩), winv] 59 (0, 0)) := (hg.block tp htl (fun e => hxT.ne.2.1 e.symm)).trans hxT.t
    simp [World.setCell, Array.getElem?_modify, ht]
  · rw [hob]; intro e; injection e with e; exact hgp e
  · rw [hob]; intro e; injection e with e; exact hgt e
  · rw [List.length_append, List.length_singleton] at hi
    by_cases hlt : i < xs.length
    · obtain ⟨sv, q1, q2, q3⟩ := hxT.lv i hlt
      exact ⟨sv, by rw [List.getElem?_append_left hlt]; exact q1, hkb sv _ q3 q2, hnew sv _ q2 q3⟩
    · obtain rfl : i = xs.length := by omega
      refine ⟨wv, by simp, ?_, hnew wv _ hxT.b hxT.ws⟩
      have := hkb wv _ hxT.ws hxT.b
      rw [show lev n m k F xs.length = lev n m k F j by rw [hj]]
      exact this
  · exact (hxT.old.grown hg hxT.old.size (fun b hb => (hxT.own.own.lt b hb).1)).setCell (by have := hxT.ne; simp; omega) _
theorem Tl.held {wx : World} (h : Tl w tp p n S R m S2 R2 k F winv fv wv xs j wr) (hx : Below wr.heap.size wr wx) (hg : wx.grownBy w' winv.ownBlock) : w'.cell? ⟨tp, 1, none⟩ = some winv ∧ w'.frozen? ⟨tp, 1, none⟩ = false := by
  have hxT := h.below hx
  have ht : w'.heap[tp]? = some (.cells #[.pointer (some ⟨p, 0, none⟩), winv] 59 (0, 0)) := (hg.block tp hxT.tlt (fun e => hxT.ne.2.1 e.symm)).trans hxT.t
  refine ⟨?_, ?_⟩
  · unfold World.cell?; rw [ht]; rfl
  · unfold World.frozen?; rw [ht]; rfl
/-- The talk that the formula needs. -/
theorem Tl.talk (h : Tl w tp p n S R m S2 R2 k (fitL (stOf n S R) (stOf m S2 R2) n m k) winv fv wv xs j wr) (hx : 0 < xs.length) : Talk wr tp p n S R m S2 R2 k xs.length := by
  obtain ⟨g, cap, rfl, h1, h2, h3, h4, h5⟩ := h.own.cells hx
  refine ⟨⟨fv, wv, h.g⟩, g, cap, h.t, h3, h4, h2, fun t ht => ?_⟩
  obtain ⟨sv, q1, q2, _⟩ := h.lv t ht
  exact ⟨sv, by rw [h5 t ht, q1], q2⟩
end
theorem Tl.first {w w1 : World} {p n m k B : Nat} {S R S2 R2 : ByteArray} {F : List Bool} (hq : PebS B w1 p n S R m S2 R2 k F F) (hB : w.heap.size ≤ B) (hp : w.heap.size ≤ p) (hb : Below w.heap.size w w1) :
    ∃ fv g c, w1.cell? ⟨p, 9, none⟩ = some (.slice (some ⟨g, 0, none⟩) F.length c) ∧ Tl w (w1.heap.size + 1) p n S R m S2 R2 k F (.slice (some ⟨w1.heap.size, 0, none⟩) 1 1) fv (.slice (some ⟨g, 0, none⟩) F.length c) [.slice (some ⟨g, 0, none⟩) F.length c] 0
      ((w1.alloc (.cells #[.slice (some ⟨g, 0, none⟩) F.length c] 54)).alloc (.cells #[.pointer (some ⟨p, 0, none⟩), .slice (some ⟨w1.heap.size, 0, none⟩) 1 1] 59)) := by
  obtain ⟨fv, wv, hG, hf, hw, hfp, hwp, hfB, hwB⟩ := hq
  have hw2 := hw
  obtain ⟨g, c, rfl, _, _, hgl, _⟩ := hw
  have hpl := hG.lt
  have ha : Below w1.heap.size w1 ((w1.alloc (.cells #[.slice (some ⟨g, 0, none⟩) F.length c] 54)).alloc (.cells #[.pointer (some ⟨p, 0, none⟩), .slice (some ⟨w1.heap.size, 0, none⟩) 1 1] 59)) := ((Below.refl _ _).alloc (Nat.le_refl _) _).alloc (by simp) _
  have hob : (Value.slice (some ⟨w1.heap.size, 0, none⟩) 1 1).ownBlock = some w1.heap.size := rfl
  refine ⟨fv, g, c, hG.cells.2.2.2.2.2.1, hG.below ha, hf.below ha, hw2.below ha, fun b hb' => ?_, fun b hb' => ?_, ?_, ⟨?_, by have := hb.size; simp; omega⟩, ⟨?_, ?_, by omega, hp, by have := hb.size; omega⟩, fun i hi => ?_, hb.trans (ha.mono hb.size)⟩
  · obtain ⟨b2, q1, q2⟩ := hf.block
    rw [hb'] at q1; injection q1 with q1
    refine ⟨fun e => hfp (by rw [hb', e]), by omega, ?_⟩
    rw [hob]; intro e; injection e with e; omega
  · obtain ⟨b2, q1, q2⟩ := hw2.block
    rw [hb'] at q1; injection q1 with q1
    refine ⟨fun e => hwp (by rw [hb', e]), by omega, ?_⟩
    rw [hob]; intro e; injection e with e; omega
  · have := heap_alloc_new (w1.alloc (.cells #[.slice (some ⟨g, 0, none⟩) F.length c] 54)) (.cells #[.pointer (some ⟨p, 0, none⟩), .slice (some ⟨w1.heap.size, 0, none⟩) 1 1] 59)
    rw [show (w1.alloc (.cells #[.slice (some ⟨g, 0, none⟩) F.length c] 54)).heap.size = w1.heap.size + 1 by simp] at this
    exact this
  · have h1 : (w1.alloc (.cells #[.slice (some ⟨g, 0, none⟩) F.length c] 54)).ownsRow w.heap.size 54 1 (.slice (some ⟨w1.heap.size, 0, none⟩) 1 1) 1 [.slice (some ⟨g, 0, none⟩) F.length c] := ⟨rfl, .inr ⟨w1.heap.size, 1, #[.slice (some ⟨g, 0, none⟩) F.length c], rfl, hb.size, heap_alloc_new w1 _, by decide, by decide, rfl, rfl⟩⟩
    have h2 : OwnV w.heap.size (w1.alloc (.cells #[.slice (some ⟨g, 0, none⟩) F.length c] 54)) (.slice (some ⟨w1.heap.size, 0, none⟩) 1 1) [.slice (some ⟨g, 0, none⟩) F.length c] := ⟨h1, by have := hb.size; simp; omega⟩
    exact (h2.below ((Below.refl _ _).alloc (Nat.le_refl _) _)).own
  · rw [hob]; intro e; injection e with e; omega
  · rw [hob]; intro e; injection e with e; omega
  · obtain rfl : i = 0 := by simpa using hi
    refine ⟨_, rfl, hw2.below ha, fun b hb' => ?_⟩
    obtain ⟨b2, q1, q2⟩ := hw2.block
    rw [hb'] at q1; injection q1 with q1
    refine ⟨fun e => hwp (by rw [hb', e]), by omega, ?_⟩
    rw [hob]; intro e; injection e with e; omega
theorem nat_of_validP {n : Int} {S R : ByteArray} (h : validB n S R = true) : ∃ m : Nat, n = (m : Int) := by
  have h0 := h
  unfold validB inB at h0
  simp at h0
  exact Int.eq_ofNat_of_zero_le (by omega)
/-- What PebbleFormula returns. -/
def pfRes (n : Int) (S R : ByteArray) (L : List Int) (m : Int) (S2 R2 : ByteArray) (M : List Int) (K : Int) : Value :=
  if pebRdB n S R L m S2 R2 M && decide (0 ≤ K) && decide (K ≤ 3) && !pwB (stOf n.toNat S R) (stOf m.toNat S2 R2) n.toNat m.toNat K.toNat L M then .tuple #[.string (pebF K.toNat (stOf n.toNat S R) (stOf m.toNat S2 R2) L M), .bool true] else .tuple #[.string ByteArray.empty, .bool false]
set_option maxHeartbeats 4000000 in
theorem implPebbleFormula_any (n m : Int) (S R S2 R2 : ByteArray) (L M : List Int) (K : Int) (v u : Value) (w : World) (hS : S.size ≤ 9223372036854775807) (hR : R.size ≤ 9223372036854775807) (hS2 : S2.size ≤ 9223372036854775807) (hR2 : R2.size ≤ 9223372036854775807) (hv : IntsAt w v L) (hu : IntsAt w u M) :
    Calls Tryz.prog 6 #[strV n S R, v, strV m S2 R2, u, .int .i64 K] w fun e w' => e = .returned (pfRes n S R L m S2 R2 M K) ∧ Below w.heap.size w w' := by
  have HT := Lib.hid (Bxp.new w n S R m S2 R2)
  unfold boxS at HT
  obtain ⟨c0, c1, c2, f0, f1, f2, hl1⟩ := HT.out.a.cells
  obtain ⟨d0, d1, d2, _, _, _, hl2⟩ := HT.out.b.cells
  have HV := Lib.hid (hv.below HT.out.old)
  have HU := Lib.hid (hu.below HT.out.old)
  have HVW := Lib.hid hv
  have HUW := Lib.hid hu
  cases hrd : pebRdB n S R L m S2 R2 M
  · have HRES : Hid (pfRes n S R L m S2 R2 M K = .tuple #[.string ByteArray.empty, .bool false]) := by unfold pfRes; rw [hrd]; rfl
    rw [HRES.out]
    have HNO := Lib.hid (newPebbles_no n S R m S2 R2 L M v u _ hS hR hS2 hR2 HV.out HU.out hrd)
    obtain ⟨a1, ca, rfl, _, _, _⟩ := hv.view
    obtain ⟨b1, cb, rfl, _, _, _⟩ := hu.view
    unfold strV at HNO
    unfold strV
    clear hrd hv hu
    go_enter Tryz.func6, Tryz.ntmps6
    go_wp2_with fail
    refine HNO.out.mono ?_; rintro e w1 ⟨rfl, hb⟩
    have HT3 := Lib.hid (HT.out.below hb)
    clear hb c0 c1 c2 f0 f1 f2 hl1 d0 d1 d2 hl2
    go_wp2_with fail
    go_ret2
    exact ⟨rfl, HT3.out.old⟩
  · obtain ⟨nn, rfl⟩ := nat_of_validP (show validB n S R = true by unfold pebRdB at hrd; simp only [Bool.and_eq_true] at hrd; exact hrd.1)
    obtain ⟨mm, rfl⟩ := nat_of_validP (show validB m S2 R2 = true by unfold pebRdB at hrd; simp only [Bool.and_eq_true] at hrd; exact hrd.2.1)
    have HNP := Lib.hid (newPebbles_any nn mm S R S2 R2 L M v u _ HV.out HU.out hrd)
    obtain ⟨hva, hvb, hrdy, hk1, hk3⟩ := ready_rdy hrd
    obtain ⟨a1, ca, rfl, _, _, _⟩ := hv.view
    obtain ⟨b1, cb, rfl, _, _, _⟩ := hu.view
    unfold strV at HNP
    unfold strV
    by_cases hK : 0 ≤ K ∧ K ≤ 3
    · obtain ⟨t, rfl⟩ := Int.eq_ofNat_of_zero_le hK.1
      have ht3 : t ≤ 3 := by omega
      obtain ⟨hn1, hn8, hSz, hRz, _, _⟩ := valid_is hva
      obtain ⟨hm1, hm8, hSz2, hRz2, _, _⟩ := valid_is hvb
      have HTN := Lib.hid (fun p F W w hQ hF hW => turn_any p nn mm L.length S R S2 R2 F W w hQ hn8 hm8 hn1 hm1 hk3 hF hW)
      have HST := Lib.hid (fun p fv wv v u w hG hv hu => stateOf_any p nn mm L.length S R S2 R2 fv wv v u L M w hG hv hu hrdy rfl hk3 hn8 hm8)
      have HFM := Lib.hid (fun tp cnt v u w hT ht hw => formula_any t ht3 tp nn mm L.length cnt S R S2 R2 L M v u w false hT hrdy rfl hk1 hk3 ⟨hn1, hn8, hSz, hRz⟩ ⟨hm1, hm8, hSz2, hRz2⟩ ht ht3 hw)
      have HLV := lev_at (a := stOf nn S R) (b := stOf mm S2 R2) (by omega) t hrdy
      have HFL : Hid ((fitL (stOf nn S R) (stOf mm S2 R2) nn mm L.length).length = (nn * mm + 1) ^ L.length) := fitL_len _ _ _ _ _
      have HSL : Hid (stP (nn * mm + 1) mm L M < (nn * mm + 1) ^ L.length) := stP_lt hrdy
      have hpow := pow_le (pairs_le hn8 hm8) hk3
      obtain ⟨RV, hrv⟩ : ∃ r, pfRes nn S R L mm S2 R2 M (t : Int) = r := ⟨_, rfl⟩
      have HRV1 : Hid (pwB (stOf nn S R) (stOf mm S2 R2) nn mm t L M = true → RV = .tuple #[.string ByteArray.empty, .bool false]) := fun h => by
        rw [← hrv]; unfold pfRes
        rw [Int.toNat_natCast, Int.toNat_natCast, Int.toNat_natCast, h]; simp
      have HRV2 : Hid (pwB (stOf nn S R) (stOf mm S2 R2) nn mm t L M = false → RV = .tuple #[.string (pebF t (stOf nn S R) (stOf mm S2 R2) L M), .bool true]) := fun h => by
        rw [← hrv]; unfold pfRes
        rw [Int.toNat_natCast, Int.toNat_natCast, Int.toNat_natCast, h, hrd, decide_eq_true hK.1, decide_eq_true hK.2]; rfl
      rw [hrv]
      obtain ⟨F, hF⟩ : ∃ F, fitL (stOf nn S R) (stOf mm S2 R2) nn mm L.length = F := ⟨_, rfl⟩
      have HFE := Lib.hid hF
      rw [hF] at HFL HLV
      have HLVH := Lib.hid HLV
      have hK0B : decide ((t : Int) < 0) = false := decide_eq_false (by omega)
      have hK3B : decide (3 < (t : Int)) = false := decide_eq_false (by omega)
      have hK0I : ¬ ((t : Int) < 0) := by omega
      have hK3I : ¬ (3 < (t : Int)) := by omega
      clear hva hvb hSz hRz hSz2 hRz2 hrdy hv hu hrd hrv hF HLV hK
      go_enter Tryz.func6, Tryz.ntmps6
      go_wp2_with fail
      refine HNP.out.mono ?_; rintro e w1 ⟨p, rfl, hq, hb, hp⟩
      have HT3 := Lib.hid (HT.out.below hb)
      rw [HFE.out] at hq
      obtain ⟨fv, wg, wc, h9, hTl⟩ := Tl.first (w := w) hq HT.out.old.size (Nat.le_trans HT.out.old.size hp) HT3.out.old
      have HTL := Lib.hid hTl
      clear hq hb hp c0 c1 c2 f0 f1 f2 hl1 d0 d1 d2 hl2 HT HNP
      obtain ⟨W, hW⟩ : ∃ W, (w1.alloc (.cells #[.slice (some ⟨wg, 0, none⟩) F.length wc] 54)).alloc (.cells #[.pointer (some ⟨p, 0, none⟩), .slice (some ⟨w1.heap.size, 0, none⟩) 1 1] 59) = W := ⟨_, rfl⟩
      rw [hW] at HTL
      have HW := Lib.hid hW
      obtain ⟨tp, htp⟩ : ∃ tp, w1.heap.size + 1 = tp := ⟨_, rfl⟩
      have HTP := Lib.hid htp
      rw [htp] at HTL
      clear hTl hW htp
      go_upto_region 5 with fail
      rw [HW.out, HTP.out]
      go_wp2_with fail
      go_loopw [38] (fun q wr => ∃ j : Nat, j ≤ t ∧ q = .int .i64 (j : Int) ∧ Hid (∃ winv fv wv xs, xs.length = j + 1 ∧ Tl w tp p nn S R mm S2 R2 L.length F winv fv wv xs j wr)) (fun q _ => t - (intOf q).toNat)
      case atStart => exact ⟨0, by omega, rfl, _, _, _, _, rfl, HTL.out⟩
      case round =>
        clear HTL HW HTP h9 HT3
        obtain ⟨j, hj, rfl, HX⟩ := hrel
        obtain ⟨winv, fv, wv, xs, hxl, hTl⟩ := HX.out
        have HT := Lib.hid hTl
        have HXL := Lib.hid hxl
        clear HX hTl hxl
        by_cases hlt : j < t
        · have hjI : (j : Int) < (t : Int) := by omega
          have HT1 := Lib.hid (HTN.out p F (lev nn mm L.length F j) wr ⟨fv, wv, HT.out.g, HT.out.f, HT.out.b, fun e => (HT.out.fs _ e).1 rfl, fun e => (HT.out.ws _ e).1 rfl⟩ HFL.out (by rw [lev_len]; exact HFL.out))
          go_wp2_with fail
          refine HT1.out.mono ?_; rintro e w3 htu
          obtain ⟨wv2, hTl2⟩ := HT.out.turn htu
          obtain ⟨rfl, _⟩ := htu
          have HT2 := Lib.hid hTl2
          have hwb := hTl2.b
          obtain ⟨g2, c2, rfl, _, _, _, _⟩ := hwb
          clear hTl2 HT1 HT
          obtain ⟨y0, y1, y2, y3⟩ := HT2.out.cells
          have HXL2 : Hid (xs.length ≤ 1000) := by have := HXL.out; show _ ≤ _; omega
          have htl := HT2.out.tlt
          have hplt := HT2.out.g.lt
          have hpt := HT2.out.ne.2.2.1
          generalize (lev nn mm L.length F (j + 1)).length = ln at *
          go_upto_region 8 with fail
          go_region_law (first
            | (refine step_ownV (HT2.out.below (Below.refl _ _).drew).own HXL2 rfl (.tmp 46) (.tmp 51) rfl (.slice (some ⟨g2, 0, none⟩) ln c2) rfl _ rfl rfl rfl ?_; intro g cap w4 ho hg ha hgl; have HP := Lib.hid (HT2.out.push HXL.out ((Below.refl _ _).drew) ho hg ha); obtain ⟨z0, z1⟩ := HT2.out.held ((Below.refl _ _).drew) hg; clear ho hg ha))
          all_goals
            go_wp2_with fail
            go_roundw
            case rel => exact ⟨j + 1, by omega, by go_num, _, _, _, _, by rw [List.length_append, List.length_singleton, HXL.out], HP.out⟩
            case measure => simp [intOf]; omega
        · obtain rfl : j = t := by omega
          obtain ⟨g, cap, rfl, k1, k2, k3, k4, k5⟩ := HT.out.own.cells (by have := HXL.out; omega)
          obtain ⟨sv, q1, ⟨sg, sc, rfl, s1, s2, s3, s4⟩, _⟩ := HT.out.lv j (by have := HXL.out; omega)
          have x1 := (k5 j (by have := HXL.out; omega)).trans q1
          obtain ⟨y0, y1, y2, y3⟩ := HT.out.cells
          have hst : stP (nn * mm + 1) mm L M < (lev nn mm L.length F j).length := by rw [lev_len, HFL.out]; exact HSL.out
          have x2 := s4 _ hst
          rw [HLVH.out] at x2
          have j1 := fun (z : Since wr) => HST.out p fv wv _ _ z.w (HT.out.g.below z.below) (HVW.out.below (HT.out.old.trans (z.below.mono HT.out.old.size))) (HUW.out.below (HT.out.old.trans (z.below.mono HT.out.old.size)))
          have hx0 : 0 < xs.length := by have := HXL.out; omega
          have HFM1 := Lib.hid (fun (h : pwB (stOf nn S R) (stOf mm S2 R2) nn mm j L M = false) w' (hb : Below wr.heap.size wr w') => HFM.out tp xs.length _ _ w' ⟨⟨p, (by have h9 := HT.out.below hb; rw [← HFE.out] at h9; exact h9.talk hx0)⟩, HVW.out.below (HT.out.old.trans (hb.mono HT.out.old.size)), HUW.out.below (HT.out.old.trans (hb.mono HT.out.old.size))⟩ (by have := HXL.out; omega) h)
          have hjl : (j : Int) < (xs.length : Int) := by have := HXL.out; omega
          have hjl2 : j < xs.length := by omega
          have hln : (lev nn mm L.length F j).length ≤ 274625 := by rw [lev_len, HFL.out]; exact hpow
          generalize stP (nn * mm + 1) mm L M = st at *
          generalize (lev nn mm L.length F j).length = ln at *
          generalize pwB (stOf nn S R) (stOf mm S2 R2) nn mm j L M = rb at *
          have J1 := Lib.hid j1
          have f0 := fun s => Since.cell y0 s
          have f1 := fun s => Since.cell y1 s
          have f2 := fun s => Since.cell x1 s
          have f3 := fun s => Since.cell x2 s
          have hstI : (st : Int) < (ln : Int) := by omega
          unfold maxLen at k4 s2
          have HO := Lib.hid HT.out.old
          clear s4 k5 q1 j1
          go_wp2_with fail
          refine wp_region_since (by kernel_rfl) (by kernel_rfl) ?_
          repeat (go_big_quiet_step ((with_reducible exact Since.call (J1.out _))))
          refine wpQuiet_nil ?_
          intro w9 hb9
          have HO9 := Lib.hid (HO.out.trans (hb9.mono HO.out.size))
          have HB9 := Lib.hid hb9
          clear hb9 f0 f1 f2 f3
          cases rb
          · have HRV := Lib.hid (HRV2.out rfl)
            have HF9 := Lib.hid (HFM1.out rfl w9 HB9.out)
            go_wp2_with fail
            refine HF9.out.mono ?_; rintro e w10 ⟨rfl, hb10⟩
            have HO10 := Lib.hid (HO9.out.trans (hb10.mono HO9.out.size))
            clear hb10
            go_wp2_with fail
            go_ret2
            exact ⟨by rw [HRV.out]; rfl, HO10.out⟩
          · have HRV := Lib.hid (HRV1.out rfl)
            go_wp2_with fail
            go_ret2
            exact ⟨by rw [HRV.out]; rfl, HO9.out⟩
    · have HRES : Hid (pfRes nn S R L mm S2 R2 M K = .tuple #[.string ByteArray.empty, .bool false]) := by
        have : (decide (0 ≤ K) && decide (K ≤ 3)) = false := by
          rw [Bool.and_eq_false_iff, decide_eq_false_iff_not, decide_eq_false_iff_not]; omega
        unfold pfRes
        rw [hrd, Bool.true_and, this]; rfl
      rw [HRES.out]
      clear hrd hva hvb hrdy hv hu
      by_cases hK0 : K < 0
      · have hKB : decide (K < 0) = true := decide_eq_true hK0
        go_enter Tryz.func6, Tryz.ntmps6
        go_wp2_with fail
        refine HNP.out.mono ?_; rintro e w1 ⟨p, rfl, hq, hb, hp⟩
        have HT3 := Lib.hid (HT.out.below hb)
        clear hq hb c0 c1 c2 f0 f1 f2 hl1 d0 d1 d2 hl2
        go_wp2_with fail
        go_ret2
        exact ⟨rfl, HT3.out.old⟩
      · have hK3 : 3 < K := by omega
        have hKB : decide (K < 0) = false := decide_eq_false hK0
        have hK3B : decide (3 < K) = true := decide_eq_true hK3
        go_enter Tryz.func6, Tryz.ntmps6
        go_wp2_with fail
        refine HNP.out.mono ?_; rintro e w1 ⟨p, rfl, hq, hb, hp⟩
        have HT3 := Lib.hid (HT.out.below hb)
        clear hq hb c0 c1 c2 f0 f1 f2 hl1 d0 d1 d2 hl2
        go_wp2_with fail
        go_ret2
        exact ⟨rfl, HT3.out.old⟩
end Go.Proofs.YtnhlhjehocngcaaGreatDoor

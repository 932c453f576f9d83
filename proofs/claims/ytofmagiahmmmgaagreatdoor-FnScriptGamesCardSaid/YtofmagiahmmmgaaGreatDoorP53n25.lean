/- Contracts of the program's functions and what they compute: part 25. Conditions: those that each theorem states. -/
import Derived.Test.YtofmagiahmmmgaaGreatDoorP53n16
import Derived.Test.YtofmagiahmmmgaaGreatDoorP53n1
import Derived.Test.YtofmagiahmmmgaaGreatDoorP53n8
import Derived.Maps.AppendAt
import Derived.RangeFuncBox
namespace Go.Proofs.YtofmagiahmmmgaaGreatDoor
open Go.RowKit
set_option linter.unusedVariables false
set_option maxRecDepth 100000
theorem ret_str {s u : ByteArray} (h : s = u) : Ending.returned (.string s) = .returned (.string u) := by rw [h]
end Go.Proofs.YtofmagiahmmmgaaGreatDoor

namespace Go.Proofs.YtofmagiahmmmgaaGreatDoor
open Go.RowKit
set_option linter.unusedVariables false
set_option maxRecDepth 100000
/-- A structure's size and texts. -/
structure Szs (n : Nat) (S R : ByteArray) : Prop where
  n1 : 1 ≤ n
  n8 : n ≤ 8
  s : S.size = n
  r : R.size = n * n
theorem szF_le {t : Nat} (h : t ≤ 2) : szF t ≤ 355 := by
  rcases (show t = 0 ∨ t = 1 ∨ t = 2 by omega) with rfl | rfl | rfl <;> decide
end Go.Proofs.YtofmagiahmmmgaaGreatDoor

namespace Go.Proofs.YtofmagiahmmmgaaGreatDoor
open Go.RowKit
set_option linter.unusedVariables false
/-- The slice v of the world w holds the texts L. -/
def TextsAt (w : World) (v : Value) (L : List ByteArray) : Prop :=
  (v = .slice none 0 0 ∧ L = []) ∨ ∃ g o cap, v = .slice (some ⟨g, o, none⟩) L.length cap ∧ L.length ≤ cap ∧ cap ≤ maxLen ∧ g < w.heap.size ∧ ∀ j, j < L.length → w.cell? ⟨g, o + j, none⟩ = some (.string (L.getD j ByteArray.empty))
theorem TextsAt.view {w : World} {v : Value} {L : List ByteArray} (h : TextsAt w v L) : ∃ (a : Option Addr) (cap : Nat), v = .slice a L.length cap ∧ L.length ≤ cap ∧ cap ≤ maxLen ∧
    (0 < L.length → ∃ g o, a = some ⟨g, o, none⟩ ∧ g < w.heap.size ∧ ∀ j, j < L.length → w.cell? ⟨g, o + j, none⟩ = some (.string (L.getD j ByteArray.empty))) := by
  rcases h with ⟨rfl, rfl⟩ | ⟨g, o, cap, rfl, h1, h2, h3, h4⟩
  · exact ⟨none, 0, rfl, Nat.le_refl _, by decide, fun h => absurd h (by simp)⟩
  · exact ⟨_, cap, rfl, h1, h2, fun _ => ⟨g, o, rfl, h3, h4⟩⟩
theorem TextsAt.kept {w w' : World} {v : Value} {L : List ByteArray} (h : TextsAt w v L) (hb : ∀ k, v.ownBlock = some k → k < w.heap.size → w'.heap[k]? = w.heap[k]?) (hs : w.heap.size ≤ w'.heap.size) : TextsAt w' v L := by
  rcases h with h | ⟨g, o, cap, rfl, h1, h2, hg, hc⟩
  · exact .inl h
  · exact .inr ⟨g, o, cap, rfl, h1, h2, by omega, fun j hj => (World.cell?_of_block (w := w) (hb g rfl hg)).trans (hc j hj)⟩
theorem TextsAt.below {w w' : World} {v : Value} {L : List ByteArray} (h : TextsAt w v L) (hb : Below w.heap.size w w') : TextsAt w' v L := h.kept (fun k _ hk => hb.block k hk) hb.size
theorem TextsAt.off {F : Nat → Prop} {w w' : World} {v : Value} {L : List ByteArray} (h : TextsAt w v L) (hb : Off F w w') (hF : ∀ k, v.ownBlock = some k → ¬ F k) : TextsAt w' v L := h.kept (fun k hk hl => hb.block k hl (hF k hk)) hb.size
theorem TextsAt.nil (w : World) : TextsAt w (.slice none 0 0) [] := .inl ⟨rfl, rfl⟩
/-- The first i texts. -/
theorem TextsAt.take {w : World} {a : Option Addr} {cap : Nat} {L : List ByteArray} (h : TextsAt w (.slice a L.length cap) L) (i : Nat) (hi : i ≤ L.length) (h0 : 0 < L.length) : TextsAt w (.slice a i cap) (L.take i) := by
  have hl : (L.take i).length = i := by rw [List.length_take]; omega
  rcases h with ⟨_, rfl⟩ | ⟨g, o, cap', he, h1, h2, hg, hc⟩
  · simp at h0
  · injection he with e1 e2 e3
    subst e1; subst e3
    refine .inr ⟨g, o, cap, by rw [hl], by omega, h2, hg, fun j hj => ?_⟩
    rw [hl] at hj
    rw [hc j (by omega)]
    simp [hj]
/-- The slice v of the world w is the call's own since block B, and holds the texts L. -/
structure OwnS (B : Nat) (w : World) (v : Value) (L : List ByteArray) : Prop where
  own : w.ownsRow B 9 1 v L.length (L.map Value.string)
  ne : v ≠ .slice none 0 0
  low : B ≤ w.heap.size
theorem OwnS.texts {B : Nat} {w : World} {v : Value} {L : List ByteArray} (h : OwnS B w v L) : TextsAt w v L := by
  rcases h.own.2 with ⟨h1, h2⟩ | ⟨g, cap, cur, rfl, hb, hg, hnc, hcm, hcs, htake⟩
  · exact absurd h1 h.ne
  · refine .inr ⟨g, 0, cap, rfl, hnc, hcm, (h.own.lt g rfl).2, fun j hj => ?_⟩
    rw [Nat.zero_add, h.own.cellAt j (by omega)]
    simp [hj]
theorem OwnS.cells {B : Nat} {w : World} {v : Value} {L : List ByteArray} (h : OwnS B w v L) :
    ∃ g cap, v = .slice (some ⟨g, 0, none⟩) L.length cap ∧ B ≤ g ∧ g < w.heap.size ∧ L.length ≤ cap ∧ cap ≤ maxLen ∧ ∀ j, j < L.length → w.cell? ⟨g, j, none⟩ = some (.string (L.getD j ByteArray.empty)) := by
  rcases h.own.2 with ⟨h1, h2⟩ | ⟨g, cap, cur, rfl, hb, hg, hnc, hcm, hcs, htake⟩
  · exact absurd h1 h.ne
  · refine ⟨g, cap, rfl, hb, (h.own.lt g rfl).2, hnc, hcm, fun j hj => ?_⟩
    rw [h.own.cellAt j (by omega)]
    simp [hj]
theorem OwnS.lit0 (B : Nat) (w : World) (hB : B ≤ w.heap.size) : OwnS B (w.alloc (.cells #[] 9)) (.slice (some ⟨w.heap.size, 0, none⟩) 0 0) [] :=
  ⟨World.ownsRow_made w #[] 0 hB (by decide) rfl, by simp, by simp; omega⟩
theorem OwnS.kept {B : Nat} {w w' : World} {v : Value} {L : List ByteArray} (h : OwnS B w v L) (hb : ∀ k, v.ownBlock = some k → k < w.heap.size → w'.heap[k]? = w.heap[k]?) (hs : w.heap.size ≤ w'.heap.size) : OwnS B w' v L := by
  refine ⟨⟨h.own.1, ?_⟩, h.ne, Nat.le_trans h.low hs⟩
  rcases h.own.2 with hn | ⟨g, cap, cur, rfl, hb', hgg, rest⟩
  · exact .inl hn
  · exact .inr ⟨g, cap, cur, rfl, hb', by rw [hb g rfl (Array.getElem?_eq_some_iff.1 hgg).1]; exact hgg, rest⟩
theorem OwnS.below {B : Nat} {w w' : World} {v : Value} {L : List ByteArray} (h : OwnS B w v L) (hb : Below w.heap.size w w') : OwnS B w' v L := h.kept (fun k _ hk => hb.block k hk) hb.size
theorem OwnS.off {B : Nat} {F : Nat → Prop} {w w' : World} {v : Value} {L : List ByteArray} (h : OwnS B w v L) (hb : Off F w w') (hF : ∀ k, v.ownBlock = some k → ¬ F k) : OwnS B w' v L := h.kept (fun k hk hl => hb.block k hl (hF k hk)) hb.size
theorem OwnS.alloc {B : Nat} {w : World} {v : Value} {L : List ByteArray} (h : OwnS B w v L) (o : Obj) : OwnS B (w.alloc o) v L := h.below ((Below.refl _ _).alloc (Nat.le_refl _) _)
theorem txtInfo9 : (Tryz.prog.info? 9).map (fun i => (i.zero, i.size, i.bytes)) = some (some (.string ByteArray.empty), 1, 16) := by kernel_rfl
/-- The texts of a slice are appended to a slice of the call's own. -/
theorem wpList_ownSAll {ops : Array Oper} {rest : List Oper} {o : Oper} {a : Act} {Q : Exit → Act → World → Prop} {B : Nat} {w : World} {v u : Value} {L M : List ByteArray}
    (hown : OwnS B w v L) (hM : TextsAt w u M) (hL : L.length + M.length ≤ 2000000) (hgd : o.guard = none) (s x : Operand)
    (ho : o.op = .call { callee := .builtin .append, args := #[s, x], argTypes := #[59, 59] })
    (hs : a.eval s = v) (hx : a.eval x = u)
    (h : ∀ v' w', OwnS B w' v' (L ++ M) → w.grownBy w' v.ownBlock → (v'.ownBlock = v.ownBlock ∨ ∃ k, v'.ownBlock = some k ∧ w.heap.size ≤ k) → wpList Tryz.prog ops Q rest (a.put o.dst v') w') :
    wpList Tryz.prog ops Q (o :: rest) a w := by
  obtain ⟨i, hi, hz, h1, h2⟩ := info_parts txtInfo9
  rcases hM with ⟨rfl, rfl⟩ | ⟨g, off, cap, rfl, m1, m2, mg, mc⟩
  · refine wpList_plain hgd fun K hK' => ?_
    have hrun := run_append_owned_none (P := Tryz.prog) w B 59 o.type 9 i 1 Tryz.underlying59 hi v L.length _ hown.own
    unfold Oper.wp
    simp [execOp, ho, resolve, invoke, builtin, hs, hx, hrun, Result.andThen]
    exact hK' _ _ (h v w (by simpa using hown) (World.grownBy.refl _ _) (.inl rfl))
  · refine wpList_append_own_at _ hgd s x 59 ho B 9 i (.string ByteArray.empty) 1 16 Tryz.underlying59 hi hz h1 h2 rfl (by decide) v L.length _ hs hown.own ⟨g, off, none⟩ M.length cap (M.map Value.string) hx (by simp) ?_ ?_ ?_ ?_ hown.low ?_
    · intro j u hj
      have hj' : j < M.length := by
        have := (List.getElem?_eq_some_iff.1 hj).1
        simpa using this
      have e : (⟨g, off, none⟩ : Addr).add j = ⟨g, off + j, none⟩ := by unfold Addr.add; split <;> simp_all
      rw [e, mc j hj']
      simpa [hj'] using hj
    · intro u hu
      obtain ⟨n, _, rfl⟩ := List.mem_map.1 hu
      rfl
    · unfold maxLen; omega
    · omega
    · intro v' w' h2 h3 h4 h5
      refine h v' w' ⟨?_, ?_, ?_⟩ h3 (h5.imp_right fun e => ⟨_, e, Nat.le_refl _⟩)
      · simpa using h2
      · intro e
        exact hown.ne (h4.1 e).1
      · have := h3.size
        have := hown.low
        omega
end Go.Proofs.YtofmagiahmmmgaaGreatDoor
namespace Go.Proofs.YtofmagiahmmmgaaGreatDoor
open Go.RowKit
set_option linter.unusedVariables false
theorem TextsAt.two (w : World) (x y : ByteArray) : TextsAt (w.alloc (.cells #[.string x, .string y] 9)) (.slice (some ⟨w.heap.size, 0, none⟩) 2 2) [x, y] := by
  refine .inr ⟨w.heap.size, 0, 2, rfl, Nat.le_refl _, by decide, by simp, fun j hj => ?_⟩
  have hj2 : j = 0 ∨ j = 1 := by simp at hj; omega
  rcases hj2 with rfl | rfl <;> simp
theorem TextsAt.one (w : World) (x : ByteArray) : TextsAt (w.alloc (.cells #[.string x] 9)) (.slice (some ⟨w.heap.size, 0, none⟩) 1 1) [x] := by
  refine .inr ⟨w.heap.size, 0, 1, rfl, Nat.le_refl _, by decide, by simp, fun j hj => ?_⟩
  have hj2 : j = 0 := by simpa using hj
  subst hj2; simp
theorem OwnS.block {B : Nat} {w : World} {v : Value} {L : List ByteArray} (h : OwnS B w v L) : ∃ k, v.ownBlock = some k ∧ B ≤ k ∧ k < w.heap.size := by
  obtain ⟨g, cap, rfl, h1, h2, _⟩ := h.cells
  exact ⟨g, rfl, h1, h2⟩
theorem OwnS.grown {B : Nat} {w w' : World} {v v2 : Value} {L : List ByteArray} (h : OwnS B w v L) (hg : w.grownBy w' v2.ownBlock) (hne : v.ownBlock ≠ v2.ownBlock) : OwnS B w' v L :=
  h.kept (fun k hk hl => hg.block k hl (by rw [← hk]; exact hne)) hg.size
theorem OwnS.lit (B : Nat) (w : World) (b : Nat) (hb : w.heap.size = b) (hB : B ≤ w.heap.size) : OwnS B (w.alloc (.cells #[] 9)) (.slice (some ⟨b, 0, none⟩) 0 0) [] := by
  subst hb
  exact OwnS.lit0 B w hB
end Go.Proofs.YtofmagiahmmmgaaGreatDoor

namespace Go.Proofs.YtofmagiahmmmgaaGreatDoor
open Go.RowKit
set_option linter.unusedVariables false
set_option maxRecDepth 100000
/-- Facts that are being listed: the texts in the variable p, whether they are true in the next one. -/
structure Fx (w0 w : World) (p : Nat) (T : List ByteArray) (B : List Bool) : Prop where
  t : ∃ v, OwnS w0.heap.size w v T ∧ Boxed w p 59 v
  b : ∃ v, OwnL w0.heap.size w v B ∧ Boxed w (p + 1) 54 v
  old : Below w0.heap.size w0 w
  lo : w0.heap.size ≤ p
theorem boxed_below {w w' : World} {p : Nat} {t : TypeId} {v : Value} (h : Boxed w p t v) (hb : Below w.heap.size w w') : Boxed w' p t v := (hb.block p h.lt).trans h
theorem Fx.below {w0 w w' : World} {p : Nat} {T : List ByteArray} {B : List Bool} (h : Fx w0 w p T B) (hb : Below w.heap.size w w') : Fx w0 w' p T B := by
  obtain ⟨⟨vt, ht, bt⟩, ⟨vb, hb2, bb⟩, ho, hlo⟩ := h
  exact ⟨⟨vt, ht.below hb, boxed_below bt hb⟩, ⟨vb, hb2.below hb, boxed_below bb hb⟩, ho.trans (hb.mono ho.size), hlo⟩
theorem Fx.text {w0 w w1 : World} {p : Nat} {T T2 : List ByteArray} {B : List Bool} {vt v1 : Value} {o : Obj} (h : Fx w0 w p T B) (ht : OwnS w0.heap.size w vt T) (bt : Boxed w p 59 vt) (ho : OwnS w0.heap.size w1 v1 T2) (hg : (w.alloc o).grownBy w1 vt.ownBlock) :
    Boxed w1 p 59 vt ∧ Fx w0 (w1.setCell ⟨p, 0, none⟩ v1) p T2 B := by
  obtain ⟨_, ⟨vb, hb, bb⟩, hold, hlo⟩ := h
  have hrow := fun k hk => (ht.own.lt k hk)
  have b1 : Boxed w1 p 59 vt := (bt.alloc o).kept hg (bt.not_row (by decide) ht.own)
  have hne : vb.ownBlock ≠ vt.ownBlock ∨ vb.ownBlock = none := by
    rcases hb.own.2 with ⟨rfl, _⟩ | ⟨g, cap, cur, rfl, _, hgg, _⟩
    · exact .inr rfl
    · refine .inl fun e => ?_
      rcases ht.own.2 with ⟨rfl, _⟩ | ⟨g', cap', cur', rfl, _, hgg', _⟩
      · cases e
      · have e : g = g' := by simpa [Value.ownBlock] using e
        subst e
        rw [hgg] at hgg'
        injection hgg' with hgg'
        injection hgg' with _ h2 _
        revert h2
        decide
  have hal : Below w.heap.size w (w.alloc o) := (Below.refl _ _).alloc (Nat.le_refl _) _
  have hb1 : OwnL w0.heap.size w1 vb B := by
    refine (hb.below hal).kept (fun k hk hl => hg.block k hl (fun e => ?_)) hg.size
    rcases hne with hne | hne
    · exact hne (hk.trans e)
    · rw [hne] at hk; cases hk
  have bb1 : Boxed w1 (p + 1) 54 vb := (bb.alloc o).kept hg (bb.not_row (by decide) ht.own)
  have n1 := b1.not_row (e := 9) (by decide) ho.own
  have n2 := b1.not_row (e := 4) (by decide) hb1.own
  refine ⟨b1, ⟨v1, ?_, b1.set v1⟩, ⟨vb, ?_, bb1.kept (grownBy_setCell' w1 p v1) (fun e => by have := Option.some.inj e; omega)⟩, ?_, hlo⟩
  · exact ho.kept (fun k hk hl => Below.heap_setCell _ _ _ _ (fun e => n1 (by rw [hk, e]))) (by simp [World.setCell])
  · exact hb1.kept (fun k hk hl => Below.heap_setCell _ _ _ _ (fun e => n2 (by rw [hk, e]))) (by simp [World.setCell])
  · refine ((hold.alloc hold.size o).grown hg (by have := hold.size; simp; omega) fun k hk => (hrow k hk).1).trans ?_
    exact ⟨rfl, rfl, rfl, by simp [World.setCell], fun k hk => Below.heap_setCell _ _ _ _ (by show k ≠ p; omega)⟩
theorem Fx.bool {w0 w w1 : World} {p : Nat} {T : List ByteArray} {B B2 : List Bool} {vb v1 : Value} (h : Fx w0 w p T B) (hb : OwnL w0.heap.size w vb B) (bb : Boxed w (p + 1) 54 vb) (ho : OwnL w0.heap.size w1 v1 B2) (hg : w.grownBy w1 vb.ownBlock) :
    Boxed w1 (p + 1) 54 vb ∧ Fx w0 (w1.setCell ⟨p + 1, 0, none⟩ v1) p T B2 := by
  obtain ⟨⟨vt, ht, bt⟩, _, hold, hlo⟩ := h
  have hrow := fun k hk => (hb.own.lt k hk)
  have b1 : Boxed w1 (p + 1) 54 vb := bb.kept hg (bb.not_row (by decide) hb.own)
  have hne : vt.ownBlock ≠ vb.ownBlock ∨ vt.ownBlock = none := by
    rcases ht.own.2 with ⟨rfl, _⟩ | ⟨g, cap, cur, rfl, _, hgg, _⟩
    · exact .inr rfl
    · refine .inl fun e => ?_
      rcases hb.own.2 with ⟨rfl, _⟩ | ⟨g', cap', cur', rfl, _, hgg', _⟩
      · cases e
      · have e : g = g' := by simpa [Value.ownBlock] using e
        subst e
        rw [hgg] at hgg'
        injection hgg' with hgg'
        injection hgg' with _ h2 _
        revert h2
        decide
  have ht1 : OwnS w0.heap.size w1 vt T := by
    refine ht.kept (fun k hk hl => hg.block k hl (fun e => ?_)) hg.size
    rcases hne with hne | hne
    · exact hne (hk.trans e)
    · rw [hne] at hk; cases hk
  have bt1 : Boxed w1 p 59 vt := bt.kept hg (bt.not_row (by decide) hb.own)
  have n1 := b1.not_row (e := 9) (by decide) ht1.own
  have n2 := b1.not_row (e := 4) (by decide) ho.own
  refine ⟨b1, ⟨vt, ?_, bt1.kept (grownBy_setCell' w1 (p + 1) v1) (fun e => by have := Option.some.inj e; omega)⟩, ⟨v1, ?_, b1.set v1⟩, ?_, hlo⟩
  · exact ht1.kept (fun k hk hl => Below.heap_setCell _ _ _ _ (fun e => n1 (by rw [hk, e]))) (by simp [World.setCell])
  · exact ho.kept (fun k hk hl => Below.heap_setCell _ _ _ _ (fun e => n2 (by rw [hk, e]))) (by simp [World.setCell])
  · refine (hold.grown hg hold.size fun k hk => (hrow k hk).1).trans ?_
    exact ⟨rfl, rfl, rfl, by simp [World.setCell], fun k hk => Below.heap_setCell _ _ _ _ (by show k ≠ p + 1; omega)⟩
set_option maxHeartbeats 1000000 in
theorem fact_any (w0 : World) (p : Nat) (T : List ByteArray) (B : List Bool) (s : ByteArray) (c : Bool) (w : World) (h : Fx w0 w p T B) (hT : T.length ≤ 1000) (hB : B.length ≤ 1000) :
    Calls Tryz.prog 157 #[.string s, .bool c, .pointer (some ⟨p, 0, none⟩), .pointer (some ⟨p + 1, 0, none⟩)] w fun e w' => e = .returned (.tuple #[]) ∧ Fx w0 w' p (T ++ [s]) (B ++ [c]) := by
  have HF := Lib.hid h
  obtain ⟨⟨vt, ht, bt⟩, _, _, _⟩ := h
  have HLT : Hid (T.length + [s].length ≤ 2000000) := by show _ + 1 ≤ _; omega
  have HLB : Hid (B.length ≤ 2000000) := by show _ ≤ _; omega
  have HS := Lib.hid ht
  have HB1 := Lib.hid bt
  have d1 := bt.cell
  clear ht bt
  go_enter Tryz.func157, Tryz.ntmps157
  go_upto_region 1 with (first | (at_builtin; refine wpList_ownSAll (M := [s]) (HS.out.below ((Below.refl _ _).alloc (Nat.le_refl _) _)) (TextsAt.one w s) HLT.out rfl (.tmp 6) (.tmp 8) rfl rfl rfl ?_; intro v1 w1 ho hg hat; obtain ⟨g1, q1, rfl, _⟩ := ho.cells; have HX := Lib.hid (HF.out.text HS.out HB1.out ho hg); have d2 := HX.out.1.cell; have d3 := HX.out.1.frozen; clear ho hg hat) | fail)
  have HF2 := Lib.hid HX.out.2
  rw [show (T ++ [s]).length = T.length + 1 by simp] at HF2
  obtain ⟨W, hW⟩ : ∃ W, w1.setCell ⟨p, 0, none⟩ (.slice (some ⟨g1, 0, none⟩) (T.length + 1) q1) = W := ⟨_, rfl⟩
  rw [hW] at HF2 ⊢
  clear d1 d2 d3 HX HF HS HB1 hW
  obtain ⟨_, ⟨vb, hb, bb⟩, _, _⟩ := HF2.out
  have HS := Lib.hid (hb.below ((Below.refl W.heap.size W).alloc (Nat.le_refl _) (.cells #[.bool c] 4)))
  have HS2 := Lib.hid hb
  have HB2 := Lib.hid bb
  have d1 := bb.cell
  clear hb bb
  go_wp2_with (first | (at_builtin; refine wpList_ownL1 HS2.out HLB.out rfl (.tmp 10) (.tmp 12) rfl c _ rfl rfl rfl ?_; intro v2 w2 ho hg; obtain ⟨g2, q2, rfl, _⟩ := ho.cells (by simp); have HX := Lib.hid (HF2.out.bool HS2.out HB2.out ho hg); have d2 := HX.out.1.cell; have d3 := HX.out.1.frozen; clear ho hg) | fail)
  have HF3 := Lib.hid HX.out.2
  rw [show (B ++ [c]).length = B.length + 1 by simp] at HF3
  go_end0
  exact ⟨rfl, HF3.out⟩
end Go.Proofs.YtofmagiahmmmgaaGreatDoor

/- Slices of texts in memory, and texts that a call builds. No condition but small lengths. -/
import Derived.Test.YtadgiknnejjplaaDoorFoot
import Derived.Maps.AppendAt
namespace Go.Proofs.YtadgiknnejjplaaDoor
open Go.RowKit
set_option linter.unusedVariables false

/-- The slice v of the world w holds the texts L. -/
def TextsAt (w : World) (v : Value) (L : List ByteArray) : Prop :=
  (v = .slice none 0 0 ∧ L = []) ∨ ∃ g o cap, v = .slice (some ⟨g, o, none⟩) L.length cap ∧ L.length ≤ cap ∧ cap ≤ maxLen ∧ g < w.heap.size ∧ ∀ j, j < L.length → w.cell? ⟨g, o + j, none⟩ = some (.string (L.getD j ByteArray.empty))
theorem TextsAt.view {w : World} {v : Value} {L : List ByteArray} (h : TextsAt w v L) : ∃ (a : Option Addr) (cap : Nat), v = .slice a L.length cap ∧ L.length ≤ cap ∧ cap ≤ maxLen ∧
    (0 < L.length → ∃ g o, a = some ⟨g, o, none⟩ ∧ g < w.heap.size ∧ ∀ j, j < L.length → w.cell? ⟨g, o + j, none⟩ = some (.string (L.getD j ByteArray.empty))) := by
  rcases h with ⟨rfl, rfl⟩ | ⟨g, o, cap, rfl, h1, h2, h3, h4⟩
  · exact ⟨none, 0, rfl, Nat.le_refl _, by decide, fun h => absurd h (by simp)⟩
  · exact ⟨_, cap, rfl, h1, h2, fun _ => ⟨g, o, rfl, h3, h4⟩⟩
theorem TextsAt.kept {w w' : World} {v : Value} {L : List ByteArray} (h : TextsAt w v L) (hb : ∀ k, v.ownBlock = some k → k < w.heap.size → w'.heap[k]? = w.heap[k]?) (hs : w.heap.size ≤ w'.heap.size) : TextsAt w' v L := by
  rcases h with h | ⟨g, o, cap, rfl, h1, h2, hg, hc⟩
  · exact .inl h
  · exact .inr ⟨g, o, cap, rfl, h1, h2, by omega, fun j hj => (World.cell?_of_block (w := w) (hb g rfl hg)).trans (hc j hj)⟩
theorem TextsAt.below {w w' : World} {v : Value} {L : List ByteArray} (h : TextsAt w v L) (hb : Below w.heap.size w w') : TextsAt w' v L := h.kept (fun k _ hk => hb.block k hk) hb.size
theorem TextsAt.off {F : Nat → Prop} {w w' : World} {v : Value} {L : List ByteArray} (h : TextsAt w v L) (hb : Off F w w') (hF : ∀ k, v.ownBlock = some k → ¬ F k) : TextsAt w' v L := h.kept (fun k hk hl => hb.block k hl (hF k hk)) hb.size
theorem TextsAt.nil (w : World) : TextsAt w (.slice none 0 0) [] := .inl ⟨rfl, rfl⟩
/-- The first i texts. -/
theorem TextsAt.take {w : World} {a : Option Addr} {cap : Nat} {L : List ByteArray} (h : TextsAt w (.slice a L.length cap) L) (i : Nat) (hi : i ≤ L.length) (h0 : 0 < L.length) : TextsAt w (.slice a i cap) (L.take i) := by
  have hl : (L.take i).length = i := by rw [List.length_take]; omega
  rcases h with ⟨_, rfl⟩ | ⟨g, o, cap', he, h1, h2, hg, hc⟩
  · simp at h0
  · injection he with e1 e2 e3
    subst e1; subst e3
    refine .inr ⟨g, o, cap, by rw [hl], by omega, h2, hg, fun j hj => ?_⟩
    rw [hl] at hj
    rw [hc j (by omega)]
    simp [hj]

/-- The slice v of the world w is the call's own since block B, and holds the texts L. -/
structure OwnS (B : Nat) (w : World) (v : Value) (L : List ByteArray) : Prop where
  own : w.ownsRow B 9 1 v L.length (L.map Value.string)
  ne : v ≠ .slice none 0 0
  low : B ≤ w.heap.size
theorem OwnS.texts {B : Nat} {w : World} {v : Value} {L : List ByteArray} (h : OwnS B w v L) : TextsAt w v L := by
  rcases h.own.2 with ⟨h1, h2⟩ | ⟨g, cap, cur, rfl, hb, hg, hnc, hcm, hcs, htake⟩
  · exact absurd h1 h.ne
  · refine .inr ⟨g, 0, cap, rfl, hnc, hcm, (h.own.lt g rfl).2, fun j hj => ?_⟩
    rw [Nat.zero_add, h.own.cellAt j (by omega)]
    simp [hj]
theorem OwnS.cells {B : Nat} {w : World} {v : Value} {L : List ByteArray} (h : OwnS B w v L) :
    ∃ g cap, v = .slice (some ⟨g, 0, none⟩) L.length cap ∧ B ≤ g ∧ g < w.heap.size ∧ L.length ≤ cap ∧ cap ≤ maxLen ∧ ∀ j, j < L.length → w.cell? ⟨g, j, none⟩ = some (.string (L.getD j ByteArray.empty)) := by
  rcases h.own.2 with ⟨h1, h2⟩ | ⟨g, cap, cur, rfl, hb, hg, hnc, hcm, hcs, htake⟩
  · exact absurd h1 h.ne
  · refine ⟨g, cap, rfl, hb, (h.own.lt g rfl).2, hnc, hcm, fun j hj => ?_⟩
    rw [h.own.cellAt j (by omega)]
    simp [hj]
theorem OwnS.lit0 (B : Nat) (w : World) (hB : B ≤ w.heap.size) : OwnS B (w.alloc (.cells #[] 9)) (.slice (some ⟨w.heap.size, 0, none⟩) 0 0) [] :=
  ⟨World.ownsRow_made w #[] 0 hB (by decide) rfl, by simp, by simp; omega⟩
theorem OwnS.kept {B : Nat} {w w' : World} {v : Value} {L : List ByteArray} (h : OwnS B w v L) (hb : ∀ k, v.ownBlock = some k → k < w.heap.size → w'.heap[k]? = w.heap[k]?) (hs : w.heap.size ≤ w'.heap.size) : OwnS B w' v L := by
  refine ⟨⟨h.own.1, ?_⟩, h.ne, Nat.le_trans h.low hs⟩
  rcases h.own.2 with hn | ⟨g, cap, cur, rfl, hb', hgg, rest⟩
  · exact .inl hn
  · exact .inr ⟨g, cap, cur, rfl, hb', by rw [hb g rfl (Array.getElem?_eq_some_iff.1 hgg).1]; exact hgg, rest⟩
theorem OwnS.below {B : Nat} {w w' : World} {v : Value} {L : List ByteArray} (h : OwnS B w v L) (hb : Below w.heap.size w w') : OwnS B w' v L := h.kept (fun k _ hk => hb.block k hk) hb.size
theorem OwnS.off {B : Nat} {F : Nat → Prop} {w w' : World} {v : Value} {L : List ByteArray} (h : OwnS B w v L) (hb : Off F w w') (hF : ∀ k, v.ownBlock = some k → ¬ F k) : OwnS B w' v L := h.kept (fun k hk hl => hb.block k hl (hF k hk)) hb.size
theorem OwnS.alloc {B : Nat} {w : World} {v : Value} {L : List ByteArray} (h : OwnS B w v L) (o : Obj) : OwnS B (w.alloc o) v L := h.below ((Below.refl _ _).alloc (Nat.le_refl _) _)

theorem txtInfo9 : (Tryd.prog.info? 9).map (fun i => (i.zero, i.size, i.bytes)) = some (some (.string ByteArray.empty), 1, 16) := by kernel_rfl

/-- The texts of a slice are appended to a slice of the call's own. -/
theorem wpList_ownSAll {ops : Array Oper} {rest : List Oper} {o : Oper} {a : Act} {Q : Exit → Act → World → Prop} {B : Nat} {w : World} {v u : Value} {L M : List ByteArray}
    (hown : OwnS B w v L) (hM : TextsAt w u M) (hL : L.length + M.length ≤ 2000000) (hgd : o.guard = none) (s x : Operand)
    (ho : o.op = .call { callee := .builtin .append, args := #[s, x], argTypes := #[48, 48] })
    (hs : a.eval s = v) (hx : a.eval x = u)
    (h : ∀ v' w', OwnS B w' v' (L ++ M) → w.grownBy w' v.ownBlock → (v'.ownBlock = v.ownBlock ∨ ∃ k, v'.ownBlock = some k ∧ w.heap.size ≤ k) → wpList Tryd.prog ops Q rest (a.put o.dst v') w') :
    wpList Tryd.prog ops Q (o :: rest) a w := by
  obtain ⟨i, hi, hz, h1, h2⟩ := info_parts txtInfo9
  rcases hM with ⟨rfl, rfl⟩ | ⟨g, off, cap, rfl, m1, m2, mg, mc⟩
  · refine wpList_plain hgd fun K hK' => ?_
    have hrun := run_append_owned_none (P := Tryd.prog) w B 48 o.type 9 i 1 Tryd.underlying48 hi v L.length _ hown.own
    unfold Oper.wp
    simp [execOp, ho, resolve, invoke, builtin, hs, hx, hrun, Result.andThen]
    exact hK' _ _ (h v w (by simpa using hown) (World.grownBy.refl _ _) (.inl rfl))
  · refine wpList_append_own_at _ hgd s x 48 ho B 9 i (.string ByteArray.empty) 1 16 Tryd.underlying48 hi hz h1 h2 rfl (by decide) v L.length _ hs hown.own ⟨g, off, none⟩ M.length cap (M.map Value.string) hx (by simp) ?_ ?_ ?_ ?_ hown.low ?_
    · intro j u hj
      have hj' : j < M.length := by
        have := (List.getElem?_eq_some_iff.1 hj).1
        simpa using this
      have e : (⟨g, off, none⟩ : Addr).add j = ⟨g, off + j, none⟩ := by unfold Addr.add; split <;> simp_all
      rw [e, mc j hj']
      simpa [hj'] using hj
    · intro u hu
      obtain ⟨n, _, rfl⟩ := List.mem_map.1 hu
      rfl
    · unfold maxLen; omega
    · omega
    · intro v' w' h2 h3 h4 h5
      refine h v' w' ⟨?_, ?_, ?_⟩ h3 (h5.imp_right fun e => ⟨_, e, Nat.le_refl _⟩)
      · simpa using h2
      · intro e
        exact hown.ne (h4.1 e).1
      · have := h3.size
        have := hown.low
        omega
end Go.Proofs.YtadgiknnejjplaaDoor

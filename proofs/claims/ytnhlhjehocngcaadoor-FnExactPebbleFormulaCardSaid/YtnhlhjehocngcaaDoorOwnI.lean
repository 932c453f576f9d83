/- Slices that read as numbers, negative ones too; lists of such numbers that a call builds. No condition. -/
import Derived.Test.YtnhlhjehocngcaaDoorBase
namespace Go.Proofs.YtnhlhjehocngcaaDoor
open Go.RowKit
set_option linter.unusedVariables false
set_option maxRecDepth 100000

/-- A slice that reads as numbers. -/
def IntsAt (w : World) (v : Value) (L : List Int) : Prop :=
  (v = .slice none 0 0 ∧ L = []) ∨ ∃ g o cap, v = .slice (some ⟨g, o, none⟩) L.length cap ∧ L.length ≤ cap ∧ cap ≤ maxLen ∧ g < w.heap.size ∧ ∀ j, j < L.length → w.cell? ⟨g, o + j, none⟩ = some (.int .i64 (L.getD j 0))
theorem IntsAt.view {w : World} {v : Value} {L : List Int} (h : IntsAt w v L) : ∃ (a : Option Addr) (cap : Nat), v = .slice a L.length cap ∧ L.length ≤ cap ∧ cap ≤ maxLen ∧
    (0 < L.length → ∃ g o, a = some ⟨g, o, none⟩ ∧ g < w.heap.size ∧ ∀ j, j < L.length → w.cell? ⟨g, o + j, none⟩ = some (.int .i64 (L.getD j 0))) := by
  rcases h with ⟨rfl, rfl⟩ | ⟨g, o, cap, rfl, h1, h2, h3, h4⟩
  · exact ⟨none, 0, rfl, Nat.le_refl _, by decide, fun h => absurd h (by simp)⟩
  · exact ⟨_, cap, rfl, h1, h2, fun _ => ⟨g, o, rfl, h3, h4⟩⟩
theorem IntsAt.below {w w' : World} {v : Value} {L : List Int} (h : IntsAt w v L) (hb : Below w.heap.size w w') : IntsAt w' v L := by
  rcases h with h | ⟨g, o, cap, rfl, h1, h2, hg, hc⟩
  · exact .inl h
  · exact .inr ⟨g, o, cap, rfl, h1, h2, Nat.lt_of_lt_of_le hg hb.size, fun j hj => (hb.cell (p := ⟨g, o + j, none⟩) hg).trans (hc j hj)⟩
theorem NumsAt.ints {w : World} {v : Value} {L : List Nat} (h : NumsAt w v L) : IntsAt w v (List.map (fun x : Nat => (x : Int)) L) := by
  rcases h with ⟨rfl, rfl⟩ | ⟨g, o, cap, rfl, h1, h2, hg, hc⟩
  · exact .inl ⟨rfl, rfl⟩
  · refine .inr ⟨g, o, cap, by rw [List.length_map], by rw [List.length_map]; exact h1, h2, hg, fun j hj => ?_⟩
    rw [List.length_map] at hj
    rw [hc j hj]
    simp [hj]
theorem IntsAt.nums {w : World} {v : Value} {L : List Int} (h : IntsAt w v L) (h0 : ∀ x ∈ L, 0 ≤ x) : NumsAt w v (L.map Int.toNat) := by
  rcases h with ⟨rfl, rfl⟩ | ⟨g, o, cap, rfl, h1, h2, hg, hc⟩
  · exact .inl ⟨rfl, rfl⟩
  · refine .inr ⟨g, o, cap, by rw [List.length_map], by rw [List.length_map]; exact h1, h2, hg, fun j hj => ?_⟩
    rw [List.length_map] at hj
    rw [hc j hj]
    have h2 := h0 _ (List.getElem_mem hj)
    have e : L.getD j 0 = (((L.map Int.toNat).getD j 0 : Nat) : Int) := by
      simp [hj]; omega
    rw [e]
/-- The slice v of the world w is the call's own since block B, and holds the numbers L. -/
structure OwnI (B : Nat) (w : World) (v : Value) (L : List Int) : Prop where
  own : w.ownsRow B 3 1 v L.length (L.map (Value.int .i64))
  ne : v ≠ .slice none 0 0
  low : B ≤ w.heap.size
theorem OwnI.cells {B : Nat} {w : World} {v : Value} {L : List Int} (h : OwnI B w v L) :
    ∃ g cap, v = .slice (some ⟨g, 0, none⟩) L.length cap ∧ B ≤ g ∧ g < w.heap.size ∧ L.length ≤ cap ∧ cap ≤ maxLen ∧ ∀ j, j < L.length → w.cell? ⟨g, j, none⟩ = some (.int .i64 (L.getD j 0)) := by
  rcases h.own.2 with ⟨h1, h2⟩ | ⟨g, cap, cur, rfl, hb, hg, hnc, hcm, hcs, htake⟩
  · exact absurd h1 h.ne
  · refine ⟨g, cap, rfl, hb, (h.own.lt g rfl).2, hnc, hcm, fun j hj => ?_⟩
    rw [h.own.cellAt j (by omega)]
    simp [hj]
theorem OwnI.ints {B : Nat} {w : World} {v : Value} {L : List Int} (h : OwnI B w v L) : IntsAt w v L := by
  obtain ⟨g, cap, rfl, h1, h2, h3, h4, h5⟩ := h.cells
  exact .inr ⟨g, 0, cap, rfl, h3, h4, h2, fun j hj => by rw [Nat.zero_add]; exact h5 j hj⟩
theorem OwnI.lit0 (B : Nat) (w : World) (hB : B ≤ w.heap.size) : OwnI B (w.alloc (.cells #[] 3)) (.slice (some ⟨w.heap.size, 0, none⟩) 0 0) [] :=
  ⟨World.ownsRow_made w #[] 0 hB (by decide) rfl, by simp, by simp; omega⟩
theorem OwnI.kept {B : Nat} {w w' : World} {v : Value} {L : List Int} (h : OwnI B w v L) (hb : ∀ k, v.ownBlock = some k → k < w.heap.size → w'.heap[k]? = w.heap[k]?) (hs : w.heap.size ≤ w'.heap.size) : OwnI B w' v L := by
  refine ⟨⟨h.own.1, ?_⟩, h.ne, Nat.le_trans h.low hs⟩
  rcases h.own.2 with hn | ⟨g, cap, cur, rfl, hb', hgg, rest⟩
  · exact .inl hn
  · exact .inr ⟨g, cap, cur, rfl, hb', by rw [hb g rfl (Array.getElem?_eq_some_iff.1 hgg).1]; exact hgg, rest⟩
theorem OwnI.below {B : Nat} {w w' : World} {v : Value} {L : List Int} (h : OwnI B w v L) (hb : Below w.heap.size w w') : OwnI B w' v L := h.kept (fun k _ hk => hb.block k hk) hb.size
theorem OwnI.mono {B B' : Nat} {w : World} {v : Value} {L : List Int} (h : OwnI B w v L) (hB : B' ≤ B) : OwnI B' w v L := by
  refine ⟨⟨h.own.1, ?_⟩, h.ne, Nat.le_trans hB h.low⟩
  rcases h.own.2 with hn | ⟨g, cap, cur, rfl, hb', rest⟩
  · exact .inl hn
  · exact .inr ⟨g, cap, cur, rfl, Nat.le_trans hB hb', rest⟩
theorem OwnI.block {B : Nat} {w : World} {v : Value} {L : List Int} (h : OwnI B w v L) : ∃ k, v.ownBlock = some k ∧ B ≤ k ∧ k < w.heap.size := by
  obtain ⟨g, cap, rfl, h1, h2, _⟩ := h.cells
  exact ⟨g, rfl, h1, h2⟩
theorem OwnI.grown {B b : Nat} {w w' : World} {v : Value} {L : List Int} (h : OwnI B w v L) (hg : w.grownBy w' (some b)) (hb : b < B) : OwnI B w' v L :=
  h.kept (fun k hk hl => hg.block k hl (by
    obtain ⟨j, hj, h1, _⟩ := h.block
    rw [hk] at hj; injection hj with hj
    intro e; injection e with e; omega)) hg.size
/-- One number is appended to a slice of the call's own. -/
theorem wpList_ownI1 {ops : Array Oper} {rest : List Oper} {o : Oper} {a : Act} {Q : Exit → Act → World → Prop} {B : Nat} {w : World} {v : Value} {L : List Int}
    (hown : OwnI B w v L) (hL : L.length ≤ 2000000) (hgd : o.guard = none) (s x : Operand)
    (ho : o.op = .call { callee := .builtin .append, args := #[s, x], argTypes := #[28, 28] }) (y : Int) (b : Nat) (hb : w.heap.size = b)
    (hs : a.eval s = v) (hx : a.eval x = .slice (some ⟨b, 0, none⟩) 1 1)
    (h : ∀ v' w', OwnI B w' v' (L ++ [y]) → w.grownBy w' v.ownBlock → wpList Tryd.prog ops Q rest (a.put o.dst v') w') :
    wpList Tryd.prog ops Q (o :: rest) a (w.alloc (.cells #[.int .i64 y] 3)) := by
  subst hb
  obtain ⟨i, hi, hz, h1, h2⟩ := info_parts natInfo3
  have hbase : B ≤ w.heap.size := hown.low
  have hown' : (w.alloc (.cells #[.int .i64 y] 3)).ownsRow B 3 1 v L.length (L.map (Value.int .i64)) := (hown.below ((Below.refl _ _).alloc (Nat.le_refl _) _)).own
  refine wpList_append_own _ hgd s x 28 ho B 3 i (.int .i64 0) 1 8 Tryd.underlying28 hi hz h1 h2 rfl (by decide) v L.length _ hs hown' ⟨w.heap.size, 0, none⟩ 1 1 [.int .i64 y] hx rfl ?_ ?_ ?_ ?_ ?_ ?_
  · intro j u hj
    match j, hj with
    | 0, hj => simp at hj; subst hj; simp [Addr.add]
  · intro u hu
    simp at hu; subst hu; rfl
  · unfold maxLen; omega
  · omega
  · simp; omega
  · intro v' w' h2 h3 h4
    refine h v' w' ⟨?_, ?_, ?_⟩ ?_
    · simpa using h2
    · intro e
      exact hown.ne (h4.1 e).1
    · have := h3.size
      simp at this
      omega
    · refine ⟨h3.os, h3.tape, h3.output, ?_, fun k hk hne => ?_⟩
      · have := h3.size
        simp at this
        omega
      · rw [h3.block k (by simp; omega) hne]
        exact Below.heap_alloc _ _ _ hk
end Go.Proofs.YtnhlhjehocngcaaDoor

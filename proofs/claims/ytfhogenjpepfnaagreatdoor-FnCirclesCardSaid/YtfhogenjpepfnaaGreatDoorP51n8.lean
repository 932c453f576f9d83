/- Contracts of the program's functions and what they compute: part 8. Conditions: those that each theorem states. -/
import Derived.Test.YtfhogenjpepfnaaGreatDoorP51n6
import Derived.Test.YtfhogenjpepfnaaGreatDoorP51n7
import Derived.Lib.SliceRun
namespace Go.Proofs.YtfhogenjpepfnaaGreatDoor
open Go.RowKit
set_option linter.unusedVariables false
set_option maxRecDepth 100000
theorem listsInfo : (Tryz.prog.info? 30).map (fun i => (i.zero, i.size, i.bytes)) = some (some (.slice none 0 0), 1, 24) := by kernel_rfl
/-- The slice v of the world w is the call's own since block B, and holds the values xs. -/
structure OwnV (B : Nat) (w : World) (v : Value) (xs : List Value) : Prop where
  own : w.ownsRow B 30 1 v xs.length xs
  ne : v ≠ .slice none 0 0
  low : B ≤ w.heap.size
theorem OwnV.kept {B : Nat} {w w' : World} {v : Value} {xs : List Value} (h : OwnV B w v xs) (hb : ∀ k, v.ownBlock = some k → k < w.heap.size → w'.heap[k]? = w.heap[k]?) (hs : w.heap.size ≤ w'.heap.size) : OwnV B w' v xs := by
  refine ⟨⟨h.own.1, ?_⟩, h.ne, Nat.le_trans h.low hs⟩
  rcases h.own.2 with hn | ⟨g, cap, cur, rfl, hb', hgg, rest⟩
  · exact .inl hn
  · exact .inr ⟨g, cap, cur, rfl, hb', by rw [hb g rfl (Array.getElem?_eq_some_iff.1 hgg).1]; exact hgg, rest⟩
theorem OwnV.below {B : Nat} {w w' : World} {v : Value} {xs : List Value} (h : OwnV B w v xs) (hb : Below w.heap.size w w') : OwnV B w' v xs := h.kept (fun k _ hk => hb.block k hk) hb.size
theorem OwnV.lit0 (B : Nat) (w : World) (hB : B ≤ w.heap.size) : OwnV B (w.alloc (.cells #[] 30)) (.slice (some ⟨w.heap.size, 0, none⟩) 0 0) [] :=
  ⟨World.ownsRow_made w #[] 0 hB (by decide) rfl, by simp, by simp; omega⟩
theorem OwnV.cells {B : Nat} {w : World} {v : Value} {xs : List Value} (h : OwnV B w v xs) :
    ∃ g cap, v = .slice (some ⟨g, 0, none⟩) xs.length cap ∧ B ≤ g ∧ g < w.heap.size ∧ xs.length ≤ cap ∧ cap ≤ maxLen ∧ ∀ j, j < xs.length → w.cell? ⟨g, j, none⟩ = xs[j]? := by
  rcases h.own.2 with ⟨h1, h2⟩ | ⟨g, cap, cur, rfl, hb, hg, hnc, hcm, hcs, htake⟩
  · exact absurd h1 h.ne
  · exact ⟨g, cap, rfl, hb, (h.own.lt g rfl).2, hnc, hcm, fun j hj => h.own.cellAt j (by omega)⟩
theorem OwnV.block {B : Nat} {w : World} {v : Value} {xs : List Value} (h : OwnV B w v xs) : ∃ k, v.ownBlock = some k ∧ B ≤ k ∧ k < w.heap.size := by
  obtain ⟨g, cap, rfl, h1, h2, _⟩ := h.cells
  exact ⟨g, rfl, h1, h2⟩
/-- One slice is appended. -/
theorem wpList_ownV1 {ops : Array Oper} {rest : List Oper} {o : Oper} {a : Act} {Q : Exit → Act → World → Prop} {B : Nat} {w : World} {v : Value} {xs : List Value}
    (hown : OwnV B w v xs) (hL : xs.length ≤ 100000) (hgd : o.guard = none) (s x : Operand)
    (ho : o.op = .call { callee := .builtin .append, args := #[s, x], argTypes := #[76, 76] }) (y : Value) (hy : y.oneCell' = true) (b : Nat) (hb : w.heap.size = b)
    (hs : a.eval s = v) (hx : a.eval x = .slice (some ⟨b, 0, none⟩) 1 1)
    (h : ∀ v' w', OwnV B w' v' (xs ++ [y]) → w.grownBy w' v.ownBlock → (v'.ownBlock = v.ownBlock ∨ ∃ k, v'.ownBlock = some k ∧ w.heap.size ≤ k) → wpList Tryz.prog ops Q rest (a.put o.dst v') w') :
    wpList Tryz.prog ops Q (o :: rest) a (w.alloc (.cells #[y] 30)) := by
  subst hb
  obtain ⟨i, hi, hz, h1, h2⟩ := info_parts listsInfo
  have hbase : B ≤ w.heap.size := hown.low
  refine wpList_append_own_at _ hgd s x 76 ho B 30 i (.slice none 0 0) 1 24 Tryz.underlying76 hi hz h1 h2 rfl (by decide) v xs.length xs hs ?_ ⟨w.heap.size, 0, none⟩ 1 1 [y] hx rfl ?_ ?_ ?_ ?_ ?_ ?_
  · exact (hown.below ((Below.refl _ _).alloc (Nat.le_refl _) _)).own
  · intro j u hj
    match j, hj with
    | 0, hj => simp at hj; subst hj; simp [Addr.add]
  · intro u hu
    simp at hu; subst hu; exact hy
  · unfold maxLen; omega
  · omega
  · simp; omega
  · intro v' w' h2 h3 h4 h5
    refine h v' w' ⟨?_, ?_, ?_⟩ ?_ (h5.imp_right fun e => ⟨_, e, by simp⟩)
    · simpa using h2
    · intro e
      exact hown.ne (h4.1 e).1
    · have := h3.size
      simp at this
      omega
    · refine ⟨h3.os, h3.tape, h3.output, ?_, fun k hk hne => ?_⟩
      · have := h3.size
        simp at this
        omega
      · rw [h3.block k (by simp; omega) hne]
        exact Below.heap_alloc _ _ _ hk
/-- All slices of another one are appended. -/
theorem wpList_ownVAll {ops : Array Oper} {rest : List Oper} {o : Oper} {a : Act} {Q : Exit → Act → World → Prop} {B : Nat} {w : World} {v : Value} {xs ys : List Value} {g off cap : Nat}
    (hown : OwnV B w v xs) (hcell : ∀ j, j < ys.length → w.cell? ⟨g, off + j, none⟩ = ys[j]?) (h1c : ∀ y ∈ ys, y.oneCell' = true) (hL : xs.length + ys.length ≤ 100000) (hgd : o.guard = none) (s x : Operand)
    (ho : o.op = .call { callee := .builtin .append, args := #[s, x], argTypes := #[76, 76] })
    (hs : a.eval s = v) (hx : a.eval x = .slice (some ⟨g, off, none⟩) ys.length cap)
    (h : ∀ v' w', OwnV B w' v' (xs ++ ys) → w.grownBy w' v.ownBlock → wpList Tryz.prog ops Q rest (a.put o.dst v') w') :
    wpList Tryz.prog ops Q (o :: rest) a w := by
  obtain ⟨i, hi, hz, h1, h2⟩ := info_parts listsInfo
  refine wpList_append_own _ hgd s x 76 ho B 30 i (.slice none 0 0) 1 24 Tryz.underlying76 hi hz h1 h2 rfl (by decide) v xs.length xs hs hown.own ⟨g, off, none⟩ ys.length cap ys hx (by simp) ?_ h1c ?_ ?_ hown.low ?_
  · intro j u hj
    have hj' : j < ys.length := (List.getElem?_eq_some_iff.1 hj).1
    have e : (⟨g, off, none⟩ : Addr).add j = ⟨g, off + j, none⟩ := by unfold Addr.add; split <;> simp_all
    rw [e, hcell j hj']
    exact hj
  · unfold maxLen; omega
  · omega
  · intro v' w' h2 h3 h4
    refine h v' w' ⟨?_, ?_, ?_⟩ h3
    · simpa using h2
    · intro e
      exact hown.ne (h4.1 e).1
    · have := h3.size
      have := hown.low
      omega
/-- The slice v of the world w holds slices that hold the lists ds. -/
structure ListsAt (w : World) (xs : List Value) (ds : List (List Nat)) : Prop where
  len : xs.length = ds.length
  at' : ∀ (j : Nat) (h : j < xs.length), NumsAt w xs[j] (ds.getD j [])
theorem ListsAt.below {w w' : World} {xs : List Value} {ds : List (List Nat)} (h : ListsAt w xs ds) (hb : Below w.heap.size w w') : ListsAt w' xs ds := ⟨h.len, fun j hj => (h.at' j hj).below hb⟩
theorem ListsAt.nil (w : World) : ListsAt w [] [] := ⟨rfl, fun j h => absurd h (by simp)⟩
theorem ListsAt.snoc {w : World} {xs : List Value} {ds : List (List Nat)} {x : Value} {d : List Nat} (h : ListsAt w xs ds) (hx : NumsAt w x d) : ListsAt w (xs ++ [x]) (ds ++ [d]) := by
  refine ⟨by simp [h.len], fun j hj => ?_⟩
  by_cases hlt : j < xs.length
  · have := h.at' j hlt
    rw [List.getElem_append_left hlt]
    have e : (ds ++ [d]).getD j [] = ds.getD j [] := by
      rw [List.getD_eq_getElem?_getD, List.getD_eq_getElem?_getD, List.getElem?_append_left (by rw [← h.len]; exact hlt)]
    rw [e]
    exact this
  · have hje : j = xs.length := by simp at hj; omega
    subst hje
    have e : (ds ++ [d]).getD xs.length [] = d := by rw [h.len]; simp
    rw [e]
    simpa using hx
theorem nums_one {w : World} {v : Value} {L : List Nat} (h : NumsAt w v L) : v.oneCell' = true := by
  rcases h with ⟨rfl, _⟩ | ⟨g, o, cap, rfl, _⟩ <;> rfl
theorem ListsAt.one {w : World} {xs : List Value} {ds : List (List Nat)} (h : ListsAt w xs ds) : ∀ y ∈ xs, y.oneCell' = true := fun y hy => by
  obtain ⟨j, hj, rfl⟩ := List.mem_iff_getElem.1 hy
  exact nums_one (h.at' j hj)
end Go.Proofs.YtfhogenjpepfnaaGreatDoor

namespace Go.Proofs.YtfhogenjpepfnaaGreatDoor
open Go.RowKit
set_option linter.unusedVariables false
set_option maxRecDepth 100000
theorem below_drewN' (w : World) (n : Nat) : Below w.heap.size w (w.drewN n) := by
  have h := Below.refl w.heap.size w
  exact ⟨h.os, h.tape, h.output, h.size, h.block⟩
/-- Of the first j those that differ from the one before. -/
def keptP (f : Nat → Value × List Nat) : Nat → List (Value × List Nat)
  | 0 => []
  | j + 1 => if j = 0 ∨ (f j).2 ≠ (f (j - 1)).2 then keptP f j ++ [f j] else keptP f j
theorem keptP_len (f : Nat → Value × List Nat) : ∀ j, (keptP f j).length ≤ j
  | 0 => Nat.le_refl _
  | j + 1 => by
    have ih := keptP_len f j
    unfold keptP
    split
    · simp; omega
    · omega
theorem keptP_all (f : Nat → Value × List Nat) : ∀ j, (∀ i, i < j → i = 0 ∨ (f i).2 ≠ (f (i - 1)).2) → keptP f j = (List.range j).map f
  | 0, _ => rfl
  | j + 1, h => by
    unfold keptP
    rw [if_pos (h j (by omega)), keptP_all f j (fun i hi => h i (by omega)), List.range_succ, List.map_append]
    rfl
theorem keptP_mem (f : Nat → Value × List Nat) : ∀ j p, p ∈ keptP f j → ∃ i, i < j ∧ p = f i
  | 0, p, h => by cases h
  | j + 1, p, h => by
    unfold keptP at h
    split at h
    · rcases List.mem_append.1 h with h | h
      · obtain ⟨i, hi, e⟩ := keptP_mem f j p h; exact ⟨i, by omega, e⟩
      · exact ⟨j, by omega, by simpa using h⟩
    · obtain ⟨i, hi, e⟩ := keptP_mem f j p h; exact ⟨i, by omega, e⟩
theorem keptP_key (f : Nat → Value × List Nat) : ∀ j i, i < j → ∃ p, p ∈ keptP f j ∧ p.2 = (f i).2
  | j + 1, i, h => by
    unfold keptP
    by_cases hi : i < j
    · obtain ⟨p, hp, e⟩ := keptP_key f j i hi
      split
      · exact ⟨p, List.mem_append_left _ hp, e⟩
      · exact ⟨p, hp, e⟩
    · obtain rfl : i = j := by omega
      split
      · exact ⟨f i, by simp, rfl⟩
      · rename_i hk
        have h0 : i ≠ 0 := fun e => hk (.inl e)
        have he : (f i).2 = (f (i - 1)).2 := by
          rcases Classical.em ((f i).2 = (f (i - 1)).2) with e | e
          · exact e
          · exact absurd (.inr e) hk
        obtain ⟨p, hp, e⟩ := keptP_key f i (i - 1) (by omega)
        exact ⟨p, hp, by rw [e, he]⟩
theorem keptP_strict (f : Nat → Value × List Nat) : ∀ j, (∀ a b, a < b → b < j → ¬ Col.cmp (f b).2 (f a).2 < 0) → Col.Strict ((keptP f j).map (·.2))
  | 0, _ => List.Pairwise.nil
  | j + 1, h => by
    have ih := keptP_strict f j (fun a b h1 h2 => h a b h1 (by omega))
    unfold keptP
    split
    · rename_i hk
      rw [List.map_append]
      refine List.pairwise_append.2 ⟨ih, by simp, ?_⟩
      intro x hx y hy
      obtain rfl : y = (f j).2 := by simpa using hy
      obtain ⟨p, hp, rfl⟩ := List.mem_map.1 hx
      obtain ⟨i, hi, rfl⟩ := keptP_mem f j p hp
      have hne : (f j).2 ≠ (f (j - 1)).2 := by
        rcases hk with e | e
        · omega
        · exact e
      have h1 := h (j - 1) j (by omega) (by omega)
      have h2 : Col.cmp (f (j - 1)).2 (f j).2 < 0 := by
        have a1 := Col.cmp_anti (f j).2 (f (j - 1)).2
        have a2 : Col.cmp (f j).2 (f (j - 1)).2 ≠ 0 := fun e => hne (Col.cmp_eq e)
        omega
      rcases Nat.lt_or_ge i (j - 1) with hlt | hge
      · have h3 := h i (j - 1) hlt (by omega)
        have key : ¬ ¬ Col.cmp (f i).2 (f j).2 < 0 := fun h4 => Col.cmp_ntrans h3 h4 h2
        exact Decidable.not_not.1 key
      · obtain rfl : i = j - 1 := by omega
        exact h2
    · exact ih
/-- The row in memory. -/
structure Cp (w : World) (blk n : Nat) (W : World) (f : Nat → Value × List Nat) : Prop where
  cell : ∀ j, j < n → W.cell? ⟨blk, j, none⟩ = some (f j).1
  frz : ∀ j, j < n → W.frozen? ⟨blk, j, none⟩ = false
  off : Off (fun b => b = blk) w W
theorem Cp.below {w W W' : World} {blk n : Nat} {f : Nat → Value × List Nat} (h : Cp w blk n W f) (hl : blk < w.heap.size) (hb : Below W.heap.size W W') : Cp w blk n W' f := by
  have hlt := Nat.lt_of_lt_of_le hl h.off.size
  refine ⟨fun j hj => (hb.cell (p := ⟨blk, j, none⟩) hlt).trans (h.cell j hj), fun j hj => ?_, h.off.trans (Off.of_below (F := fun _ => False) hb) (fun _ e => e.elim)⟩
  have := h.frz j hj
  unfold World.frozen? at this ⊢
  rw [hb.block blk hlt]
  exact this
def setF (f : Nat → Value × List Nat) (k : Nat) (p : Value × List Nat) : Nat → Value × List Nat := fun i => if i = k then p else f i
theorem Cp.set {w W : World} {blk n k : Nat} {f : Nat → Value × List Nat} {p : Value × List Nat} (h : Cp w blk n W f) (hk : k < n) : Cp w blk n (W.setCell ⟨blk, k, none⟩ p.1) (setF f k p) := by
  refine ⟨fun j hj => ?_, fun j hj => by rw [World.frozen?_setCell]; exact h.frz j hj, ?_⟩
  · unfold setF
    by_cases hjk : j = k
    · subst hjk
      rw [if_pos rfl]
      exact World.cell?_setCell_same _ _ _ (h.cell j hj)
    · rw [if_neg hjk, World.cell?_setCell_other _ _ _ _ (by intro e; injection e with _ e; exact hjk e.symm)]
      exact h.cell j hj
  · refine h.off.trans ⟨rfl, rfl, rfl, by simp [World.setCell], fun b hb hn => ?_⟩ (fun b hb => .inl hb)
    exact Below.heap_setCell W ⟨blk, k, none⟩ p.1 b hn
end Go.Proofs.YtfhogenjpepfnaaGreatDoor

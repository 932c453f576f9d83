/- Contracts of the program's functions and what they compute: part 19. Conditions: those that each theorem states. -/
import Derived.Test.YtofmagiahmmmgaaGreatDoorP53n9
import Derived.Test.YtofmagiahmmmgaaGreatDoorP53n18
import Derived.Lib.SliceRun
import Derived.Deep.RegionHeld3
namespace Go.Proofs.YtofmagiahmmmgaaGreatDoor
open Go.RowKit
set_option linter.unusedVariables false
set_option maxRecDepth 100000
theorem listsInfo : (Tryz.prog.info? 33).map (fun i => (i.zero, i.size, i.bytes)) = some (some (.slice none 0 0), 1, 24) := by kernel_rfl
/-- The slice v of the world w is the call's own since block B, and holds the values xs. -/
structure OwnV (B : Nat) (w : World) (v : Value) (xs : List Value) : Prop where
  own : w.ownsRow B 33 1 v xs.length xs
  ne : v ≠ .slice none 0 0
  low : B ≤ w.heap.size
theorem OwnV.kept {B : Nat} {w w' : World} {v : Value} {xs : List Value} (h : OwnV B w v xs) (hb : ∀ k, v.ownBlock = some k → k < w.heap.size → w'.heap[k]? = w.heap[k]?) (hs : w.heap.size ≤ w'.heap.size) : OwnV B w' v xs := by
  refine ⟨⟨h.own.1, ?_⟩, h.ne, Nat.le_trans h.low hs⟩
  rcases h.own.2 with hn | ⟨g, cap, cur, rfl, hb', hgg, rest⟩
  · exact .inl hn
  · exact .inr ⟨g, cap, cur, rfl, hb', by rw [hb g rfl (Array.getElem?_eq_some_iff.1 hgg).1]; exact hgg, rest⟩
theorem OwnV.below {B : Nat} {w w' : World} {v : Value} {xs : List Value} (h : OwnV B w v xs) (hb : Below w.heap.size w w') : OwnV B w' v xs := h.kept (fun k _ hk => hb.block k hk) hb.size
theorem OwnV.lit0 (B : Nat) (w : World) (hB : B ≤ w.heap.size) : OwnV B (w.alloc (.cells #[] 33)) (.slice (some ⟨w.heap.size, 0, none⟩) 0 0) [] :=
  ⟨World.ownsRow_made w #[] 0 hB (by decide) rfl, by simp, by simp; omega⟩
theorem OwnV.cells {B : Nat} {w : World} {v : Value} {xs : List Value} (h : OwnV B w v xs) :
    ∃ g cap, v = .slice (some ⟨g, 0, none⟩) xs.length cap ∧ B ≤ g ∧ g < w.heap.size ∧ xs.length ≤ cap ∧ cap ≤ maxLen ∧ ∀ j, j < xs.length → w.cell? ⟨g, j, none⟩ = xs[j]? := by
  rcases h.own.2 with ⟨h1, h2⟩ | ⟨g, cap, cur, rfl, hb, hg, hnc, hcm, hcs, htake⟩
  · exact absurd h1 h.ne
  · exact ⟨g, cap, rfl, hb, (h.own.lt g rfl).2, hnc, hcm, fun j hj => h.own.cellAt j (by omega)⟩
theorem OwnV.block {B : Nat} {w : World} {v : Value} {xs : List Value} (h : OwnV B w v xs) : ∃ k, v.ownBlock = some k ∧ B ≤ k ∧ k < w.heap.size := by
  obtain ⟨g, cap, rfl, h1, h2, _⟩ := h.cells
  exact ⟨g, rfl, h1, h2⟩
/-- One slice is appended. -/
theorem wpList_ownV1 {ops : Array Oper} {rest : List Oper} {o : Oper} {a : Act} {Q : Exit → Act → World → Prop} {B : Nat} {w : World} {v : Value} {xs : List Value}
    (hown : OwnV B w v xs) (hL : xs.length ≤ 100000) (hgd : o.guard = none) (s x : Operand)
    (ho : o.op = .call { callee := .builtin .append, args := #[s, x], argTypes := #[131, 131] }) (y : Value) (hy : y.oneCell' = true) (b : Nat) (hb : w.heap.size = b)
    (hs : a.eval s = v) (hx : a.eval x = .slice (some ⟨b, 0, none⟩) 1 1)
    (h : ∀ v' w', OwnV B w' v' (xs ++ [y]) → w.grownBy w' v.ownBlock → (v'.ownBlock = v.ownBlock ∨ ∃ k, v'.ownBlock = some k ∧ w.heap.size ≤ k) → wpList Tryz.prog ops Q rest (a.put o.dst v') w') :
    wpList Tryz.prog ops Q (o :: rest) a (w.alloc (.cells #[y] 33)) := by
  subst hb
  obtain ⟨i, hi, hz, h1, h2⟩ := info_parts listsInfo
  have hbase : B ≤ w.heap.size := hown.low
  refine wpList_append_own_at _ hgd s x 131 ho B 33 i (.slice none 0 0) 1 24 Tryz.underlying131 hi hz h1 h2 rfl (by decide) v xs.length xs hs ?_ ⟨w.heap.size, 0, none⟩ 1 1 [y] hx rfl ?_ ?_ ?_ ?_ ?_ ?_
  · exact (hown.below ((Below.refl _ _).alloc (Nat.le_refl _) _)).own
  · intro j u hj
    match j, hj with
    | 0, hj => simp at hj; subst hj; simp [Addr.add]
  · intro u hu
    simp at hu; subst hu; exact hy
  · unfold maxLen; omega
  · omega
  · simp; omega
  · intro v' w' h2 h3 h4 h5
    refine h v' w' ⟨?_, ?_, ?_⟩ ?_ (h5.imp_right fun e => ⟨_, e, by simp⟩)
    · simpa using h2
    · intro e
      exact hown.ne (h4.1 e).1
    · have := h3.size
      simp at this
      omega
    · refine ⟨h3.os, h3.tape, h3.output, ?_, fun k hk hne => ?_⟩
      · have := h3.size
        simp at this
        omega
      · rw [h3.block k (by simp; omega) hne]
        exact Below.heap_alloc _ _ _ hk
/-- All slices of another one are appended. -/
theorem wpList_ownVAll {ops : Array Oper} {rest : List Oper} {o : Oper} {a : Act} {Q : Exit → Act → World → Prop} {B : Nat} {w : World} {v : Value} {xs ys : List Value} {g off cap : Nat}
    (hown : OwnV B w v xs) (hcell : ∀ j, j < ys.length → w.cell? ⟨g, off + j, none⟩ = ys[j]?) (h1c : ∀ y ∈ ys, y.oneCell' = true) (hL : xs.length + ys.length ≤ 100000) (hgd : o.guard = none) (s x : Operand)
    (ho : o.op = .call { callee := .builtin .append, args := #[s, x], argTypes := #[131, 131] })
    (hs : a.eval s = v) (hx : a.eval x = .slice (some ⟨g, off, none⟩) ys.length cap)
    (h : ∀ v' w', OwnV B w' v' (xs ++ ys) → w.grownBy w' v.ownBlock → wpList Tryz.prog ops Q rest (a.put o.dst v') w') :
    wpList Tryz.prog ops Q (o :: rest) a w := by
  obtain ⟨i, hi, hz, h1, h2⟩ := info_parts listsInfo
  refine wpList_append_own _ hgd s x 131 ho B 33 i (.slice none 0 0) 1 24 Tryz.underlying131 hi hz h1 h2 rfl (by decide) v xs.length xs hs hown.own ⟨g, off, none⟩ ys.length cap ys hx (by simp) ?_ h1c ?_ ?_ hown.low ?_
  · intro j u hj
    have hj' : j < ys.length := (List.getElem?_eq_some_iff.1 hj).1
    have e : (⟨g, off, none⟩ : Addr).add j = ⟨g, off + j, none⟩ := by unfold Addr.add; split <;> simp_all
    rw [e, hcell j hj']
    exact hj
  · unfold maxLen; omega
  · omega
  · intro v' w' h2 h3 h4
    refine h v' w' ⟨?_, ?_, ?_⟩ h3
    · simpa using h2
    · intro e
      exact hown.ne (h4.1 e).1
    · have := h3.size
      have := hown.low
      omega
/-- The slice v of the world w holds slices that hold the lists ds. -/
structure ListsAt (w : World) (xs : List Value) (ds : List (List Nat)) : Prop where
  len : xs.length = ds.length
  at' : ∀ (j : Nat) (h : j < xs.length), NumsAt w xs[j] (ds.getD j [])
theorem ListsAt.below {w w' : World} {xs : List Value} {ds : List (List Nat)} (h : ListsAt w xs ds) (hb : Below w.heap.size w w') : ListsAt w' xs ds := ⟨h.len, fun j hj => (h.at' j hj).below hb⟩
theorem ListsAt.nil (w : World) : ListsAt w [] [] := ⟨rfl, fun j h => absurd h (by simp)⟩
theorem ListsAt.snoc {w : World} {xs : List Value} {ds : List (List Nat)} {x : Value} {d : List Nat} (h : ListsAt w xs ds) (hx : NumsAt w x d) : ListsAt w (xs ++ [x]) (ds ++ [d]) := by
  refine ⟨by simp [h.len], fun j hj => ?_⟩
  by_cases hlt : j < xs.length
  · have := h.at' j hlt
    rw [List.getElem_append_left hlt]
    have e : (ds ++ [d]).getD j [] = ds.getD j [] := by
      rw [List.getD_eq_getElem?_getD, List.getD_eq_getElem?_getD, List.getElem?_append_left (by rw [← h.len]; exact hlt)]
    rw [e]
    exact this
  · have hje : j = xs.length := by simp at hj; omega
    subst hje
    have e : (ds ++ [d]).getD xs.length [] = d := by rw [h.len]; simp
    rw [e]
    simpa using hx
theorem nums_one {w : World} {v : Value} {L : List Nat} (h : NumsAt w v L) : v.oneCell' = true := by
  rcases h with ⟨rfl, _⟩ | ⟨g, o, cap, rfl, _⟩ <;> rfl
theorem ListsAt.one {w : World} {xs : List Value} {ds : List (List Nat)} (h : ListsAt w xs ds) : ∀ y ∈ xs, y.oneCell' = true := fun y hy => by
  obtain ⟨j, hj, rfl⟩ := List.mem_iff_getElem.1 hy
  exact nums_one (h.at' j hj)
end Go.Proofs.YtofmagiahmmmgaaGreatDoor

namespace Go.Proofs.YtofmagiahmmmgaaGreatDoor
open Go.RowKit
set_option linter.unusedVariables false
set_option maxRecDepth 100000
theorem below_drewN' (w : World) (n : Nat) : Below w.heap.size w (w.drewN n) := by
  have h := Below.refl w.heap.size w
  exact ⟨h.os, h.tape, h.output, h.size, h.block⟩
/-- Of the first j those that differ from the one before. -/
def keptP (f : Nat → Value × List Nat) : Nat → List (Value × List Nat)
  | 0 => []
  | j + 1 => if j = 0 ∨ (f j).2 ≠ (f (j - 1)).2 then keptP f j ++ [f j] else keptP f j
theorem keptP_len (f : Nat → Value × List Nat) : ∀ j, (keptP f j).length ≤ j
  | 0 => Nat.le_refl _
  | j + 1 => by
    have ih := keptP_len f j
    unfold keptP
    split
    · simp; omega
    · omega
theorem keptP_all (f : Nat → Value × List Nat) : ∀ j, (∀ i, i < j → i = 0 ∨ (f i).2 ≠ (f (i - 1)).2) → keptP f j = (List.range j).map f
  | 0, _ => rfl
  | j + 1, h => by
    unfold keptP
    rw [if_pos (h j (by omega)), keptP_all f j (fun i hi => h i (by omega)), List.range_succ, List.map_append]
    rfl
theorem keptP_mem (f : Nat → Value × List Nat) : ∀ j p, p ∈ keptP f j → ∃ i, i < j ∧ p = f i
  | 0, p, h => by cases h
  | j + 1, p, h => by
    unfold keptP at h
    split at h
    · rcases List.mem_append.1 h with h | h
      · obtain ⟨i, hi, e⟩ := keptP_mem f j p h; exact ⟨i, by omega, e⟩
      · exact ⟨j, by omega, by simpa using h⟩
    · obtain ⟨i, hi, e⟩ := keptP_mem f j p h; exact ⟨i, by omega, e⟩
theorem keptP_key (f : Nat → Value × List Nat) : ∀ j i, i < j → ∃ p, p ∈ keptP f j ∧ p.2 = (f i).2
  | j + 1, i, h => by
    unfold keptP
    by_cases hi : i < j
    · obtain ⟨p, hp, e⟩ := keptP_key f j i hi
      split
      · exact ⟨p, List.mem_append_left _ hp, e⟩
      · exact ⟨p, hp, e⟩
    · obtain rfl : i = j := by omega
      split
      · exact ⟨f i, by simp, rfl⟩
      · rename_i hk
        have h0 : i ≠ 0 := fun e => hk (.inl e)
        have he : (f i).2 = (f (i - 1)).2 := by
          rcases Classical.em ((f i).2 = (f (i - 1)).2) with e | e
          · exact e
          · exact absurd (.inr e) hk
        obtain ⟨p, hp, e⟩ := keptP_key f i (i - 1) (by omega)
        exact ⟨p, hp, by rw [e, he]⟩
theorem keptP_strict (f : Nat → Value × List Nat) : ∀ j, (∀ a b, a < b → b < j → ¬ Col.cmp (f b).2 (f a).2 < 0) → Col.Strict ((keptP f j).map (·.2))
  | 0, _ => List.Pairwise.nil
  | j + 1, h => by
    have ih := keptP_strict f j (fun a b h1 h2 => h a b h1 (by omega))
    unfold keptP
    split
    · rename_i hk
      rw [List.map_append]
      refine List.pairwise_append.2 ⟨ih, by simp, ?_⟩
      intro x hx y hy
      obtain rfl : y = (f j).2 := by simpa using hy
      obtain ⟨p, hp, rfl⟩ := List.mem_map.1 hx
      obtain ⟨i, hi, rfl⟩ := keptP_mem f j p hp
      have hne : (f j).2 ≠ (f (j - 1)).2 := by
        rcases hk with e | e
        · omega
        · exact e
      have h1 := h (j - 1) j (by omega) (by omega)
      have h2 : Col.cmp (f (j - 1)).2 (f j).2 < 0 := by
        have a1 := Col.cmp_anti (f j).2 (f (j - 1)).2
        have a2 : Col.cmp (f j).2 (f (j - 1)).2 ≠ 0 := fun e => hne (Col.cmp_eq e)
        omega
      rcases Nat.lt_or_ge i (j - 1) with hlt | hge
      · have h3 := h i (j - 1) hlt (by omega)
        have key : ¬ ¬ Col.cmp (f i).2 (f j).2 < 0 := fun h4 => Col.cmp_ntrans h3 h4 h2
        exact Decidable.not_not.1 key
      · obtain rfl : i = j - 1 := by omega
        exact h2
    · exact ih
/-- The row in memory. -/
structure Cp (w : World) (blk n : Nat) (W : World) (f : Nat → Value × List Nat) : Prop where
  cell : ∀ j, j < n → W.cell? ⟨blk, j, none⟩ = some (f j).1
  frz : ∀ j, j < n → W.frozen? ⟨blk, j, none⟩ = false
  off : Off (fun b => b = blk) w W
theorem Cp.below {w W W' : World} {blk n : Nat} {f : Nat → Value × List Nat} (h : Cp w blk n W f) (hl : blk < w.heap.size) (hb : Below W.heap.size W W') : Cp w blk n W' f := by
  have hlt := Nat.lt_of_lt_of_le hl h.off.size
  refine ⟨fun j hj => (hb.cell (p := ⟨blk, j, none⟩) hlt).trans (h.cell j hj), fun j hj => ?_, h.off.trans (Off.of_below (F := fun _ => False) hb) (fun _ e => e.elim)⟩
  have := h.frz j hj
  unfold World.frozen? at this ⊢
  rw [hb.block blk hlt]
  exact this
def setF (f : Nat → Value × List Nat) (k : Nat) (p : Value × List Nat) : Nat → Value × List Nat := fun i => if i = k then p else f i
theorem Cp.set {w W : World} {blk n k : Nat} {f : Nat → Value × List Nat} {p : Value × List Nat} (h : Cp w blk n W f) (hk : k < n) : Cp w blk n (W.setCell ⟨blk, k, none⟩ p.1) (setF f k p) := by
  refine ⟨fun j hj => ?_, fun j hj => by rw [World.frozen?_setCell]; exact h.frz j hj, ?_⟩
  · unfold setF
    by_cases hjk : j = k
    · subst hjk
      rw [if_pos rfl]
      exact World.cell?_setCell_same _ _ _ (h.cell j hj)
    · rw [if_neg hjk, World.cell?_setCell_other _ _ _ _ (by intro e; injection e with _ e; exact hjk e.symm)]
      exact h.cell j hj
  · refine h.off.trans ⟨rfl, rfl, rfl, by simp [World.setCell], fun b hb hn => ?_⟩ (fun b hb => .inl hb)
    exact Below.heap_setCell W ⟨blk, k, none⟩ p.1 b hn
end Go.Proofs.YtofmagiahmmmgaaGreatDoor

namespace Go.Proofs.YtofmagiahmmmgaaGreatDoor
open Go.RowKit
set_option linter.unusedVariables false
set_option maxRecDepth 100000
/-- What CompactFunc leaves. -/
def CompP (w : World) (blk n cap : Nat) (f : Nat → Value × List Nat) (e : Ending) (w' : World) : Prop :=
  e = .returned (.slice (some ⟨blk, 0, none⟩) (keptP f n).length cap) ∧ (∀ (j : Nat) (h : j < (keptP f n).length), w'.cell? ⟨blk, j, none⟩ = some (keptP f n)[j].1 ∧ w'.frozen? ⟨blk, j, none⟩ = false) ∧ Off (fun b => b = blk) w w'
/-- The second loop: m have been looked at, k are kept. -/
structure Ci (f g : Nat → Value × List Nat) (m k : Nat) : Prop where
  len : (keptP f m).length = k
  lt : k < m
  low : ∀ (j : Nat) (h : j < (keptP f m).length), g j = (keptP f m)[j]
  high : ∀ j, k ≤ j → g j = f j
theorem Ci.start {f : Nat → Value × List Nat} {k : Nat} (h : ∀ i, i < k → i = 0 ∨ (f i).2 ≠ (f (i - 1)).2) (h0 : 0 < k) (he : (f k).2 = (f (k - 1)).2) : Ci f f (k + 1) k := by
  have e : keptP f (k + 1) = (List.range k).map f := by
    rw [← keptP_all f k h, keptP]
    rw [if_neg]
    rintro (e | e)
    · omega
    · exact e he
  refine ⟨by rw [e]; simp, by omega, fun j hj => ?_, fun j _ => rfl⟩
  have hj2 : j < k := by rw [e] at hj; simpa using hj
  simp [e]
theorem Ci.skip {f g : Nat → Value × List Nat} {m k : Nat} (h : Ci f g m k) (h0 : 0 < m) (he : (f m).2 = (f (m - 1)).2) : Ci f g (m + 1) k := by
  have e : keptP f (m + 1) = keptP f m := by
    rw [keptP, if_neg]
    rintro (e | e)
    · omega
    · exact e he
  refine ⟨by rw [e]; exact h.len, by have := h.lt; omega, fun j hj => ?_, h.high⟩
  have hj2 : j < (keptP f m).length := by rw [← e]; exact hj
  have := h.low j hj2
  simp only [e]
  exact this
theorem Ci.keep {f g : Nat → Value × List Nat} {m k : Nat} (h : Ci f g m k) (he : (f m).2 ≠ (f (m - 1)).2) : Ci f (setF g k (f m)) (m + 1) (k + 1) := by
  have e : keptP f (m + 1) = keptP f m ++ [f m] := by rw [keptP, if_pos (.inr he)]
  have hl := h.len
  refine ⟨by rw [e]; simp [hl], by have := h.lt; omega, fun j hj => ?_, fun j hj => ?_⟩
  · have hj2 : j < k + 1 := by rw [e] at hj; simp [hl] at hj; exact hj
    unfold setF
    by_cases hjk : j = k
    · subst hjk
      rw [if_pos rfl]
      simp [e, hl]
    · rw [if_neg hjk]
      have hj3 : j < (keptP f m).length := by omega
      have := h.low j hj3
      simp only [e]
      rw [List.getElem_append_left hj3]
      exact this
  · unfold setF
    rw [if_neg (by omega)]
    exact h.high j (by omega)
theorem frozen_setCells' (b : Nat) : ∀ (vs : List Value) (o : Nat) (w : World) (x : Addr), (w.setCells b o vs).frozen? x = w.frozen? x
  | [], _, _, _ => rfl
  | v :: vs, o, w, x => by
    show ((w.setCell ⟨b, o, none⟩ v).setCells b (o + 1) vs).frozen? x = _
    rw [frozen_setCells' b vs (o + 1), World.frozen?_setCell]
theorem off_setCells' (w : World) (b : Nat) : ∀ (o : Nat) (vs : List Value), Off (fun x => x = b) w (w.setCells b o vs)
  | o, [] => Off.refl _ _
  | o, v :: vs => by
    have h1 : Off (fun x => x = b) w (w.setCell ⟨b, o, none⟩ v) := ⟨rfl, rfl, rfl, by simp [World.setCell], fun c hc hn => Below.heap_setCell w ⟨b, o, none⟩ v c hn⟩
    exact h1.trans (off_setCells' _ b (o + 1) vs) (fun c hc => .inl hc)
set_option maxHeartbeats 4000000 in
theorem CompactFunc_any (w : World) (blk n cap : Nat) (f : Nat → Value × List Nat) (hl : blk < w.heap.size) (hn : n ≤ 1000) (hc : n ≤ cap) (hcm : cap ≤ maxLen) (hnums : ∀ j, j < n → NumsAt w (f j).1 (f j).2 ∧ (f j).1.ownBlock ≠ some blk) (h : Cp w blk n w f) :
    Calls Tryz.prog 166 #[.slice (some ⟨blk, 0, none⟩) n cap, .func (.func 62) #[] #[]] w (CompP w blk n cap f) := by
  have HN := Lib.hid hnums
  have HC := Lib.hid h
  have HEQ : Hid (∀ (i j : Nat) (W : World), i < n → j < n → Off (fun b => b = blk) w W → Calls Tryz.prog 62 #[(f i).1, (f j).1] W fun e w' => e = .returned (.bool (decide ((f i).2 = (f j).2))) ∧ Below W.heap.size W w') := fun i j W hi hj hW => by
    refine (sEqual_any (f i).1 (f j).1 (f i).2 (f j).2 W ((HN.out i hi).1.off hW (fun k hk e => (HN.out i hi).2 (by rw [hk, e]))) ((HN.out j hj).1.off hW (fun k hk e => (HN.out j hj).2 (by rw [hk, e])))).mono fun e w' ⟨he, q, hq⟩ => ⟨he, by rw [hq]; exact below_drewN' W q⟩
  unfold maxLen at hcm
  clear hnums h
  by_cases h2 : n < 2
  · have HE : Hid (keptP f n = (List.range n).map f) := keptP_all f n (fun i hi => .inl (by omega))
    have h2I : (n : Int) < 2 := by omega
    clear HEQ HN
    go_enter Tryz.func166, Tryz.ntmps166
    go_wp2_with fail
    go_ret
    refine ⟨by rw [HE.out, List.length_map, List.length_range]; rfl, fun j hj => ?_, Off.refl _ _⟩
    have hj2 : j < n := by rw [HE.out] at hj; simpa using hj
    have e : (keptP f n)[j] = f j := by simp [HE.out]
    rw [e]
    exact ⟨HC.out.cell j hj2, HC.out.frz j hj2⟩
  · have h2I : ¬ (n : Int) < 2 := by omega
    go_enter Tryz.func166, Tryz.ntmps166
    go_wp2_with fail
    go_loopw [5] (fun i wr => ∃ k : Nat, 1 ≤ k ∧ k ≤ n ∧ i = .int .i64 (k : Int) ∧ Hid (Cp w blk n wr f) ∧ Hid (∀ i, i < k → i = 0 ∨ (f i).2 ≠ (f (i - 1)).2)) (fun i _ => n - (intOf i).toNat)
    case atStart => exact ⟨1, by omega, by omega, rfl, HC.out, fun i hi => .inl (by omega)⟩
    case round =>
      clear HC
      obtain ⟨k, hk1, hk, rfl, HC, HK⟩ := hrel
      by_cases hlt : k < n
      · have hltI : (k : Int) < (n : Int) := by omega
        have c1 := HC.out.cell k hlt
        have c0 := HC.out.cell (k - 1) (by omega)
        have hk1I : (k : Int) - 1 = ((k - 1 : Nat) : Int) := by omega
        have hkl : k - 1 < n := by omega
        have J := Lib.hid (fun s : Since wr => HEQ.out k (k - 1) s.w hlt hkl (HC.out.off.trans (Off.of_below (F := fun _ => False) s.below) (fun _ e => e.elim)))
        obtain ⟨x, hx⟩ : ∃ x, f k = x := ⟨_, rfl⟩
        obtain ⟨y, hy⟩ : ∃ x, f (k - 1) = x := ⟨_, rfl⟩
        have HXY : Hid (f k = x ∧ f (k - 1) = y) := ⟨hx, hy⟩
        rw [hx] at c1 J
        rw [hy] at c0 J
        obtain ⟨c, hcc⟩ : ∃ c, decide (x.2 = y.2) = c := ⟨_, rfl⟩
        have HCC := Lib.hid hcc
        rw [hcc] at J
        obtain ⟨k', hk'⟩ : ∃ k', k - 1 = k' := ⟨_, rfl⟩
        rw [hk'] at c0 hk1I hkl
        clear hx hy hcc hk'
        go_upto_region 6 with fail
        have C0 := fun s => Since.cell c0 s
        have C1 := fun s => Since.cell c1 s
        refine wp_region_since (by kernel_rfl) (by kernel_rfl) ?_
        repeat (go_big_quiet_step (first | (with_reducible exact Since.call (J.out _)) | (with_reducible exact C0 _) | (with_reducible exact C1 _)))
        refine wpQuiet_nil ?_
        intro w1 hb
        clear J C0 C1 c0 c1
        have HC1 := Lib.hid (HC.out.below hl hb)
        clear hb
        cases c
        · have HK2 : Hid (∀ i, i < k + 1 → i = 0 ∨ (f i).2 ≠ (f (i - 1)).2) := fun i hi => by
            by_cases hik : i = k
            · refine .inr ?_
              subst hik
              rw [HXY.out.1, HXY.out.2]
              exact of_decide_eq_false HCC.out
            · exact HK.out i (by omega)
          clear HK HC HXY HCC
          go_wp2_with fail
          go_roundw
          case rel => exact ⟨k + 1, by omega, by omega, by go_num, HC1.out, HK2.out⟩
          case measure => simp [intOf]; omega
        · have HI : Hid (Ci f f (k + 1) k) := Ci.start HK.out (by omega) (by rw [HXY.out.1, HXY.out.2]; exact of_decide_eq_true HCC.out)
          clear HK HC HXY HCC hk1I hkl
          have hkc : (k : Int) ≤ (cap : Int) := by omega
          go_wp2_with fail
          go_loopw [5, 7] (fun a b wr => ∃ (kk k2 : Nat) (g : Nat → Value × List Nat), a = .int .i64 (kk : Int) ∧ b = .int .i64 (k2 : Int) ∧ 1 ≤ k2 ∧ k + k2 ≤ n ∧ Hid (Cp w blk n wr g) ∧ Hid (Ci f g (k + k2) kk)) (fun _ b _ => n - k - (intOf b).toNat)
          case atStart => exact ⟨k, 1, f, rfl, rfl, by omega, by omega, HC1.out, HI.out⟩
          case round =>
            clear HC1 HI
            obtain ⟨kk, k2, g, rfl, rfl, h1, hle, HC, HI⟩ := hrel
            have hkk := HI.out.lt
            by_cases hlt2 : k + k2 < n
            · have hltI : (k2 : Int) < ((n - k : Nat) : Int) := by omega
              have c1 := HC.out.cell (k + k2) hlt2
              have c0 := HC.out.cell (k + (k2 - 1)) (by omega)
              have ck := HC.out.cell kk (by omega)
              have fk := HC.out.frz kk (by omega)
              rw [HI.out.high (k + k2) (by omega)] at c1
              rw [HI.out.high (k + (k2 - 1)) (by omega)] at c0
              have J := Lib.hid (fun s : Since wr => HEQ.out (k + k2) (k + (k2 - 1)) s.w hlt2 (by omega) (HC.out.off.trans (Off.of_below (F := fun _ => False) s.below) (fun _ e => e.elim)))
              have HEX : Hid (k + k2 - 1 = k + (k2 - 1)) := by show _ = _; omega
              have hk2I : (k2 : Int) - 1 = ((k2 - 1 : Nat) : Int) := by omega
              have hk2l : k2 - 1 < n - k := by omega
              obtain ⟨x, hx⟩ : ∃ x, f (k + k2) = x := ⟨_, rfl⟩
              obtain ⟨y, hy⟩ : ∃ x, f (k + (k2 - 1)) = x := ⟨_, rfl⟩
              have HXY : Hid (f (k + k2) = x ∧ f (k + k2 - 1) = y) := ⟨hx, by rw [HEX.out]; exact hy⟩
              rw [hx] at c1 J
              rw [hy] at c0 J
              obtain ⟨old, hold⟩ : ∃ o, (g kk).1 = o := ⟨_, rfl⟩
              rw [hold] at ck
              obtain ⟨c, hcc⟩ : ∃ c, decide (x.2 = y.2) = c := ⟨_, rfl⟩
              have HCC := Lib.hid hcc
              rw [hcc] at J
              obtain ⟨k3, hk3⟩ : ∃ k3, k2 - 1 = k3 := ⟨_, rfl⟩
              rw [hk3] at c0 hk2I hk2l
              clear hx hy hcc hold hk3 HEX
              go_upto_region 11 with fail
              have C0 := fun s => Since.cell c0 s
              have C1 := fun s => Since.cell c1 s
              refine wp_region_since (by kernel_rfl) (by kernel_rfl) ?_
              repeat (go_big_quiet_step (first | (with_reducible exact Since.call (J.out _)) | (with_reducible exact C0 _) | (with_reducible exact C1 _)))
              refine wpQuiet_nil ?_
              intro w2 hb
              clear J C0 C1 c0 c1 ck fk
              have HC2 := Lib.hid (HC.out.below hl hb)
              clear hb HC
              cases c
              · have HI2 := Lib.hid (HI.out.keep (by rw [HXY.out.1, HXY.out.2]; exact of_decide_eq_false HCC.out))
                rw [HXY.out.1] at HI2
                have c1 := HC2.out.cell (k + k2) hlt2
                rw [HI.out.high (k + k2) (by omega), HXY.out.1] at c1
                have ck := HC2.out.cell kk (by omega)
                have fk := HC2.out.frz kk (by omega)
                have HC3 := Lib.hid (HC2.out.set (k := kk) (p := x) (by omega))
                obtain ⟨ax, lx, cx, hxs⟩ : ∃ a l c, x.1 = Value.slice a l c := by
                  have h := (HN.out (k + k2) hlt2).1
                  rw [HXY.out.1] at h
                  obtain ⟨a, c, e, _⟩ := h.view
                  exact ⟨a, _, c, e⟩
                rw [hxs] at c1 HC3
                clear hxs
                have hkkI : (kk : Int) < (n : Int) := by omega
                have hk2n : k2 < n - k := by omega
                clear HXY HCC HI HC2
                go_wp2_with fail
                go_roundw
                case rel => exact ⟨kk + 1, k2 + 1, _, by go_num, by go_num, by omega, by omega, HC3.out, HI2.out⟩
                case measure => simp [intOf]; omega
              · have HI2 := Lib.hid (HI.out.skip (by omega) (by rw [HXY.out.1, HXY.out.2]; exact of_decide_eq_true HCC.out))
                clear HXY HCC HI
                go_wp2_with fail
                go_roundw
                case rel => exact ⟨kk, k2 + 1, g, rfl, by go_num, by omega, by omega, HC2.out, HI2.out⟩
                case measure => simp [intOf]; omega
            · have hend : k + k2 = n := by omega
              have hltI : ¬ (k2 : Int) < ((n - k : Nat) : Int) := by omega
              have hkn : kk < n := by omega
              have hcl : ∀ ty, (Builtin.clear_ #[131] ty #[.slice (some ⟨blk, kk, none⟩) (n - kk) (cap - kk)]).run Tryz.prog wr = .ok (.tuple #[]) (wr.setCells blk kk (List.replicate (n - kk) (.slice none 0 0))) :=
                fun ty => Lib.run_clear_slice wr _ 33 ty _ Tryz.underlying131 (fun w => by kernel_rfl) rfl rfl blk kk _ _ (by omega) (fun j hj => by rw [HC.out.cell (kk + j) (by omega)]; rfl) (fun j hj => HC.out.frz (kk + j) (by omega))
              have HF : Hid (CompP w blk n cap f (.returned (.slice (some ⟨blk, 0, none⟩) kk cap)) (wr.setCells blk kk (List.replicate (n - kk) (.slice none 0 0)))) := by
                have hlen := HI.out.len
                have hlow := HI.out.low
                rw [hend] at hlen hlow
                refine ⟨by rw [hlen], fun j hj => ?_, ?_⟩
                · have hjk : j < kk := by omega
                  rw [← hlow j hj]
                  refine ⟨?_, ?_⟩
                  · rw [World.cell?_setCells_out blk _ kk wr ⟨blk, j, none⟩ (fun _ _ => .inl hjk)]
                    exact HC.out.cell j (by omega)
                  · rw [frozen_setCells']
                    exact HC.out.frz j (by omega)
                · exact HC.out.off.trans (off_setCells' wr blk kk _) (fun b hb => .inl hb)
              have hkkc : (kk : Int) ≤ (cap : Int) := by omega
              clear HI HC
              go_wp2_with fail
              go_ret
              exact HF.out
      · obtain rfl : k = n := by omega
        have HE : Hid (keptP f k = (List.range k).map f) := keptP_all f k HK.out
        have hltI : ¬ (k : Int) < (k : Int) := by omega
        clear HK
        go_wp2_with fail
        go_ret
        refine ⟨by rw [HE.out, List.length_map, List.length_range]; rfl, fun j hj => ?_, HC.out.off⟩
        have hj2 : j < k := by rw [HE.out] at hj; simpa using hj
        have e : (keptP f k)[j] = f j := by simp [HE.out]
        rw [e]
        exact ⟨HC.out.cell j hj2, HC.out.frz j hj2⟩
end Go.Proofs.YtofmagiahmmmgaaGreatDoor

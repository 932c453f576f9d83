/- The reference's l1Has, l1Elements, l1Part, PartOf. Conditions: the structure is valid, the numbers are different elements of it. -/
import Derived.Test.YtjepegkbbbebkaaGreatDoorShape
import Derived.Test.YtjepegkbbbebkaaGreatDoorEach
import Derived.Test.YtjepegkbbbebkaaGreatDoorWord
import Derived.Laws.IdiomStrings
import Derived.Test.YtjepegkbbbebkaaGreatDoorPlaced
import Derived.Test.YtjepegkbbbebkaaGreatDoorWith
import Derived.Test.YtjepegkbbbebkaaGreatDoorRd
import Derived.Lib.ConvBytes
import Derived.Test.YtjepegkbbbebkaaGreatDoorHolds
import Derived.Test.YtjepegkbbbebkaaGreatDoorBase
import Derived.Test.YtjepegkbbbebkaaGreatDoorStill
import Derived.Deep.RegionHeld3
import Derived.Deep.DeepCutAuto
import Derived.Test.YtjepegkbbbebkaaGreatDoorTailQ
import Derived.Test.YtjepegkbbbebkaaGreatDoorLawS
import Derived.Test.YtjepegkbbbebkaaGreatDoorCircle
/- Plainly: the number of symmetries of a structure divides that of one of as many elements that keeps them all. No condition beyond those that each states. -/
namespace Go.Proofs.YtjepegkbbbebkaaGreatDoor.Gs
set_option linter.unusedVariables false

theorem nodup_le {α : Type} [DecidableEq α] : ∀ {L M : List α}, L.Nodup → (∀ x ∈ L, x ∈ M) → L.length ≤ M.length
  | [], M, _, _ => Nat.zero_le _
  | x :: L, M, hd, hs => by
    have h := List.nodup_cons.1 hd
    have hx := hs x (by simp)
    have ih := nodup_le (L := L) (M := M.erase x) h.2 (fun y hy => (List.mem_erase_of_ne (by rintro rfl; exact h.1 hy)).2 (hs y (by simp [hy])))
    rw [List.length_erase_of_mem hx] at ih
    have : 0 < M.length := List.length_pos_of_mem hx
    simp only [List.length_cons]; omega
theorem nodup_all {n : Nat} {L : List Nat} (hd : L.Nodup) (hl : L.length = n) (hn : ∀ x ∈ L, x < n) {i : Nat} (hi : i < n) : i ∈ L := by
  refine Classical.byContradiction fun h => ?_
  have := nodup_le (L := i :: L) (M := List.range n) (List.nodup_cons.2 ⟨h, hd⟩) (fun x hx => by
    rw [List.mem_range]
    rcases List.mem_cons.1 hx with rfl | hx
    · exact hi
    · exact hn x hx)
  simp at this
  omega
theorem nodup_map {α β : Type} {f : α → β} : ∀ {L : List α}, L.Nodup → (∀ x ∈ L, ∀ y ∈ L, f x = f y → x = y) → (L.map f).Nodup
  | [], _, _ => List.nodup_nil
  | x :: L, hd, hi => by
    have h := List.nodup_cons.1 hd
    rw [List.map_cons, List.nodup_cons]
    refine ⟨fun hm => ?_, nodup_map h.2 (fun a ha b hb => hi a (by simp [ha]) b (by simp [hb]))⟩
    obtain ⟨y, hy, e⟩ := List.mem_map.1 hm
    have := hi y (by simp [hy]) x (by simp) e
    subst this
    exact h.1 hy
/-- A set that falls into parts of one size. -/
theorem orbits {α : Type} [DecidableEq α] (H : List α) (act : α → α → α) (P : α → Prop) (hH : H.Nodup)
    (inj : ∀ x, P x → ∀ h ∈ H, ∀ k ∈ H, act x h = act x k → h = k)
    (back : ∀ x y, P x → P y → ∀ h ∈ H, ∀ k ∈ H, act y h = act x k → ∃ l ∈ H, y = act x l)
    (one : ∀ x, P x → ∃ e ∈ H, act x e = x) :
    ∀ (n : Nat) (X : List α), X.length ≤ n → X.Nodup → (∀ x ∈ X, P x) → (∀ x ∈ X, ∀ h ∈ H, act x h ∈ X) → H.length ∣ X.length := by
  intro n
  induction n with
  | zero =>
    intro X hl _ _ _
    rw [Nat.le_zero.1 hl]; exact Nat.dvd_zero _
  | succ n ih =>
    intro X hl hd hP hc
    cases hX : X with
    | nil => exact Nat.dvd_zero _
    | cons x X' =>
      have hx : x ∈ X := by rw [hX]; simp
      rw [← hX]
      obtain ⟨e, he, hee⟩ := one x (hP x hx)
      have hO : (H.map (act x)).Nodup := nodup_map hH (fun h hh k hk e => inj x (hP x hx) h hh k hk e)
      have hOX : ∀ y ∈ H.map (act x), y ∈ X := fun y hy => by
        obtain ⟨h, hh, rfl⟩ := List.mem_map.1 hy
        exact hc x hx h hh
      have hlen : (X.filter fun y => decide (y ∈ H.map (act x))).length = H.length := by
        apply Nat.le_antisymm
        · have := nodup_le (L := X.filter fun y => decide (y ∈ H.map (act x))) (M := H.map (act x)) (hd.filter _) (fun y hy => of_decide_eq_true (List.mem_filter.1 hy).2)
          rwa [List.length_map] at this
        · have := nodup_le (L := H.map (act x)) (M := X.filter fun y => decide (y ∈ H.map (act x))) hO (fun y hy => List.mem_filter.2 ⟨hOX y hy, decide_eq_true hy⟩)
          rwa [List.length_map] at this
      have hsum : X.length = (X.filter fun y => decide (y ∈ H.map (act x))).length + (X.filter fun y => !decide (y ∈ H.map (act x))).length := by
        have := List.length_eq_countP_add_countP (fun y => decide (y ∈ H.map (act x))) (l := X)
        rw [List.countP_eq_length_filter, List.countP_eq_length_filter] at this
        rw [this]
        congr 2
        apply List.filter_congr
        intro y _
        cases decide (y ∈ H.map (act x)) <;> rfl
      have hpos : 0 < (X.filter fun y => decide (y ∈ H.map (act x))).length := List.length_pos_of_mem (List.mem_filter.2 ⟨hx, decide_eq_true (List.mem_map.2 ⟨e, he, hee⟩)⟩)
      have hY := ih (X.filter fun y => !decide (y ∈ H.map (act x))) (by omega) (hd.filter _) (fun y hy => hP y (List.mem_filter.1 hy).1) (fun y hy h hh => by
        have hy' := List.mem_filter.1 hy
        refine List.mem_filter.2 ⟨hc y hy'.1 h hh, ?_⟩
        have hn : ¬ y ∈ H.map (act x) := by simpa using hy'.2
        have : ¬ act y h ∈ H.map (act x) := fun hm => by
          obtain ⟨k, hk, e⟩ := List.mem_map.1 hm
          obtain ⟨l, hl, rfl⟩ := back x y (hP x hx) (hP y hy'.1) h hh k hk e.symm
          exact hn (List.mem_map.2 ⟨l, hl, rfl⟩)
        simpa using this)
      rw [hsum, hlen]
      exact Nat.dvd_add (Nat.dvd_refl _) hY

/-- One order behind another. -/
def comp (p q : List Nat) : List Nat := q.map fun i => p.getD i 0
theorem comp_at {p q : List Nat} {i : Nat} (h : i < q.length) : (comp p q).getD i 0 = p.getD (q.getD i 0) 0 := by
  unfold comp
  simp [h]
theorem gd_mem {p : List Nat} {i : Nat} (h : i < p.length) : p.getD i 0 ∈ p := by simp [h]
theorem gd_inj {p : List Nat} (hd : p.Nodup) {i j : Nat} (hi : i < p.length) (hj : j < p.length) (e : p.getD i 0 = p.getD j 0) : i = j := by
  simp only [List.getD_eq_getElem?_getD, List.getElem?_eq_getElem hi, List.getElem?_eq_getElem hj, Option.getD_some] at e
  rcases Nat.lt_trichotomy i j with h | h | h
  · exact absurd e (List.pairwise_iff_getElem.1 hd i j hi hj h)
  · exact h
  · exact absurd e.symm (List.pairwise_iff_getElem.1 hd j i hj hi h)
theorem ext_gd {p q : List Nat} (hl : p.length = q.length) (h : ∀ i, i < p.length → p.getD i 0 = q.getD i 0) : p = q := by
  apply List.ext_getElem hl
  intro i h1 h2
  have := h i h1
  simpa [h1, h2] using this
theorem comp_sym {a : St} {p q : List Nat} (hp : Turns a a p) (hq : Turns a a q) (lp : p.length = a.n) (lq : q.length = a.n) : Turns a a (comp p q) ∧ (comp p q).length = a.n := by
  have hl : (comp p q).length = a.n := by unfold comp; simpa using lq
  have hin : ∀ i, i < a.n → q.getD i 0 < a.n := fun i hi => hq.lt _ (gd_mem (by omega))
  refine ⟨⟨?_, ?_, fun i hi => ?_, fun i j hi hj => ?_⟩, hl⟩
  · refine nodup_map hq.nodup (fun x hx y hy e => gd_inj hp.nodup (by rw [lp]; exact hq.lt x hx) (by rw [lp]; exact hq.lt y hy) e)
  · intro x hx
    obtain ⟨i, hi, rfl⟩ := List.mem_map.1 hx
    exact hp.lt _ (gd_mem (by rw [lp]; exact hq.lt i hi))
  · rw [hl] at hi
    rw [comp_at (by omega), hp.s _ (by have := hin i hi; omega), hq.s _ (by omega)]
  · rw [hl] at hi hj
    rw [comp_at (by omega), comp_at (by omega), hp.r _ _ (by have := hin i hi; omega) (by have := hin j hj; omega), hq.r _ _ (by omega) (by omega)]
/-- The order that undoes another. -/
def undo (n : Nat) (p : List Nat) : List Nat := (List.range n).map fun i => p.idxOf i
theorem undo_at {n : Nat} {p : List Nat} (hd : p.Nodup) (hl : p.length = n) (hn : ∀ x ∈ p, x < n) {i : Nat} (hi : i < n) : (undo n p).getD i 0 < n ∧ p.getD ((undo n p).getD i 0) 0 = i := by
  have hm := nodup_all hd hl hn hi
  have e : (undo n p).getD i 0 = p.idxOf i := by unfold undo; simp [hi]
  have h1 : p.idxOf i < p.length := List.idxOf_lt_length_of_mem hm
  rw [e]
  refine ⟨by omega, ?_⟩
  rw [List.getD_eq_getElem?_getD, List.getElem?_eq_getElem h1, Option.getD_some]
  exact List.getElem_idxOf h1
theorem undo_sym {a : St} {p : List Nat} (hp : Turns a a p) (lp : p.length = a.n) : Turns a a (undo a.n p) ∧ (undo a.n p).length = a.n := by
  have hl : (undo a.n p).length = a.n := by unfold undo; simp
  have hat := fun i (hi : i < a.n) => undo_at hp.nodup lp hp.lt hi
  have hnd : (undo a.n p).Nodup := by
    refine List.pairwise_iff_getElem.2 fun i j hi hj hij e => ?_
    have h1 := hat i (by omega)
    have h2 := hat j (by omega)
    have e' : (undo a.n p).getD i 0 = (undo a.n p).getD j 0 := by simp [hi, hj, e]
    rw [e'] at h1
    omega
  refine ⟨⟨hnd, fun x hx => ?_, fun i hi => ?_, fun i j hi hj => ?_⟩, hl⟩
  · obtain ⟨i, hi, rfl⟩ := List.mem_iff_getElem.1 hx
    have := (hat i (by omega)).1
    simpa [hi] using this
  · rw [hl] at hi
    have h := hat i hi
    have := hp.s _ (show (undo a.n p).getD i 0 < p.length by omega)
    rw [h.2] at this
    exact this.symm
  · rw [hl] at hi hj
    have h := hat i hi
    have h' := hat j hj
    have := hp.r _ _ (show (undo a.n p).getD i 0 < p.length by omega) (show (undo a.n p).getD j 0 < p.length by omega)
    rw [h.2, h'.2] at this
    exact this.symm
theorem comp_undo {p q : List Nat} {n : Nat} (hp : p.Nodup) (lp : p.length = n) (hn : ∀ x ∈ p, x < n) : comp q (comp p (undo n p)) = comp q (List.range n) := by
  have l1 : (undo n p).length = n := by unfold undo; simp
  have l2 : (comp p (undo n p)).length = n := by unfold comp; simpa using l1
  apply ext_gd
  · unfold comp; simpa using l1
  · intro i hi
    have hi' : i < n := by unfold comp at hi; simpa [l1] using hi
    rw [comp_at (by omega), comp_at (by omega), (undo_at hp lp hn hi').2, comp_at (by simpa using hi')]
    simp [hi']
theorem comp_range {p : List Nat} {n : Nat} (lp : p.length = n) : comp p (List.range n) = p := by
  apply ext_gd
  · unfold comp; simpa using lp.symm
  · intro i hi
    have hi' : i < n := by unfold comp at hi; simpa using hi
    rw [comp_at (by simpa using hi')]
    simp [hi']
theorem comp_assoc {p q r : List Nat} (h : ∀ x ∈ r, x < q.length) : comp (comp p q) r = comp p (comp q r) := by
  unfold comp
  rw [List.map_map]
  apply List.map_congr_left
  intro x hx
  simp [h x hx]
theorem id_sym (a : St) : Turns a a (List.range a.n) ∧ (List.range a.n).length = a.n := by
  have h : ∀ i, i < a.n → (List.range a.n).getD i 0 = i := fun i hi => by simp [hi]
  refine ⟨⟨List.nodup_range, fun x hx => List.mem_range.1 hx, fun i hi => ?_, fun i j hi hj => ?_⟩, by simp⟩
  · rw [List.length_range] at hi
    rw [h i hi]
  · rw [List.length_range] at hi hj
    rw [h i hi, h j hj]
/-- A structure that keeps another one's symmetries has a multiple of them. -/
theorem shapes_dvd {a b : St} (hn : a.n = b.n) (hk : ∀ p, Turns a a p → p.length = a.n → Turns b b p) : (shapes a a).length ∣ (shapes b b).length := by
  have mem : ∀ {c : St} {p : List Nat}, p ∈ shapes c c ↔ Turns c c p ∧ p.length = c.n := shapes_mem
  have sub : ∀ p ∈ shapes a a, Turns b b p ∧ p.length = b.n := fun p hp => by
    have := mem.1 hp
    exact ⟨hk p this.1 this.2, by rw [this.2, hn]⟩
  refine orbits (shapes a a) comp (fun x => Turns b b x ∧ x.length = b.n) (shapes_nodup a a) ?_ ?_ ?_ _ (shapes b b) (Nat.le_refl _) (shapes_nodup b b) (fun x hx => mem.1 hx) ?_
  · intro x hx h hh k hkk e
    have h1 := mem.1 hh
    have h2 := mem.1 hkk
    refine ext_gd (by omega) (fun i hi => ?_)
    have := congrArg (fun l => List.getD l i 0) e
    change (comp x h).getD i 0 = (comp x k).getD i 0 at this
    rw [comp_at hi, comp_at (by omega)] at this
    exact gd_inj hx.1.nodup (by rw [hx.2, ← hn]; exact h1.1.lt _ (gd_mem hi)) (by rw [hx.2, ← hn]; exact h2.1.lt _ (gd_mem (by omega))) this
  · intro x y hx hy h hh k hkk e
    have h1 := mem.1 hh
    have h2 := mem.1 hkk
    have hu := undo_sym h1.1 h1.2
    have hc := comp_sym h2.1 hu.1 h2.2 hu.2
    refine ⟨comp k (undo a.n h), mem.2 hc, ?_⟩
    have e2 := congrArg (fun l => comp l (undo a.n h)) e
    change comp (comp y h) (undo a.n h) = comp (comp x k) (undo a.n h) at e2
    rw [comp_assoc (fun z hz => by rw [h1.2]; exact hu.1.lt z hz), comp_assoc (fun z hz => by rw [h2.2]; exact hu.1.lt z hz), comp_undo h1.1.nodup h1.2 h1.1.lt, comp_range (by rw [hy.2, hn])] at e2
    exact e2
  · intro x hx
    exact ⟨List.range a.n, mem.2 (id_sym a), comp_range (by rw [hx.2, hn])⟩
  · intro x hx h hh
    have h1 := mem.1 hx
    have h2 := sub h hh
    exact mem.2 (comp_sym h1.1 h2.1 h1.2 h2.2)
end Go.Proofs.YtjepegkbbbebkaaGreatDoor.Gs
/- The program's WordOf. Condition: the texts' lengths fit an integer. -/
namespace Go.Proofs.YtjepegkbbbebkaaGreatDoor
open Go.RowKit
set_option linter.unusedVariables false
set_option maxRecDepth 100000

/-- Bytes as cells. -/
def bytesC (l : List UInt8) : Array Value := (l.map fun c => Value.int .u8 (c.toNat : Int)).toArray
section
variable {W : World} {g : Nat} {l : List UInt8} {t : TypeId}
theorem bytesC_cell (h : W.heap[g]? = some (.cells (bytesC l) t (0, 0))) (k : Nat) (hk : k < l.length) : W.cell? ⟨g, k, none⟩ = some (.int .u8 ((l.getD k 0).toNat : Int)) ∧ W.frozen? ⟨g, k, none⟩ = false := by
  refine ⟨?_, by unfold World.frozen?; rw [h]; rfl⟩
  unfold World.cell?
  rw [h]
  simp [bytesC, hk]
theorem bytesC_set (h : W.heap[g]? = some (.cells (bytesC l) t (0, 0))) (k : Nat) (c : UInt8) : (W.setCell ⟨g, k, none⟩ (.int .u8 (c.toNat : Int))).heap[g]? = some (.cells (bytesC (l.set k c)) t (0, 0)) := by
  have e : (bytesC l).setIfInBounds k (.int .u8 (c.toNat : Int)) = bytesC (l.set k c) := by
    unfold bytesC
    rw [List.map_set]
    simp
  rw [← e]
  simp [World.setCell, Array.getElem?_modify, h]
end
/-- How many elements are related to an element. -/
def cntR (n : Nat) (R : ByteArray) (x : Nat) : Nat → Nat
  | 0 => 0
  | y + 1 => cntR n R x y + (if relAt n R y x then 1 else 0)
theorem cntR_le (n : Nat) (R : ByteArray) (x : Nat) : ∀ y, cntR n R x y ≤ y
  | 0 => Nat.le_refl _
  | y + 1 => by
    have := cntR_le n R x y
    unfold cntR
    split <;> omega
def plc (n : Nat) (R : ByteArray) (x : Nat) : Nat := cntR n R x n
/-- The letters that the first elements lay. -/
def fillW (n : Nat) (S R : ByteArray) : Nat → Option (List UInt8)
  | 0 => some (List.replicate n 0)
  | x + 1 => match fillW n S R x with
    | none => none
    | some l => if plc n R x < n ∧ l.getD (plc n R x) 0 = 0 then some (l.set (plc n R x) (if oneAt S x then 120 else 121)) else none
theorem fill_no {n : Nat} {S R : ByteArray} {x : Nat} (h : fillW n S R x = none) : ∀ {y : Nat}, x ≤ y → fillW n S R y = none
  | 0, hy => by rw [← Nat.le_zero.1 hy]; exact h
  | y + 1, hy => by
    by_cases e : x = y + 1
    · rw [← e]; exact h
    · unfold fillW
      rw [fill_no h (y := y) (by omega)]
theorem fill_step {n : Nat} {S R : ByteArray} {x : Nat} {l : List UInt8} (h : fillW n S R x = some l) : fillW n S R (x + 1) = if plc n R x < n ∧ l.getD (plc n R x) 0 = 0 then some (l.set (plc n R x) (if oneAt S x then 120 else 121)) else none := by
  show (match fillW n S R x with | none => none | some l => _) = _
  rw [h]
theorem fill_len {n : Nat} {S R : ByteArray} : ∀ {x : Nat} {l : List UInt8}, fillW n S R x = some l → l.length = n
  | 0, l, h => by
    have : List.replicate n 0 = l := Option.some.inj h
    rw [← this]; simp
  | x + 1, l, h => by
    cases hx : fillW n S R x with
    | none => rw [fill_no hx (Nat.le_succ x)] at h; cases h
    | some m =>
      rw [fill_step hx] at h
      split at h
      · have := Option.some.inj h
        rw [← this, List.length_set]; exact fill_len hx
      · cases h
/-- Bytes as a text. -/
def txB (l : List UInt8) : ByteArray := ⟨l.toArray⟩
/-- Whether the word of some letters has the shape of the structure. -/
def shpB (n : Nat) (S R : ByteArray) (l : List UInt8) : Bool := ssB (txB l).size (bitsOf (letB (txB l)) (txB l).size) (gridOf ltB (txB l).size) n S R
/-- The word of a structure. -/
def woB (n : Int) (S R : ByteArray) : Option ByteArray :=
  if validB n S R then
    match fillW n.toNat S R n.toNat with
    | none => none
    | some l => if shpB n.toNat S R l then some (txB l) else none
  else none
def woV : Option ByteArray → Value
  | none => .tuple #[.string ⟨#[]⟩, .bool false]
  | some s => .tuple #[.string s, .bool true]
theorem woB_no {n : Nat} {S R : ByteArray} (h : fillW n S R n = none) : woB n S R = none := by
  unfold woB
  rw [Int.toNat_natCast, h]
  split <;> rfl
theorem woB_some {n : Nat} {S R : ByteArray} {l : List UInt8} (hv : validB n S R = true) (h : fillW n S R n = some l) : woB n S R = if shpB n S R l then some (txB l) else none := by
  unfold woB
  rw [Int.toNat_natCast, h, if_pos hv]
/-- What WordOf keeps. -/
structure Wd (w wr : World) (g n : Nat) (S R : ByteArray) (l : List UInt8) : Prop where
  a : SBlk wr w.heap.size n S R
  bs : wr.heap[g]? = some (.cells (bytesC l) 5 (0, 0))
  ne : w.heap.size < g
  old : Below w.heap.size w wr
section
variable {w wr w' : World} {g n : Nat} {S R : ByteArray} {l : List UInt8}
theorem Wd.lt (h : Wd w wr g n S R l) : g < wr.heap.size := (Array.getElem?_eq_some_iff.1 h.bs).1
theorem Wd.below (h : Wd w wr g n S R l) (hb : Below wr.heap.size wr w') : Wd w w' g n S R l := by
  have := h.lt
  have := h.ne
  exact ⟨h.a.below hb (by omega), (hb.block _ h.lt).trans h.bs, h.ne, h.old.trans (hb.mono (by omega))⟩
theorem Wd.set (h : Wd w wr g n S R l) (k : Nat) (c : UInt8) (i : Int) (hi : i = (c.toNat : Int)) : Wd w (wr.setCell ⟨g, k, none⟩ (.int .u8 i)) g n S R (l.set k c) := by
  subst hi
  exact ⟨h.a.far (by have := h.ne; simp; omega) _, bytesC_set h.bs k c, h.ne, h.old.setCell (by have := h.ne; simp; omega) _⟩
theorem Wd.drew (h : Wd w wr g n S R l) : Wd w wr.drew g n S R l := ⟨h.a, h.bs, h.ne, h.old.drew⟩
theorem Wd.conv (h : Wd w wr g n S R l) (hl : l.length = n) : (convert 22 9 (.slice (some ⟨g, 0, none⟩) n n)).run Tryz.prog wr = .ok (.string (txB l)) wr := by
  have := run_convert_bytes_back (P := Tryz.prog) wr 22 9 5 ⟨g, 0, none⟩ n l Tryz.underlying22 Tryz.underlying5 Tryz.underlying9 (fun j hj => by
    have e : (⟨g, 0, none⟩ : Addr).add j = ⟨g, j, none⟩ := by unfold Addr.add; split <;> simp_all
    rw [e, (bytesC_cell h.bs j hj).1]
    simp [hj])
  rw [hl] at this
  exact this
end
theorem make_bytes (n : Nat) (h1 : 1 ≤ n) (h8 : n ≤ 8) (w : World) : (Instr.makeSlice 22 (.int .i64 (n : Int)) (.int .i64 (n : Int))).run Tryz.prog w = .ok (.slice (some ⟨w.heap.size, 0, none⟩) n n) (w.alloc (.cells (bytesC (List.replicate n 0)) 5)) := by
  rcases (by omega : n = 1 ∨ n = 2 ∨ n = 3 ∨ n = 4 ∨ n = 5 ∨ n = 6 ∨ n = 7 ∨ n = 8) with rfl | rfl | rfl | rfl | rfl | rfl | rfl | rfl
  all_goals kernel_rfl
end Go.Proofs.YtjepegkbbbebkaaGreatDoor
/- The reference's l1Fits. Conditions: the structures are valid, the lists are of their elements. -/
namespace Go.Proofs.YtjepegkbbbebkaaGreatDoor
open Go.RowKit
set_option linter.unusedVariables false

namespace Gs
/-- Whether the last ones of two lists are to the others alike. -/
def fitsL (a : St) (L : List Nat) (b : St) (M : List Nat) (n : Nat) : Bool :=
  (a.s (L.getD n 0) == b.s (M.getD n 0)) && (List.range (n + 1)).all fun i => (decide (L.getD i 0 = L.getD n 0) == decide (M.getD i 0 = M.getD n 0)) && ((a.r (L.getD i 0) (L.getD n 0) == b.r (M.getD i 0) (M.getD n 0)) && (a.r (L.getD n 0) (L.getD i 0) == b.r (M.getD n 0) (M.getD i 0)))
theorem fitsL_iff {a b : St} {L M : List Nat} {n : Nat} : fitsL a L b M n = true ↔ a.s (L.getD n 0) = b.s (M.getD n 0) ∧ ∀ i, i ≤ n → (decide (L.getD i 0 = L.getD n 0) = decide (M.getD i 0 = M.getD n 0) ∧ a.r (L.getD i 0) (L.getD n 0) = b.r (M.getD i 0) (M.getD n 0) ∧ a.r (L.getD n 0) (L.getD i 0) = b.r (M.getD n 0) (M.getD i 0)) := by
  unfold fitsL
  simp only [Bool.and_eq_true, beq_iff_eq, List.all_eq_true, List.mem_range, Nat.lt_succ_iff]
theorem fitsL_no1 {a b : St} {L M : List Nat} {n : Nat} (h : a.s (L.getD n 0) ≠ b.s (M.getD n 0)) : fitsL a L b M n = false := by
  rw [← Bool.not_eq_true, fitsL_iff]
  exact fun h' => h h'.1
theorem fitsL_no2 {a b : St} {L M : List Nat} {n i : Nat} (hi : i ≤ n) (h : ¬ (decide (L.getD i 0 = L.getD n 0) = decide (M.getD i 0 = M.getD n 0) ∧ a.r (L.getD i 0) (L.getD n 0) = b.r (M.getD i 0) (M.getD n 0) ∧ a.r (L.getD n 0) (L.getD i 0) = b.r (M.getD n 0) (M.getD i 0))) : fitsL a L b M n = false := by
  rw [← Bool.not_eq_true, fitsL_iff]
  exact fun h' => h (h'.2 i hi)
end Gs
theorem l1Set_bF (n : Nat) (S R : ByteArray) (x : Nat) (w : World) (hx : x < n) (hS : S.size = n) (hn : n ≤ 8) :
    Calls Tryz.prog 136 #[strV n S R, .int .i64 (x : Int)] w fun e w' => e = .returned (.bool (oneAt S x)) ∧ Below w.heap.size w w' :=
  (l1Set_any n S R x w (by omega) (by omega)).mono fun _ _ h => ⟨h.1, by rw [h.2]; exact boxS_below _ _ _ _⟩
theorem l1Rel_bF (n : Nat) (S R : ByteArray) (x y : Nat) (w : World) (hx : x < n) (hy : y < n) (hn : n ≤ 8) (hR : R.size = n * n) :
    Calls Tryz.prog 137 #[strV n S R, .int .i64 (x : Int), .int .i64 (y : Int)] w fun e w' => e = .returned (.bool (relAt n R x y)) ∧ Below w.heap.size w w' :=
  (l1Rel_any n S R x y w hx hy hn hR).mono fun _ _ h => ⟨h.1, by rw [h.2]; exact boxS_below _ _ _ _⟩
set_option maxRecDepth 100000 in
set_option maxHeartbeats 4000000 in
theorem l1Fits_any (n : Nat) (S R : ByteArray) (m : Nat) (S2 R2 : ByteArray) (va vb : Value) (L M : List Nat) (l : Nat) (w : World)
    (hS : S.size = n) (hR : R.size = n * n) (hn : n ≤ 8) (hS2 : S2.size = m) (hR2 : R2.size = m * m) (hm : m ≤ 8)
    (hva : NumsAt w va L) (hvb : NumsAt w vb M) (hl : L.length = l + 1) (hlm : M.length = l + 1) (hl8 : l ≤ 100) (hL : ∀ j, j < L.length → L.getD j 0 < n) (hM : ∀ j, j < M.length → M.getD j 0 < m) :
    Calls Tryz.prog 228 #[strV n S R, va, strV m S2 R2, vb] w fun e w' => e = .returned (.bool (Gs.fitsL (stOf n S R) L (stOf m S2 R2) M l)) ∧ Below w.heap.size w w' := by
  obtain ⟨aa, ca, rfl, ca1, ca2, hca⟩ := hva.view
  obtain ⟨ab, cb, rfl, cb1, cb2, hcb⟩ := hvb.view
  unfold maxLen at ca2 cb2
  obtain ⟨ga, oa, rfl, hga, hcka⟩ := hca (by omega)
  obtain ⟨gb, ob, rfl, hgb, hckb⟩ := hcb (by omega)
  rw [hl] at hcka ca1 hL ⊢
  rw [hlm] at hckb cb1 hM ⊢
  have HCA := Lib.hid (fun w' (hb : Below w.heap.size w w') j hj => (hb.cell (p := ⟨ga, oa + j, none⟩) hga).trans (hcka j hj))
  have HCB := Lib.hid (fun w' (hb : Below w.heap.size w w') j hj => (hb.cell (p := ⟨gb, ob + j, none⟩) hgb).trans (hckb j hj))
  clear hca hcb hva hvb hcka hckb
  have HLL := Lib.hid hL
  have HMM := Lib.hid hM
  have R1 := Lib.hid (fun x y w hx hy => l1Rel_bF n S R x y w hx hy hn hR)
  have RR2 := Lib.hid (fun x y w hx hy => l1Rel_bF m S2 R2 x y w hx hy hm hR2)
  have hxl := hL l (by omega)
  have hyl := hM l (by omega)
  have HT := Lib.hid (Two.new w n S R m S2 R2)
  unfold boxS at HT
  obtain ⟨RES, hres⟩ : ∃ p, Gs.fitsL (stOf n S R) L (stOf m S2 R2) M l = p := ⟨_, rfl⟩
  rw [hres]
  have HNO1 := Lib.hid (fun h => Gs.fitsL_no1 (a := stOf n S R) (b := stOf m S2 R2) (L := L) (M := M) (n := l) h)
  have HNO2 := Lib.hid (fun i hi h => Gs.fitsL_no2 (a := stOf n S R) (b := stOf m S2 R2) (L := L) (M := M) (n := l) (i := i) hi h)
  have HYES := Lib.hid (fun h => (Gs.fitsL_iff (a := stOf n S R) (b := stOf m S2 R2) (L := L) (M := M) (n := l)).2 h)
  have HRES := Lib.hid hres
  have D1 := Lib.hid (fun w' hb => HCA.out w' hb l (by omega))
  have D2 := Lib.hid (fun w' hb => HCB.out w' hb l (by omega))
  obtain ⟨x, hx⟩ : ∃ x, L.getD l 0 = x := ⟨_, rfl⟩
  obtain ⟨y, hy⟩ : ∃ x, M.getD l 0 = x := ⟨_, rfl⟩
  rw [hx] at hxl HNO1 HNO2 HYES D1
  rw [hy] at hyl HNO1 HNO2 HYES D2
  have j1 := fun w => l1Set_bF n S R x w hxl hS hn; have j2 := fun w => l1Set_bF m S2 R2 y w hyl hS2 hm
  obtain ⟨p1, hp1⟩ : ∃ p, oneAt S x = p := ⟨_, rfl⟩
  obtain ⟨p2, hp2⟩ : ∃ p, oneAt S2 y = p := ⟨_, rfl⟩
  rw [hp1] at j1; rw [hp2] at j2
  unfold strV at j1 j2
  have J1 := Lib.hid j1; have J2 := Lib.hid j2
  have P1 := Lib.hid hp1; have P2 := Lib.hid hp2
  clear j1 j2 hp1 hp2 hx hy hres hl hlm hL hM hS hS2 hR hR2
  have hwr : IntKind.i64.wrap (((l + 1 : Nat) : Int) - 1) = (l : Int) := by rw [show ((l + 1 : Nat) : Int) - 1 = (l : Int) by omega]; exact IntWalk.i64_in _ (by omega)
  unfold strV
  by_cases hpq : p1 = p2
  · subst hpq
    go_enter Tryz.func228, Tryz.ntmps228
    go_wp2_with fail
    have d1 := D1.out _ HT.out.old
    have d2 := D2.out _ HT.out.old
    have f0 := fun s => Since.cell HT.out.a.cells.1 s
    have f1 := fun s => Since.cell HT.out.a.cells.2.1 s
    have f2 := fun s => Since.cell HT.out.a.cells.2.2.1 s
    have g0 := fun s => Since.cell HT.out.b.cells.1 s
    have g1 := fun s => Since.cell HT.out.b.cells.2.1 s
    have g2 := fun s => Since.cell HT.out.b.cells.2.2.1 s
    have k0 := fun s => Since.cell d1 s
    have k1 := fun s => Since.cell d2 s
    refine wp_region_since (by kernel_rfl) (by kernel_rfl) ?_
    try simp only [List.append_eq, List.cons_append, List.nil_append]
    repeat (go_big_quiet_step (first | (with_reducible exact Since.call (J1.out _)) | (with_reducible exact Since.call (J2.out _))))
    refine wpQuiet_nil ?_
    intro w1 hb1
    have HT1 := Lib.hid (HT.out.below hb1)
    clear f0 f1 f2 g0 g1 g2 hb1 k0 k1
    go_wp2_with fail
    clear d1 d2
    go_loopw [10] (fun i wr => ∃ k : Nat, k ≤ l + 1 ∧ i = .int .i64 (k : Int) ∧ Hid (Two w wr n S R m S2 R2) ∧ Hid (∀ j, j < k → (decide (L.getD j 0 = x) = decide (M.getD j 0 = y) ∧ relAt n R (L.getD j 0) x = relAt m R2 (M.getD j 0) y ∧ relAt n R x (L.getD j 0) = relAt m R2 y (M.getD j 0)))) (fun i _ => l + 1 - (intOf i).toNat)
    case atStart => exact ⟨0, by omega, rfl, HT1.out, fun j hj => absurd hj (by omega)⟩
    case round =>
      clear HT1 HT
      obtain ⟨k, hk, rfl, HT2, HK⟩ := hrel
      by_cases hlt : k ≤ l
      · have hltI : (k : Int) ≤ (l : Int) := by omega
        have d1 := D1.out _ HT2.out.old
        have d2 := D2.out _ HT2.out.old
        have d3 := HCA.out _ HT2.out.old k (by omega)
        have d4 := HCB.out _ HT2.out.old k (by omega)
        have hv := HLL.out k (by omega)
        have hu := HMM.out k (by omega)
        have HNK : Hid (¬ (decide (L.getD k 0 = x) = decide (M.getD k 0 = y) ∧ relAt n R (L.getD k 0) x = relAt m R2 (M.getD k 0) y ∧ relAt n R x (L.getD k 0) = relAt m R2 y (M.getD k 0)) → RES = false) := fun h => HRES.out.symm.trans (HNO2.out k hlt h)
        have HMORE : Hid ((decide (L.getD k 0 = x) = decide (M.getD k 0 = y) ∧ relAt n R (L.getD k 0) x = relAt m R2 (M.getD k 0) y ∧ relAt n R x (L.getD k 0) = relAt m R2 y (M.getD k 0)) → ∀ j, j < k + 1 → (decide (L.getD j 0 = x) = decide (M.getD j 0 = y) ∧ relAt n R (L.getD j 0) x = relAt m R2 (M.getD j 0) y ∧ relAt n R x (L.getD j 0) = relAt m R2 y (M.getD j 0))) := by
          intro h j hj
          by_cases hjk : j = k
          · rw [hjk]; exact h
          · exact HK.out j (by omega)
        generalize L.getD k 0 = v at *
        generalize M.getD k 0 = u at *
        have j5 := fun w => R1.out v x w hv hxl; have j6 := fun w => RR2.out u y w hu hyl; have j7 := fun w => R1.out x v w hxl hv; have j8 := fun w => RR2.out y u w hyl hu
        unfold strV at j5 j6 j7 j8
        have e1 : ((v : Int) == (x : Int)) = decide (v = x) := by rw [Bool.eq_iff_iff, beq_iff_eq, decide_eq_true_eq]; omega
        have e2 : ((u : Int) == (y : Int)) = decide (u = y) := by rw [Bool.eq_iff_iff, beq_iff_eq, decide_eq_true_eq]; omega
        generalize decide (v = x) = c1 at *
        generalize decide (u = y) = c2 at *
        generalize relAt n R v x = s1 at *
        generalize relAt m R2 u y = s2 at *
        generalize relAt n R x v = t1 at *
        generalize relAt m R2 y u = t2 at *
        have J5 := Lib.hid j5; have J6 := Lib.hid j6; have J7 := Lib.hid j7; have J8 := Lib.hid j8
        clear j5 j6 j7 j8
        by_cases hc : c1 = c2
        · subst hc
          by_cases hs : s1 = s2
          · subst hs
            by_cases ht : t1 = t2
            · subst ht
              go_wp2_with fail
              have f0 := fun s => Since.cell HT2.out.a.cells.1 s
              have f1 := fun s => Since.cell HT2.out.a.cells.2.1 s
              have f2 := fun s => Since.cell HT2.out.a.cells.2.2.1 s
              have g0 := fun s => Since.cell HT2.out.b.cells.1 s
              have g1 := fun s => Since.cell HT2.out.b.cells.2.1 s
              have g2 := fun s => Since.cell HT2.out.b.cells.2.2.1 s
              have k0 := fun s => Since.cell d1 s
              have k1 := fun s => Since.cell d2 s
              have k2 := fun s => Since.cell d3 s
              have k3 := fun s => Since.cell d4 s
              refine wp_region_since (by kernel_rfl) (by kernel_rfl) ?_
              try simp only [List.append_eq, List.cons_append, List.nil_append]
              repeat (go_big_quiet_step (first | (with_reducible exact Since.call (J5.out _)) | (with_reducible exact Since.call (J6.out _)) | (with_reducible exact Since.call (J7.out _)) | (with_reducible exact Since.call (J8.out _))))
              refine wpQuiet_nil ?_
              intro w1 hb1
              have HT1 := Lib.hid (HT2.out.below hb1)
              clear f0 f1 f2 g0 g1 g2 hb1 k0 k1 k2 k3
              go_wp2_with fail
              go_roundw
              case rel => exact ⟨k + 1, by omega, by go_num, HT1.out, HMORE.out (by simp)⟩
              case measure => simp [intOf]; omega
            · clear HK HMORE
              have HE : Hid (RES = false) := HNK.out (fun h => ht h.2.2)
              have hne : t2 = !t1 := by cases t2 <;> cases t1 <;> first | rfl | exact absurd rfl ht
              subst hne
              clear HNK ht
              go_wp2_with fail
              have f0 := fun s => Since.cell HT2.out.a.cells.1 s
              have f1 := fun s => Since.cell HT2.out.a.cells.2.1 s
              have f2 := fun s => Since.cell HT2.out.a.cells.2.2.1 s
              have g0 := fun s => Since.cell HT2.out.b.cells.1 s
              have g1 := fun s => Since.cell HT2.out.b.cells.2.1 s
              have g2 := fun s => Since.cell HT2.out.b.cells.2.2.1 s
              have k0 := fun s => Since.cell d1 s
              have k1 := fun s => Since.cell d2 s
              have k2 := fun s => Since.cell d3 s
              have k3 := fun s => Since.cell d4 s
              refine wp_region_since (by kernel_rfl) (by kernel_rfl) ?_
              try simp only [List.append_eq, List.cons_append, List.nil_append]
              repeat (go_big_quiet_step (first | (with_reducible exact Since.call (J5.out _)) | (with_reducible exact Since.call (J6.out _)) | (with_reducible exact Since.call (J7.out _)) | (with_reducible exact Since.call (J8.out _))))
              refine wpQuiet_nil ?_
              intro w1 hb1
              have HT1 := Lib.hid (HT2.out.below hb1)
              clear f0 f1 f2 g0 g1 g2 hb1 k0 k1 k2 k3
              go_wp2_with fail
              go_ret
              exact ⟨ret_bool HE.out.symm, HT1.out.old⟩
          · clear HK HMORE
            have HE : Hid (RES = false) := HNK.out (fun h => hs h.2.1)
            have hne : s2 = !s1 := by cases s2 <;> cases s1 <;> first | rfl | exact absurd rfl hs
            subst hne
            clear HNK hs
            go_wp2_with fail
            have f0 := fun s => Since.cell HT2.out.a.cells.1 s
            have f1 := fun s => Since.cell HT2.out.a.cells.2.1 s
            have f2 := fun s => Since.cell HT2.out.a.cells.2.2.1 s
            have g0 := fun s => Since.cell HT2.out.b.cells.1 s
            have g1 := fun s => Since.cell HT2.out.b.cells.2.1 s
            have g2 := fun s => Since.cell HT2.out.b.cells.2.2.1 s
            have k0 := fun s => Since.cell d1 s
            have k1 := fun s => Since.cell d2 s
            have k2 := fun s => Since.cell d3 s
            have k3 := fun s => Since.cell d4 s
            refine wp_region_since (by kernel_rfl) (by kernel_rfl) ?_
            try simp only [List.append_eq, List.cons_append, List.nil_append]
            repeat (go_big_quiet_step (first | (with_reducible exact Since.call (J5.out _)) | (with_reducible exact Since.call (J6.out _)) | (with_reducible exact Since.call (J7.out _)) | (with_reducible exact Since.call (J8.out _))))
            refine wpQuiet_nil ?_
            intro w1 hb1
            have HT1 := Lib.hid (HT2.out.below hb1)
            clear f0 f1 f2 g0 g1 g2 hb1 k0 k1 k2 k3
            go_wp2_with fail
            go_ret
            exact ⟨ret_bool HE.out.symm, HT1.out.old⟩
        · clear HK HMORE
          have HE : Hid (RES = false) := HNK.out (fun h => hc h.1)
          have hne : c2 = !c1 := by cases c2 <;> cases c1 <;> first | rfl | exact absurd rfl hc
          subst hne
          clear HNK hc
          go_wp2_with fail
          have f0 := fun s => Since.cell HT2.out.a.cells.1 s
          have f1 := fun s => Since.cell HT2.out.a.cells.2.1 s
          have f2 := fun s => Since.cell HT2.out.a.cells.2.2.1 s
          have g0 := fun s => Since.cell HT2.out.b.cells.1 s
          have g1 := fun s => Since.cell HT2.out.b.cells.2.1 s
          have g2 := fun s => Since.cell HT2.out.b.cells.2.2.1 s
          have k0 := fun s => Since.cell d1 s
          have k1 := fun s => Since.cell d2 s
          have k2 := fun s => Since.cell d3 s
          have k3 := fun s => Since.cell d4 s
          refine wp_region_since (by kernel_rfl) (by kernel_rfl) ?_
          try simp only [List.append_eq, List.cons_append, List.nil_append]
          repeat (go_big_quiet_step (first | (with_reducible exact Since.call (J5.out _)) | (with_reducible exact Since.call (J6.out _)) | (with_reducible exact Since.call (J7.out _)) | (with_reducible exact Since.call (J8.out _))))
          refine wpQuiet_nil ?_
          intro w1 hb1
          have HT1 := Lib.hid (HT2.out.below hb1)
          clear f0 f1 f2 g0 g1 g2 hb1 k0 k1 k2 k3
          go_wp2_with fail
          go_ret
          exact ⟨ret_bool HE.out.symm, HT1.out.old⟩
      · have hltI : ¬ (k : Int) ≤ (l : Int) := by omega
        have HE : Hid (RES = true) := by
          show _ = _
          rw [← HRES.out]
          exact HYES.out ⟨P1.out.trans P2.out.symm, fun i hi => HK.out i (by omega)⟩
        clear HK
        go_wp2_with fail
        go_ret
        exact ⟨ret_bool HE.out.symm, HT2.out.old⟩
  · have hne : p2 = !p1 := by cases p1 <;> cases p2 <;> first | rfl | exact absurd rfl hpq
    have HE : Hid (RES = false) := HRES.out.symm.trans (HNO1.out (by show oneAt S x ≠ oneAt S2 y; rw [P1.out, P2.out]; exact hpq))
    subst hne
    clear hpq
    go_enter Tryz.func228, Tryz.ntmps228
    go_wp2_with fail
    have d1 := D1.out _ HT.out.old
    have d2 := D2.out _ HT.out.old
    have f0 := fun s => Since.cell HT.out.a.cells.1 s
    have f1 := fun s => Since.cell HT.out.a.cells.2.1 s
    have f2 := fun s => Since.cell HT.out.a.cells.2.2.1 s
    have g0 := fun s => Since.cell HT.out.b.cells.1 s
    have g1 := fun s => Since.cell HT.out.b.cells.2.1 s
    have g2 := fun s => Since.cell HT.out.b.cells.2.2.1 s
    have k0 := fun s => Since.cell d1 s
    have k1 := fun s => Since.cell d2 s
    refine wp_region_since (by kernel_rfl) (by kernel_rfl) ?_
    try simp only [List.append_eq, List.cons_append, List.nil_append]
    repeat (go_big_quiet_step (first | (with_reducible exact Since.call (J1.out _)) | (with_reducible exact Since.call (J2.out _))))
    refine wpQuiet_nil ?_
    intro w1 hb1
    have HT1 := Lib.hid (HT.out.below hb1)
    clear f0 f1 f2 g0 g1 g2 hb1 k0 k1
    go_wp2_with fail
    go_ret
    exact ⟨ret_bool HE.out.symm, HT1.out.old⟩
end Go.Proofs.YtjepegkbbbebkaaGreatDoor
/- The reference's l1Order and SameShape. Conditions: those that each states. -/
namespace Go.Proofs.YtjepegkbbbebkaaGreatDoor
open Go.RowKit
set_option linter.unusedVariables false
set_option maxRecDepth 100000

namespace Gs
theorem fitsL_fits (a b : St) (o : List Nat) (x : Nat) : fitsL a (o ++ [x]) b (List.range (o.length + 1)) o.length = (!o.contains x && fitsI a b o x) := by
  have gr : ∀ i, i ≤ o.length → (List.range (o.length + 1)).getD i 0 = i := fun i hi => by simp [show i < o.length + 1 by omega]
  rw [Bool.eq_iff_iff, fitsL_iff, Bool.and_eq_true, fitsI_iff, gd_eq, gr _ (Nat.le_refl _)]
  simp only [Bool.not_eq_true', List.contains_eq_mem, decide_eq_false_iff_not]
  constructor
  · rintro ⟨h1, h2⟩
    refine ⟨?_, h1, ?_, fun k hk => ?_⟩
    · intro hm
      obtain ⟨i, hi, e⟩ := List.mem_iff_getElem.1 hm
      have h3 := (h2 i (by omega)).1
      rw [gd_lt hi, gr i (by omega)] at h3
      have h4 : o.getD i 0 = x := by simp [hi, e]
      rw [h4] at h3
      simp at h3
      omega
    · have h3 := (h2 o.length (Nat.le_refl _)).2.1
      rw [gd_eq, gr _ (Nat.le_refl _)] at h3
      exact h3
    · have h3 := (h2 k (by omega)).2
      rw [gd_lt hk, gr k (by omega)] at h3
      exact ⟨h3.2, h3.1⟩
  · rintro ⟨hx, h1, h2, h3⟩
    refine ⟨h1, fun i hi => ?_⟩
    by_cases e : i = o.length
    · rw [e, gd_eq, gr _ (Nat.le_refl _)]
      exact ⟨by simp, h2, h2⟩
    · have hi' : i < o.length := by omega
      rw [gd_lt hi', gr i hi]
      refine ⟨?_, (h3 i hi').2, (h3 i hi').1⟩
      have h4 : ¬ o.getD i 0 = x := by
        intro e'
        refine hx (List.mem_iff_getElem.2 ⟨i, hi', ?_⟩)
        simpa [hi'] using e'
      rw [decide_eq_false h4, decide_eq_false e]
end Gs
/-- Numbers as cells. -/
def numsC (l : List Nat) : Array Value := (l.map fun k : Nat => Value.int .i64 (k : Int)).toArray
section
variable {W : World} {g : Nat} {l : List Nat} {t : TypeId}
theorem numsC_cell (h : W.heap[g]? = some (.cells (numsC l) t (0, 0))) (k : Nat) (hk : k < l.length) : W.cell? ⟨g, k, none⟩ = some (.int .i64 ((l.getD k 0 : Nat) : Int)) ∧ W.frozen? ⟨g, k, none⟩ = false := by
  refine ⟨?_, by unfold World.frozen?; rw [h]; rfl⟩
  unfold World.cell?
  rw [h]
  simp [numsC, hk]
theorem numsC_set (h : W.heap[g]? = some (.cells (numsC l) t (0, 0))) (k c : Nat) : (W.setCell ⟨g, k, none⟩ (.int .i64 (c : Int))).heap[g]? = some (.cells (numsC (l.set k c)) t (0, 0)) := by
  have e : (numsC l).setIfInBounds k (.int .i64 (c : Int)) = numsC (l.set k c) := by
    unfold numsC
    rw [List.map_set]
    simp
  rw [← e]
  simp [World.setCell, Array.getElem?_modify, h]
theorem numsC_nums (h : W.heap[g]? = some (.cells (numsC l) t (0, 0))) (hl : l.length ≤ 100) : NumsAt W (.slice (some ⟨g, 0, none⟩) l.length l.length) l :=
  .inr ⟨g, 0, l.length, rfl, Nat.le_refl _, by unfold maxLen; omega, (Array.getElem?_eq_some_iff.1 h).1, fun j hj => by rw [Nat.zero_add]; exact (numsC_cell h j hj).1⟩
end
theorem make_ints (n : Nat) (h1 : 1 ≤ n) (h8 : n ≤ 9) (w : World) : (Instr.makeSlice 25 (.int .i64 (n : Int)) (.int .i64 (n : Int))).run Tryz.prog w = .ok (.slice (some ⟨w.heap.size, 0, none⟩) n n) (w.alloc (.cells (numsC (List.replicate n 0)) 3)) := by
  rcases (by omega : n = 1 ∨ n = 2 ∨ n = 3 ∨ n = 4 ∨ n = 5 ∨ n = 6 ∨ n = 7 ∨ n = 8 ∨ n = 9) with rfl | rfl | rfl | rfl | rfl | rfl | rfl | rfl | rfl
  all_goals kernel_rfl
/-- The numbers below i, then zeros. -/
def upC (n i : Nat) : List Nat := (List.range n).map fun j => if j < i then j else 0
theorem upC_at {n k j : Nat} (h : j < (upC n k).length) : (upC n k)[j] = if j < k then j else 0 := by simp [upC]
theorem upC_zero (n : Nat) : upC n 0 = List.replicate n 0 := by
  apply List.ext_getElem
  · simp [upC]
  · intro i h1 h2
    simp [upC]
theorem upC_set {n i : Nat} (hi : i < n) : (upC n i).set i i = upC n (i + 1) := by
  apply List.ext_getElem
  · simp [upC]
  · intro j h1 h2
    rw [List.getElem_set]
    rw [upC_at, upC_at]
    by_cases e : i = j
    · subst e
      rw [if_pos rfl, if_pos (show i < i + 1 by omega)]
    · rw [if_neg e]
      by_cases hj : j < i
      · rw [if_pos hj, if_pos (show j < i + 1 by omega)]
      · rw [if_neg hj, if_neg (show ¬ j < i + 1 by omega)]
theorem upC_full (n : Nat) : upC n n = List.range n := by
  apply List.ext_getElem
  · simp [upC]
  · intro j h1 h2
    rw [upC_at, if_pos (by simpa using h2)]
    simp
/-- What l1Order does from an order. -/
def OrdOKL (n : Nat) (S R S2 R2 : ByteArray) (k : Nat) : Prop :=
  ∀ (w : World) (v : Value) (o : List Nat), o.length + k = n → (∀ z ∈ o, z < n) → NumsAt w v o →
    Calls Tryz.prog 195 #[strV n S R, v, strV n S2 R2] w fun e w' => (∃ (u : Value) (L : List Nat), L.length ≤ n ∧ NumsAt w' u L ∧ (∀ b, u.ownBlock = some b → v.ownBlock = some b ∨ w.heap.size ≤ b) ∧ e = .returned (.tuple #[u, .bool (!(Gs.shapesF (stOf n S R) (stOf n S2 R2) k o).isEmpty)])) ∧ Below w.heap.size w w'
theorem numsNil (w : World) (g : Nat) (hg : g < w.heap.size) : NumsAt w (.slice (some ⟨g, 0, none⟩) 0 0) [] := .inr ⟨g, 0, 0, rfl, Nat.le_refl _, by decide, hg, fun j hj => by simp at hj⟩
theorem ret_uv {v : Value} {x y : Bool} (h : x = y) : Ending.returned (.tuple #[v, .bool x]) = .returned (.tuple #[v, .bool y]) := by rw [h]
theorem order_zeroL (n : Nat) (S R S2 R2 : ByteArray) : OrdOKL n S R S2 R2 0 := by
  intro w v o hl ho hv
  have HT := Lib.hid (Two.new w n S R n S2 R2)
  unfold boxS at HT
  obtain ⟨c0, c1, c2, _, _, _, _⟩ := HT.out.a.cells
  have HV := Lib.hid (hv.below HT.out.old)
  obtain ⟨a, cap, rfl, _, _, _⟩ := hv.view
  have hlI : ((o.length : Int) == (n : Int)) = true := by rw [beq_iff_eq]; omega
  have hlI2 : (o.length : Int) = (n : Int) := by omega
  clear hv ho
  unfold strV
  go_enter Tryz.func195, Tryz.ntmps195
  go_wp2_with fail
  go_ret2
  exact ⟨⟨.slice a o.length cap, o, by omega, HV.out, fun b h => .inl h, rfl⟩, HT.out.old⟩
/-- What the building of the first numbers keeps. -/
structure Ord8 (w wr : World) (n : Nat) (S R S2 R2 : ByteArray) (g2 cap2 g3 : Nat) (L : List Nat) (l : List Nat) : Prop where
  two : Two w wr n S R n S2 R2
  nums : NumsAt wr (.slice (some ⟨g2, 0, none⟩) L.length cap2) L
  blk : wr.heap[g3]? = some (.cells (numsC l) 3 (0, 0))
  ne : g2 < g3 ∧ w.heap.size + 1 < g3
  lo : w.heap.size ≤ g2
theorem Ord8.set {w wr : World} {n : Nat} {S R S2 R2 : ByteArray} {g2 cap2 g3 : Nat} {L l : List Nat} (h : Ord8 w wr n S R S2 R2 g2 cap2 g3 L l) (k c : Nat) : Ord8 w (wr.setCell ⟨g3, k, none⟩ (.int .i64 (c : Int))) n S R S2 R2 g2 cap2 g3 L (l.set k c) := by
  obtain ⟨n1, n2⟩ := h.ne
  refine ⟨⟨h.two.a.far (by simp; omega) _, h.two.b.far (by simp; omega) _, h.two.old.setCell (by simp; omega) _⟩, ?_, numsC_set h.blk k c, h.ne, h.lo⟩
  exact h.nums.kept (fun b hb _ => Below.heap_setCell _ _ _ _ (by
    have hb : g2 = b := by injection hb
    simp; omega)) (by simp)
theorem Ord8.below {w wr w' : World} {n : Nat} {S R S2 R2 : ByteArray} {g2 cap2 g3 : Nat} {L l : List Nat} (h : Ord8 w wr n S R S2 R2 g2 cap2 g3 L l) (hb : Below wr.heap.size wr w') : Ord8 w w' n S R S2 R2 g2 cap2 g3 L l :=
  ⟨h.two.below hb, h.nums.below hb, (hb.block _ (Array.getElem?_eq_some_iff.1 h.blk).1).trans h.blk, h.ne, h.lo⟩
set_option maxHeartbeats 4000000 in
theorem order_stepL (n : Nat) (S R S2 R2 : ByteArray) (hn : n ≤ 8) (hS : S.size = n) (hR : R.size = n * n) (hS2 : S2.size = n) (hR2 : R2.size = n * n) (k : Nat) (IH : OrdOKL n S R S2 R2 k) : OrdOKL n S R S2 R2 (k + 1) := by
  intro w v o hl ho hv
  rw [Gs.shapesF_succ]
  have HIH := Lib.hid IH
  have HO := Lib.hid ho
  have HFI := Lib.hid (fun va vb L M l w hva hvb hl hlm hl8 hL hM => l1Fits_any n S R n S2 R2 va vb L M l w hS hR hn hS2 hR2 hn hva hvb hl hlm hl8 hL hM)
  have HT := Lib.hid (Two.new w n S R n S2 R2)
  unfold boxS at HT
  have HNV := Lib.hid hv
  obtain ⟨a, cap, rfl, q1, q2, q3⟩ := hv.view
  have hln : o.length < n := by omega
  obtain ⟨RES, hres⟩ : ∃ l, Gs.partTo (stOf n S R) (stOf n S2 R2) k o (stOf n S R).n = l := ⟨_, rfl⟩
  rw [hres]
  have HRES : Hid (Gs.partTo (stOf n S R) (stOf n S2 R2) k o n = RES) := hres
  have HLK := Lib.hid hl
  obtain ⟨i, hi⟩ : ∃ i, o.length = i := ⟨_, rfl⟩
  have HI := Lib.hid hi
  rw [hi] at hln q1
  have HNV2 : Hid (NumsAt w (.slice a i cap) o) := by have := HNV.out; rw [hi] at this; exact this
  rw [hi]
  have hnI : ((i : Int) == (n : Int)) = false := by rw [beq_eq_false_iff_ne]; omega
  have hnI2 : ¬ (i : Int) = (n : Int) := by omega
  obtain ⟨c0, c1, c2, _, _, _, _⟩ := HT.out.a.cells
  clear hv ho IH hS hR hS2 hR2 hres q3 hl HNV hi
  unfold maxLen at q2
  unfold strV at HFI
  unfold strV
  go_enter Tryz.func195, Tryz.ntmps195
  go_wp2_with fail
  go_loopw [8] (fun q wr => ∃ x : Nat, x ≤ n ∧ q = .int .i64 (x : Int) ∧ Hid (Two w wr n S R n S2 R2) ∧ Hid (Gs.partTo (stOf n S R) (stOf n S2 R2) k o x = [])) (fun q _ => n - (intOf q).toNat)
  case atStart => exact ⟨0, by omega, rfl, HT.out, rfl⟩
  case round =>
    clear c0 c1 c2 HT
    obtain ⟨x, hx, rfl, HX, HE⟩ := hrel
    obtain ⟨c0, c1, c2, _, _, _, _⟩ := HX.out.a.cells
    by_cases hlt : x < n
    · have hltI : (x : Int) < (n : Int) := by omega
      have HOW := Lib.hid (Own.lit0 wr.heap.size wr (Nat.le_refl _))
      have HBW := Lib.hid ((Below.refl wr.heap.size wr).alloc (Nat.le_refl _) (.cells #[] 3))
      have HV := Lib.hid ((HNV2.out.below HX.out.old).below HBW.out)
      have HL := Lib.hid (show ([] : List Nat).length + o.length ≤ 2000000 by rw [HI.out]; simp; omega)
      have HL1 := Lib.hid (show ([] ++ o).length ≤ 2000000 by simp; rw [HI.out]; omega)
      go_upto_region 7 with (first | (at_builtin; refine wpList_ownAll HOW.out HV.out HL.out rfl (.tmp 26) (.tmp 27) rfl rfl rfl ?_; intro v1 w1 ho hg; have HO1 := Lib.hid ho; have HB1 := Lib.hid (HBW.out.grown hg (by simp) (fun k hk => (HOW.out.own.lt k hk).1)); clear ho hg) | (at_builtin; refine wpList_own1 HO1.out HL1.out rfl (.tmp 28) (.tmp 30) rfl x _ rfl rfl rfl ?_; intro v2 w2 ho hg; have HO2 := Lib.hid ho; have HB2 := Lib.hid (HB1.out.grown hg HB1.out.size (fun k hk => (HO1.out.own.lt k hk).1)); clear ho hg))
      have hN2 : NumsAt w2 v2 (o ++ [x]) := by have := HO2.out.nums; simpa using this
      obtain ⟨g2, cap2, rfl, p1, p2, p3, p4, _⟩ := HO2.out.cells
      have hlx : ([] ++ o ++ [x]).length = i + 1 := by simp [HI.out]
      have hlx2 : (o ++ [x]).length = i + 1 := by simp [HI.out]
      rw [hlx] at hN2 p3 ⊢
      have mk := fun w => make_ints (i + 1) (by omega) (by omega) w
      simp only [Int.natCast_add, Int.cast_ofNat_Int] at mk
      have HX2 := Lib.hid (HX.out.below HB2.out)
      have hal : Below w2.heap.size w2 (w2.alloc (.cells (numsC (List.replicate (i + 1) 0)) 3)) := (Below.refl _ _).alloc (Nat.le_refl _) _
      have HOS : Hid (Ord8 w (w2.alloc (.cells (numsC (List.replicate (i + 1) 0)) 3)) n S R S2 R2 g2 cap2 w2.heap.size (o ++ [x]) (upC (i + 1) 0)) := by
        refine ⟨HX2.out.below hal, ?_, ?_, ⟨p2, HX2.out.b.cells.2.2.2.2.2.2⟩, Nat.le_trans HX.out.old.size p1⟩
        · rw [hlx2]; exact hN2.below hal
        · rw [upC_zero]; exact heap_alloc_new _ _
      clear hal hN2 c0 c1 c2 HO1 HB1 HO2 HB2 HX2 HOW HBW HV HL HL1 p1 p2
      unfold maxLen at p4
      go_upto_region 8 with fail
      obtain ⟨W3, hW3⟩ : ∃ W, w2.alloc (.cells (numsC (List.replicate (i + 1) 0)) 3) = W := ⟨_, rfl⟩
      rw [hW3] at HOS ⊢
      generalize w2.heap.size = g3 at *
      clear hW3 mk
      have hlx2' := Lib.hid hlx2
      clear hlx hlx2
      go_wp2_with fail
      go_loopw [11] (fun q wr => ∃ j : Nat, j ≤ i + 1 ∧ q = .int .i64 (j : Int) ∧ Hid (Ord8 w wr n S R S2 R2 g2 cap2 g3 (o ++ [x]) (upC (i + 1) j))) (fun q _ => i + 1 - (intOf q).toNat)
      case atStart => exact ⟨0, by omega, rfl, HOS.out⟩
      case round =>
        clear HOS
        obtain ⟨j, hj, rfl, HJ⟩ := hrel
        by_cases hlj : j < i + 1
        · have hljI : (j : Int) < (i : Int) + 1 := by omega
          obtain ⟨d1, d2⟩ := numsC_cell HJ.out.blk j (by simp [upC]; omega)
          have HJ2 : Hid (Ord8 w (wr.setCell ⟨g3, j, none⟩ (.int .i64 (j : Int))) n S R S2 R2 g2 cap2 g3 (o ++ [x]) (upC (i + 1) (j + 1))) := by
            have := HJ.out.set j j
            rw [upC_set hlj] at this
            exact this
          go_wp2_with fail
          go_roundw
          case rel => exact ⟨j + 1, by omega, by go_num, HJ2.out⟩
          case measure => simp [intOf]; omega
        · have hljI : ¬ (j : Int) < (i : Int) + 1 := by omega
          obtain rfl : j = i + 1 := by omega
          have hrg : NumsAt wr (.slice (some ⟨g3, 0, none⟩) (i + 1) (i + 1)) (List.range (i + 1)) := by
            have := numsC_nums HJ.out.blk (by simp [upC]; omega)
            rw [upC_full, List.length_range] at this
            exact this
          have hnm : NumsAt wr (.slice (some ⟨g2, 0, none⟩) (i + 1) cap2) (o ++ [x]) := by
            have := HJ.out.nums
            rw [hlx2'.out] at this
            exact this
          have hmem : ∀ z ∈ o ++ [x], z < n := by
            intro z hz
            rcases List.mem_append.1 hz with hz | hz
            · exact HO.out z hz
            · simp at hz; omega
          have hFI := HFI.out _ _ (o ++ [x]) (List.range (i + 1)) i wr hnm hrg hlx2'.out (by simp) (by omega) (fun j hj => hmem _ (by rw [List.getD_eq_getElem?_getD, List.getElem?_eq_getElem hj]; exact List.getElem_mem hj)) (fun j hj => by rw [List.length_range] at hj; simp [hj]; omega)
          have hft := Gs.fitsL_fits (stOf n S R) (stOf n S2 R2) o x
          rw [HI.out] at hft
          rw [hft] at hFI
          have HFX := Lib.hid hFI
          have HREC := Lib.hid (fun w' (hb : Below wr.heap.size wr w') => HIH.out w' (.slice (some ⟨g2, 0, none⟩) (i + 1) cap2) (o ++ [x]) (by rw [hlx2'.out]; have := HLK.out; have := HI.out; omega) hmem (hnm.below hb))
          have HPRE : Hid (∃ m, RES = Gs.partTo (stOf n S R) (stOf n S2 R2) k o (x + 1) ++ m) := by
            show ∃ m, _
            rw [← HRES.out]
            exact Gs.partTo_pre (by omega)
          have HNO : Hid ((!o.contains x && Gs.fitsI (stOf n S R) (stOf n S2 R2) o x) = false → Gs.partTo (stOf n S R) (stOf n S2 R2) k o (x + 1) = []) := fun h => by
            rw [Gs.partTo_no (by cases hc : o.contains x <;> cases hf : Gs.fitsI (stOf n S R) (stOf n S2 R2) o x <;> simp_all), HE.out]
          have HYES : Hid ((!o.contains x && Gs.fitsI (stOf n S R) (stOf n S2 R2) o x) = true → Gs.partTo (stOf n S R) (stOf n S2 R2) k o (x + 1) = Gs.shapesF (stOf n S R) (stOf n S2 R2) k (o ++ [x])) := fun h => by
            rw [Gs.partTo_yes (by cases hc : o.contains x <;> cases hf : Gs.fitsI (stOf n S R) (stOf n S2 R2) o x <;> simp_all), HE.out, List.nil_append]
          clear hrg hnm hmem hFI hft
          unfold strV at HREC
          generalize (!o.contains x && Gs.fitsI (stOf n S R) (stOf n S2 R2) o x) = ft at *
          obtain ⟨SS, hSS⟩ : ∃ l, Gs.shapesF (stOf n S R) (stOf n S2 R2) k (o ++ [x]) = l := ⟨_, rfl⟩
          rw [hSS] at HREC HYES
          clear hSS
          obtain ⟨c0, c1, c2, _, _, _, _⟩ := HJ.out.two.a.cells
          obtain ⟨e0, e1, e2, _, _, _, _⟩ := HJ.out.two.b.cells
          go_wp2_with fail
          refine HFX.out.mono ?_; rintro e w4 ⟨rfl, hb4⟩
          have HT4 := Lib.hid (HJ.out.two.below hb4)
          have HR4 := Lib.hid (HREC.out _ hb4)
          clear hb4 HFX HREC c0 c1 c2 e0 e1 e2
          cases ft
          · have HN := Lib.hid (HNO.out rfl)
            go_wp2_with fail
            go_roundw
            case rel => exact ⟨x + 1, by omega, by go_num, HT4.out, HN.out⟩
            case measure => simp [intOf]; omega
          · have HY := Lib.hid (HYES.out rfl)
            obtain ⟨c0, c1, c2, _, _, _, _⟩ := HT4.out.a.cells
            obtain ⟨e0, e1, e2, _, _, _, _⟩ := HT4.out.b.cells
            go_wp2_with fail
            refine HR4.out.mono ?_; rintro e w5 ⟨⟨u, L5, hl5, hn5, ho5, rfl⟩, hb5⟩
            have HN5 := Lib.hid (And.intro hl5 hn5)
            have HO5 : Hid (∀ b, u.ownBlock = some b → (Value.slice a i cap).ownBlock = some b ∨ w.heap.size ≤ b) := fun b hb => by
              have h1 := HJ.out.lo
              have h2 := HT4.out.old.size
              rcases ho5 b hb with h | h
              · have e : g2 = b := Option.some.inj h
                exact .inr (by omega)
              · exact .inr (by omega)
            clear hl5 hn5 ho5
            have HT5 := Lib.hid (HT4.out.below hb5)
            clear hb5 HR4 c0 c1 c2 e0 e1 e2
            cases hse : SS.isEmpty
            · have HRE : Hid (true = !RES.isEmpty) := by
                show _ = _
                obtain ⟨m, hm⟩ := HPRE.out
                rw [hm, HY.out]
                cases SS with
                | nil => cases hse
                | cons a b => rfl
              clear hse
              go_wp2_with fail
              go_ret2
              exact ⟨⟨u, L5, HN5.out.1, HN5.out.2, HO5.out, ret_uv HRE.out⟩, HT5.out.old⟩
            · have HN : Hid (Gs.partTo (stOf n S R) (stOf n S2 R2) k o (x + 1) = []) := by
                show _ = _
                rw [HY.out]
                cases SS with
                | nil => rfl
                | cons a b => cases hse
              clear hse
              go_wp2_with fail
              go_roundw
              case rel => exact ⟨x + 1, by omega, by go_num, HT5.out, HN.out⟩
              case measure => simp [intOf]; omega
    · have hltI : ¬ (x : Int) < (n : Int) := by omega
      have hxn : x = n := by omega
      have HRE : Hid (false = !RES.isEmpty) := by
        have h1 := HE.out
        rw [hxn, HRES.out] at h1
        show _ = _
        rw [h1]; rfl
      have HB : Hid (Below w.heap.size w (wr.alloc (.cells #[] 3))) := HX.out.old.alloc HX.out.old.size _
      clear hxn
      go_wp2_with fail
      go_ret2
      exact ⟨⟨.slice (some ⟨wr.heap.size, 0, none⟩) 0 0, [], by simp, numsNil _ _ (by simp), fun b h => .inr (by have e : wr.heap.size = b := Option.some.inj h; have := HX.out.old.size; omega), ret_uv HRE.out⟩, HB.out⟩
theorem order_anyL (n : Nat) (S R S2 R2 : ByteArray) (hn : n ≤ 8) (hS : S.size = n) (hR : R.size = n * n) (hS2 : S2.size = n) (hR2 : R2.size = n * n) : ∀ k, OrdOKL n S R S2 R2 k
  | 0 => order_zeroL n S R S2 R2
  | k + 1 => order_stepL n S R S2 R2 hn hS hR hS2 hR2 k (order_anyL n S R S2 R2 hn hS hR hS2 hR2 k)
/-- What l1Order does from an order. -/
def OrdOK (n : Nat) (S R S2 R2 : ByteArray) (k : Nat) : Prop :=
  ∀ (w : World) (v : Value) (o : List Nat), o.length + k = n → (∀ z ∈ o, z < n) → NumsAt w v o →
    Calls Tryz.prog 195 #[strV n S R, v, strV n S2 R2] w fun e w' => (∃ u, e = .returned (.tuple #[u, .bool (!(Gs.shapesF (stOf n S R) (stOf n S2 R2) k o).isEmpty)])) ∧ Below w.heap.size w w'
theorem order_any (n : Nat) (S R S2 R2 : ByteArray) (hn : n ≤ 8) (hS : S.size = n) (hR : R.size = n * n) (hS2 : S2.size = n) (hR2 : R2.size = n * n) (k : Nat) : OrdOK n S R S2 R2 k := fun w v o h1 h2 h3 =>
  (order_anyL n S R S2 R2 hn hS hR hS2 hR2 k w v o h1 h2 h3).mono fun e w' ⟨⟨u, _, _, _, _, h⟩, hb⟩ => ⟨⟨u, h⟩, hb⟩
end Go.Proofs.YtjepegkbbbebkaaGreatDoor
/- The reference's SameShape and WordOf. Condition: the texts' lengths fit an integer. -/
namespace Go.Proofs.YtjepegkbbbebkaaGreatDoor
open Go.RowKit
set_option linter.unusedVariables false
set_option maxRecDepth 100000

namespace Gs
theorem turns_undo {a b : St} {p : List Nat} (hn : a.n = b.n) (hp : Turns a b p) (hl : p.length = a.n) : Turns b a (undo a.n p) ∧ (undo a.n p).length = b.n := by
  have hl2 : (undo a.n p).length = a.n := by unfold undo; simp
  have hat := fun i (hi : i < a.n) => undo_at hp.nodup hl hp.lt hi
  have hnd : (undo a.n p).Nodup := by
    refine List.pairwise_iff_getElem.2 fun i j hi hj hij e => ?_
    have h1 := hat i (by omega)
    have h2 := hat j (by omega)
    have e' : (undo a.n p).getD i 0 = (undo a.n p).getD j 0 := by simp [hi, hj, e]
    rw [e'] at h1
    omega
  refine ⟨⟨hnd, fun x hx => ?_, fun i hi => ?_, fun i j hi hj => ?_⟩, by rw [hl2, hn]⟩
  · obtain ⟨i, hi, rfl⟩ := List.mem_iff_getElem.1 hx
    have := (hat i (by omega)).1
    rw [← hn]
    simpa [hi] using this
  · rw [hl2] at hi
    have h := hat i hi
    have := hp.s _ (show (undo a.n p).getD i 0 < p.length by omega)
    rw [h.2] at this
    exact this.symm
  · rw [hl2] at hi hj
    have h := hat i hi
    have h' := hat j hj
    have := hp.r _ _ (show (undo a.n p).getD i 0 < p.length by omega) (show (undo a.n p).getD j 0 < p.length by omega)
    rw [h.2, h'.2] at this
    exact this.symm
theorem shapes_symm {a b : St} (hn : a.n = b.n) : (shapes a b).isEmpty = (shapes b a).isEmpty := by
  have key : ∀ {a b : St}, a.n = b.n → (shapes a b).isEmpty = false → (shapes b a).isEmpty = false := by
    intro a b hn h
    cases hs : shapes a b with
    | nil => rw [hs] at h; cases h
    | cons p l =>
      have hp := shapes_mem.1 (show p ∈ shapes a b by rw [hs]; simp)
      have hq := shapes_mem.2 (turns_undo hn hp.1 hp.2)
      cases hs2 : shapes b a with
      | nil => rw [hs2] at hq; cases hq
      | cons q l => rfl
  cases h1 : (shapes a b).isEmpty <;> cases h2 : (shapes b a).isEmpty
  · rfl
  · rw [key hn h1] at h2; cases h2
  · rw [key hn.symm h2] at h1; cases h1
  · rfl
end Gs
theorem ssB_symm (n : Int) (S R : ByteArray) (m : Int) (S2 R2 : ByteArray) : ssB n S R m S2 R2 = ssB m S2 R2 n S R := by
  unfold ssB
  cases h1 : validB n S R
  · cases h2 : validB m S2 R2 <;> simp
  · cases h2 : validB m S2 R2
    · simp
    · by_cases h : n = m
      · subst h
        rw [Gs.shapes_symm (a := stOf n.toNat S R) (b := stOf n.toNat S2 R2) rfl]
      · rw [decide_eq_false h, decide_eq_false (fun e => h e.symm)]; simp
set_option maxHeartbeats 2000000 in
theorem specSameShape_list (n : Int) (S R : ByteArray) (m : Int) (S2 R2 : ByteArray) (hS : S.size ≤ 9223372036854775807) (hR : R.size ≤ 9223372036854775807) (hS2 : S2.size ≤ 9223372036854775807) (hR2 : R2.size ≤ 9223372036854775807) (w : World) :
    Calls Tryz.prog 167 #[strV n S R, strV m S2 R2] w fun e w' => (∃ (v : Value) (L : List Nat), L.length ≤ 8 ∧ NumsAt w' v L ∧ (∀ b, v.ownBlock = some b → w.heap.size ≤ b) ∧ e = .returned (.tuple #[v, .bool (ssB m S2 R2 n S R)])) ∧ Below w.heap.size w w' := by
  rw [ssB_symm]
  have HIS := Lib.hid (fun w => specValid_any n S R w hS hR)
  have HIS2 := Lib.hid (fun w => specValid_any m S2 R2 w hS2 hR2)
  have HB := Lib.hid (Bx2.new w n S R m S2 R2)
  unfold boxS at HB
  obtain ⟨RES, hres⟩ : ∃ z, ssB n S R m S2 R2 = z := ⟨_, rfl⟩
  rw [hres]
  obtain ⟨s0, s1, s2, _, _, _, hl⟩ := HB.out.a.cells
  obtain ⟨t0, t1, t2, _, _, _, hl'⟩ := HB.out.b.cells
  obtain ⟨W, hW⟩ : ∃ W, (w.alloc (.cells #[.int .i64 n, .string S, .string R] 24)).alloc (.cells #[.int .i64 m, .string S2, .string R2] 24) = W := ⟨_, rfl⟩
  rw [hW] at HB s0 s1 s2 hl t0 t1 t2 hl'
  have HW := Lib.hid hW
  clear hW
  have al0 : ∀ wx : World, Below wx.heap.size wx (wx.alloc (.cells #[] 3)) := fun wx => (Below.refl _ _).alloc (Nat.le_refl _) _
  cases hv : validB n S R
  · have HE : Hid (RES = false) := by show _ = _; rw [← hres]; unfold ssB; rw [hv]; rfl
    rw [hv] at HIS
    clear hv hres
    unfold strV at HIS
    unfold strV
    go_enter Tryz.func167, Tryz.ntmps167
    go_upto_region 1 with fail
    rw [HW.out]
    go_wp2_with fail
    refine (HIS.out _).mono ?_; rintro e w1 ⟨rfl, hb1⟩
    have HLO := Lib.hid (HB.out.below hb1).old.size
    have HB1 := Lib.hid ((HB.out.below hb1).below (al0 _))
    clear hb1 al0
    go_wp2_with fail
    go_ret2
    exact ⟨⟨.slice (some ⟨w1.heap.size, 0, none⟩) 0 0, [], by simp, numsNil _ _ (by simp), fun b h => by have e : w1.heap.size = b := Option.some.inj h; have := HLO.out; omega, ret_uv HE.out.symm⟩, HB1.out.old⟩
  · cases hv2 : validB m S2 R2
    · have HE : Hid (RES = false) := by show _ = _; rw [← hres]; unfold ssB; rw [hv, hv2]; rfl
      rw [hv] at HIS
      rw [hv2] at HIS2
      clear hv hv2 hres
      unfold strV at HIS HIS2
      unfold strV
      go_enter Tryz.func167, Tryz.ntmps167
      go_upto_region 1 with fail
      rw [HW.out]
      go_wp2_with fail
      refine (HIS.out _).mono ?_; rintro e w1 ⟨rfl, hb1⟩
      have HB1 := Lib.hid (HB.out.below hb1)
      clear hb1 s0 s1 s2 hl t0 t1 t2 hl'
      obtain ⟨t0, t1, t2, _, _, _, hl'⟩ := HB1.out.b.cells
      go_wp2_with fail
      refine (HIS2.out _).mono ?_; rintro e w2 ⟨rfl, hb2⟩
      have HLO := Lib.hid (HB1.out.below hb2).old.size
      have HB2 := Lib.hid ((HB1.out.below hb2).below (al0 _))
      clear hb2 al0
      go_wp2_with fail
      go_ret2
      exact ⟨⟨.slice (some ⟨w2.heap.size, 0, none⟩) 0 0, [], by simp, numsNil _ _ (by simp), fun b h => by have e : w2.heap.size = b := Option.some.inj h; have := HLO.out; omega, ret_uv HE.out.symm⟩, HB2.out.old⟩
    · rw [hv] at HIS
      rw [hv2] at HIS2
      unfold strV at HIS HIS2
      by_cases hnm : n = m
      · subst hnm
        obtain ⟨k, rfl⟩ := nat_of_valid hv
        obtain ⟨h1, h8, hSS, hRR, _, _⟩ := valid_is hv
        obtain ⟨_, _, hSS2, hRR2, _, _⟩ := valid_is hv2
        have HE : Hid (RES = !(Gs.shapes (stOf k S R) (stOf k S2 R2)).isEmpty) := by show _ = _; rw [← hres]; unfold ssB; rw [hv, hv2]; simp
        have HOR := Lib.hid (fun w v hv => order_anyL k S R S2 R2 h8 hSS hRR hSS2 hRR2 k w v [] (by simp) (by simp) hv)
        unfold strV at HOR
        clear hv hv2 hres hSS hRR hSS2 hRR2
        unfold strV
        go_enter Tryz.func167, Tryz.ntmps167
        go_upto_region 1 with fail
        rw [HW.out]
        go_wp2_with fail
        refine (HIS.out _).mono ?_; rintro e w1 ⟨rfl, hb1⟩
        have HB1 := Lib.hid (HB.out.below hb1)
        clear hb1 s0 s1 s2 hl t0 t1 t2 hl'
        obtain ⟨t0, t1, t2, _, _, _, hl'⟩ := HB1.out.b.cells
        go_wp2_with fail
        refine (HIS2.out _).mono ?_; rintro e w2 ⟨rfl, hb2⟩
        have HB2 := Lib.hid (HB1.out.below hb2)
        clear hb2 t0 t1 t2 hl'
        have HLO := Lib.hid HB2.out.old.size
        have HB3 := Lib.hid (HB2.out.below (al0 _))
        obtain ⟨s0, s1, s2, _, _, _, hl⟩ := HB2.out.a.cells
        obtain ⟨t0, t1, t2, _, _, _, hl'⟩ := HB2.out.b.cells
        obtain ⟨u0, u1, u2, _, _, _, hm⟩ := HB3.out.a.cells
        obtain ⟨x0, x1, x2, _, _, _, hm'⟩ := HB3.out.b.cells
        have HCC := Lib.hid (HOR.out (w2.alloc (.cells #[] 3)) (.slice (some ⟨w2.heap.size, 0, none⟩) 0 0) (.inr ⟨w2.heap.size, 0, 0, rfl, Nat.le_refl _, by decide, by simp, fun j hj => by simp at hj⟩))
        clear al0 HOR
        go_wp2_with fail
        refine HCC.out.mono ?_; rintro e w3 ⟨⟨v, L3, hl3, hn3, ho3, rfl⟩, hb3⟩
        have HN3 := Lib.hid (And.intro hl3 hn3)
        have HO3 : Hid (∀ b, v.ownBlock = some b → w.heap.size ≤ b) := fun b hb => by
          have h2 := HLO.out
          rcases ho3 b hb with h | h
          · have e : w2.heap.size = b := Option.some.inj h
            omega
          · simp at h; omega
        clear hl3 hn3 ho3
        have HB4 := Lib.hid (HB3.out.below hb3)
        clear hb3 s0 s1 s2 hl t0 t1 t2 hl' u0 u1 u2 hm x0 x1 x2 hm'
        go_wp2_with fail
        go_ret2
        exact ⟨⟨v, L3, Nat.le_trans HN3.out.1 h8, HN3.out.2, HO3.out, ret_uv HE.out.symm⟩, HB4.out.old⟩
      · have HE : Hid (RES = false) := by show _ = _; rw [← hres]; unfold ssB; rw [hv, hv2]; simp [hnm]
        have hnB : (n != m) = true := by simpa using hnm
        clear hv hv2 hres
        unfold strV
        go_enter Tryz.func167, Tryz.ntmps167
        go_upto_region 1 with fail
        rw [HW.out]
        go_wp2_with fail
        refine (HIS.out _).mono ?_; rintro e w1 ⟨rfl, hb1⟩
        have HB1 := Lib.hid (HB.out.below hb1)
        clear hb1 s0 s1 s2 hl t0 t1 t2 hl'
        obtain ⟨t0, t1, t2, _, _, _, hl'⟩ := HB1.out.b.cells
        go_wp2_with fail
        refine (HIS2.out _).mono ?_; rintro e w2 ⟨rfl, hb2⟩
        have HB2 := Lib.hid (HB1.out.below hb2)
        clear hb2 t0 t1 t2 hl'
        obtain ⟨s0, s1, s2, _, _, _, hl⟩ := HB2.out.a.cells
        obtain ⟨t0, t1, t2, _, _, _, hl'⟩ := HB2.out.b.cells
        have HLO := Lib.hid HB2.out.old.size
        have HB3 := Lib.hid (HB2.out.below (al0 _))
        clear al0
        go_wp2_with fail
        go_ret2
        exact ⟨⟨.slice (some ⟨w2.heap.size, 0, none⟩) 0 0, [], by simp, numsNil _ _ (by simp), fun b h => by have e : w2.heap.size = b := Option.some.inj h; have := HLO.out; omega, ret_uv HE.out.symm⟩, HB3.out.old⟩
theorem specSameShape_any (n : Int) (S R : ByteArray) (m : Int) (S2 R2 : ByteArray) (hS : S.size ≤ 9223372036854775807) (hR : R.size ≤ 9223372036854775807) (hS2 : S2.size ≤ 9223372036854775807) (hR2 : R2.size ≤ 9223372036854775807) (w : World) :
    Calls Tryz.prog 167 #[strV n S R, strV m S2 R2] w fun e w' => (∃ v, e = .returned (.tuple #[v, .bool (ssB m S2 R2 n S R)])) ∧ Below w.heap.size w w' :=
  (specSameShape_list n S R m S2 R2 hS hR hS2 hR2 w).mono fun e w' ⟨⟨u, _, _, _, _, h⟩, hb⟩ => ⟨⟨u, h⟩, hb⟩
end Go.Proofs.YtjepegkbbbebkaaGreatDoor
/- The reference's draw of an order of the elements. Condition: the reader is one. -/
namespace Go.Proofs.YtjepegkbbbebkaaGreatDoor
open Go.RowKit
set_option linter.unusedVariables false
set_option maxRecDepth 100000

theorem drew_alloc (w : World) (o : Obj) : (w.alloc o).drew = w.drew.alloc o := rfl
/-- What l1Shuffle leaves. -/
def Shuf (b K n : Nat) (w : World) (e : Ending) (w' : World) : Prop :=
  ∃ v L, e = .returned v ∧ L.length = n ∧ (∀ z ∈ L, z < n) ∧ NumsAt w' v L ∧ RdB w' b (K + n) ∧ w.grownBy w' (some b)
theorem nums_lo {w : World} {g cap k : Nat} {L : List Nat} (h1 : L.length ≤ cap) (h2 : cap ≤ maxLen) (hg : g < w.heap.size) (hc : ∀ j, j < L.length → w.cell? ⟨g, j, none⟩ = some (.int .i64 ((L.getD j 0 : Nat) : Int))) (hk : k ≤ L.length) : NumsAt w (.slice (some ⟨g, 0, none⟩) k cap) (L.take k) := by
  have hl : (L.take k).length = k := by rw [List.length_take]; omega
  refine .inr ⟨g, 0, cap, by rw [hl], by omega, h2, hg, fun j hj => ?_⟩
  rw [hl] at hj
  rw [Nat.zero_add, hc j (by omega)]
  have : (L.take k).getD j 0 = L.getD j 0 := by simp [hj]
  rw [this]
theorem nums_hi {w : World} {g cap k : Nat} {L : List Nat} (h1 : L.length ≤ cap) (h2 : cap ≤ maxLen) (hg : g < w.heap.size) (hc : ∀ j, j < L.length → w.cell? ⟨g, j, none⟩ = some (.int .i64 ((L.getD j 0 : Nat) : Int))) (hk : k ≤ L.length) : NumsAt w (.slice (some ⟨g, k, none⟩) (L.length - k) (cap - k)) (L.drop k) := by
  refine .inr ⟨g, k, cap - k, by rw [List.length_drop], by rw [List.length_drop]; omega, by omega, hg, fun j hj => ?_⟩
  rw [List.length_drop] at hj
  rw [hc (k + j) (by omega)]
  have : (L.drop k).getD j 0 = L.getD (k + j) 0 := by simp [List.getElem?_drop]
  rw [this]
theorem nums_hi0 {w : World} {g : Nat} (hg : g < w.heap.size) : NumsAt w (.slice (some ⟨g, 0, none⟩) 0 0) [] := .inr ⟨g, 0, 0, rfl, by simp, by decide, hg, fun j hj => absurd hj (Nat.not_lt_zero _)⟩
set_option maxHeartbeats 4000000 in
theorem l1Shuffle_any (w : World) (b K n : Nat) (h : RdB w b K) (hk : K < 1000000000000) (hn : n ≤ 8) :
    Calls Tryz.prog 133 #[.pointer (some ⟨b, 0, none⟩), .int .i64 (n : Int)] w (Shuf b K n w) := by
  have H := Lib.hid h
  have hbw := h.block
  have HBW := Lib.hid hbw
  clear h hbw
  have H0 : Hid (Own w.heap.size (w.alloc (.cells #[] 3)) (.slice (some ⟨w.heap.size, 0, none⟩) 0 0) []) := Own.lit0 _ w (Nat.le_refl _)
  go_enter Tryz.func133, Tryz.ntmps133
  go_wp2_with fail
  go_loopw [5, 6] (fun p q wr => ∃ i : Nat, i ≤ n ∧ q = .int .i64 (i : Int) ∧ ∃ L : List Nat, Hid (L.length = i ∧ (∀ z ∈ L, z < n) ∧ Own w.heap.size wr p L ∧ RdB wr b (K + i) ∧ w.grownBy wr (some b))) (fun _ q _ => n - (intOf q).toNat)
  case atStart => exact ⟨0, by omega, rfl, [], rfl, (fun z hz => by cases hz), H0.out, H.out.grown (grown_alloc w _), (grown_alloc w _).but _⟩
  case round =>
    clear H0
    obtain ⟨i, hi, rfl, L, HL⟩ := hrel
    by_cases hlt : i < n
    · have hltI : (i : Int) < (n : Int) := by omega
      obtain ⟨g, cap, rfl, hBg, hg, hc1, hc2, hc⟩ := HL.out.2.2.1.cells
      have hll : L.length = i := HL.out.1
      have HLL := Lib.hid hll
      rw [hll]
      rw [hll] at hc1
      have HC := Lib.hid hc
      clear hc hll
      unfold maxLen at hc2
      go_wp2_with fail
      refine (pickB _ b (K + i) _ HL.out.2.2.2.1 (by omega) (by omega) (by omega)).mono ?_; rintro e w4 ⟨kz, rfl, k0, k1, hr, hgr⟩
      obtain ⟨k, rfl⟩ := Int.eq_ofNat_of_zero_le k0
      have hki : k ≤ i := by omega
      have HR4 := Lib.hid hr
      have HG4 := Lib.hid (HL.out.2.2.2.2.trans hgr)
      have hgb : g ≠ b := by have := HBW.out; omega
      have HG := Lib.hid (show g < w4.heap.size from Nat.lt_of_lt_of_le hg hgr.size)
      have HC4 : Hid (∀ j, j < L.length → w4.cell? ⟨g, j, none⟩ = some (.int .i64 ((L.getD j 0 : Nat) : Int))) := fun j hj => hgr.cell (HC.out j hj) (by intro e; injection e with e; exact hgb e)
      clear hr hgr k0 k1
      have hcm : cap ≤ maxLen := hc2
      have HNT : Hid (NumsAt w4 (.slice (some ⟨g, 0, none⟩) k cap) (L.take k)) := nums_lo (by rw [HLL.out]; exact hc1) hcm HG.out HC4.out (by rw [HLL.out]; exact hki)
      have HL1 : Hid (Hid (([] ++ L.take k).length + [i].length ≤ 2000000)) := by have := HLL.out; show _ ≤ _; simp; omega
      have HL2 : Hid (Hid (([] ++ L.take k ++ [i]).length + (L.drop k).length ≤ 2000000)) := by have := HLL.out; show _ ≤ _; simp; omega
      have HL0 : Hid (Hid (([] : List Nat).length + (L.take k).length ≤ 2000000)) := by have := HLL.out; show _ ≤ _; simp; omega
      have HFIN : Hid (([] ++ L.take k ++ [i] ++ L.drop k).length = i + 1 ∧ ∀ z ∈ [] ++ L.take k ++ [i] ++ L.drop k, z < n) := by
        refine ⟨by have := HLL.out; simp; omega, fun z hz => ?_⟩
        simp only [List.nil_append, List.mem_append, List.mem_singleton] at hz
        rcases hz with (hz | hz) | hz
        · exact HL.out.2.1 z (List.mem_of_mem_take hz)
        · omega
        · exact HL.out.2.1 z (List.mem_of_mem_drop hz)
      have s1 : (0 : Int) ≤ (k : Int) := by omega
      have s2 : (k : Int) ≤ (cap : Int) := by omega
      have s3 : (k : Int) ≤ (i : Int) := by omega
      have s4 : k ≤ cap := by omega
      have hwL := HG4.out.size
      by_cases hck : cap = k
      · have hik : i = k := by omega
        have HND : Hid (NumsAt w4 (.slice (some ⟨g, 0, none⟩) 0 0) (L.drop k)) := by rw [List.drop_eq_nil_of_le (by rw [HLL.out]; omega)]; exact nums_hi0 HG.out
        subst hik
        have hck2 : i = cap := hck.symm
        subst hck2
        clear hck
        go_wp2_with fail
        go_region_law ((first | (refine step_ownAll (w := ((w4.alloc (.cells #[] 3)).alloc (.cells #[.int .i64 (i : Int)] 3)).drew) (show Own w4.heap.size ((w4.alloc (.cells #[] 3)).alloc (.cells #[.int .i64 (i : Int)] 3)).drew (.slice (some ⟨w4.heap.size, 0, none⟩) 0 0) [] from (Own.lit w4.heap.size w4.drew w4.heap.size (by simp) (by simp)).alloc (.cells #[.int .i64 (i : Int)] 3)) (show NumsAt ((w4.alloc (.cells #[] 3)).alloc (.cells #[.int .i64 (i : Int)] 3)).drew (.slice (some ⟨g, 0, none⟩) i i) (L.take i) from HNT.out.below (below2 w4 (.cells #[] 3) (.cells #[.int .i64 (i : Int)] 3))) HL0.out rfl (.tmp 19) (.tmp 22) rfl rfl rfl ?_; intro v1 w1 ho hg; have HO1 := Lib.hid ho; have HB1 := Lib.hid (grown_up (below2 w4 (.cells #[] 3) (.cells #[.int .i64 (i : Int)] 3)) hg (by simp) (Nat.le_refl _)); have HN1 : Hid (NumsAt w1 (.slice (some ⟨w4.heap.size + 1, 0, none⟩) 1 1) [i]) := ((show NumsAt ((w4.alloc (.cells #[] 3)).alloc (.cells #[.int .i64 (i : Int)] 3)).drew (.slice (some ⟨w4.heap.size + 1, 0, none⟩) 1 1) [i] from NumsAt.one' (w4.drew.alloc (.cells #[] 3)) i (w4.heap.size + 1) (by simp)).kept (fun k hk hl => hg.block k hl (by have e : _ = k := Option.some.inj hk; subst e; simp [Value.ownBlock])) hg.size); clear ho hg) | (refine step_ownAll (w := ((w4.alloc (.cells #[] 3)).drew.alloc (.cells #[.int .i64 (i : Int)] 3))) (show Own w4.heap.size ((w4.alloc (.cells #[] 3)).drew.alloc (.cells #[.int .i64 (i : Int)] 3)) (.slice (some ⟨w4.heap.size, 0, none⟩) 0 0) [] from (Own.lit w4.heap.size w4.drew w4.heap.size (by simp) (by simp)).alloc (.cells #[.int .i64 (i : Int)] 3)) (show NumsAt ((w4.alloc (.cells #[] 3)).drew.alloc (.cells #[.int .i64 (i : Int)] 3)) (.slice (some ⟨g, 0, none⟩) i i) (L.take i) from HNT.out.below (below2 w4 (.cells #[] 3) (.cells #[.int .i64 (i : Int)] 3))) HL0.out rfl (.tmp 19) (.tmp 22) rfl rfl rfl ?_; intro v1 w1 ho hg; have HO1 := Lib.hid ho; have HB1 := Lib.hid (grown_up (below2 w4 (.cells #[] 3) (.cells #[.int .i64 (i : Int)] 3)) hg (by simp) (Nat.le_refl _)); have HN1 : Hid (NumsAt w1 (.slice (some ⟨w4.heap.size + 1, 0, none⟩) 1 1) [i]) := ((show NumsAt ((w4.alloc (.cells #[] 3)).drew.alloc (.cells #[.int .i64 (i : Int)] 3)) (.slice (some ⟨w4.heap.size + 1, 0, none⟩) 1 1) [i] from NumsAt.one' (w4.drew.alloc (.cells #[] 3)) i (w4.heap.size + 1) (by simp)).kept (fun k hk hl => hg.block k hl (by have e : _ = k := Option.some.inj hk; subst e; simp [Value.ownBlock])) hg.size); clear ho hg) | (refine step_ownAll (w := ((w4.alloc (.cells #[.int .i64 (i : Int)] 3)).alloc (.cells #[] 3)).drew) (show Own w4.heap.size ((w4.alloc (.cells #[.int .i64 (i : Int)] 3)).alloc (.cells #[] 3)).drew (.slice (some ⟨w4.heap.size + 1, 0, none⟩) 0 0) [] from Own.lit w4.heap.size (w4.drew.alloc (.cells #[.int .i64 (i : Int)] 3)) (w4.heap.size + 1) (by simp) (by simp)) (show NumsAt ((w4.alloc (.cells #[.int .i64 (i : Int)] 3)).alloc (.cells #[] 3)).drew (.slice (some ⟨g, 0, none⟩) i i) (L.take i) from HNT.out.below (below2 w4 (.cells #[.int .i64 (i : Int)] 3) (.cells #[] 3))) HL0.out rfl (.tmp 19) (.tmp 22) rfl rfl rfl ?_; intro v1 w1 ho hg; have HO1 := Lib.hid ho; have HB1 := Lib.hid (grown_up (below2 w4 (.cells #[.int .i64 (i : Int)] 3) (.cells #[] 3)) hg (by simp) (Nat.le_refl _)); have HN1 : Hid (NumsAt w1 (.slice (some ⟨w4.heap.size, 0, none⟩) 1 1) [i]) := ((show NumsAt ((w4.alloc (.cells #[.int .i64 (i : Int)] 3)).alloc (.cells #[] 3)).drew (.slice (some ⟨w4.heap.size, 0, none⟩) 1 1) [i] from (NumsAt.one' w4.drew i w4.heap.size (by simp)).below ((Below.refl _ _).alloc (Nat.le_refl _) (.cells #[] 3))).kept (fun k hk hl => hg.block k hl (by have e : _ = k := Option.some.inj hk; subst e; simp [Value.ownBlock])) hg.size); clear ho hg) | (refine step_ownAll (w := ((w4.alloc (.cells #[.int .i64 (i : Int)] 3)).drew.alloc (.cells #[] 3))) (show Own w4.heap.size ((w4.alloc (.cells #[.int .i64 (i : Int)] 3)).drew.alloc (.cells #[] 3)) (.slice (some ⟨w4.heap.size + 1, 0, none⟩) 0 0) [] from Own.lit w4.heap.size (w4.drew.alloc (.cells #[.int .i64 (i : Int)] 3)) (w4.heap.size + 1) (by simp) (by simp)) (show NumsAt ((w4.alloc (.cells #[.int .i64 (i : Int)] 3)).drew.alloc (.cells #[] 3)) (.slice (some ⟨g, 0, none⟩) i i) (L.take i) from HNT.out.below (below2 w4 (.cells #[.int .i64 (i : Int)] 3) (.cells #[] 3))) HL0.out rfl (.tmp 19) (.tmp 22) rfl rfl rfl ?_; intro v1 w1 ho hg; have HO1 := Lib.hid ho; have HB1 := Lib.hid (grown_up (below2 w4 (.cells #[.int .i64 (i : Int)] 3) (.cells #[] 3)) hg (by simp) (Nat.le_refl _)); have HN1 : Hid (NumsAt w1 (.slice (some ⟨w4.heap.size, 0, none⟩) 1 1) [i]) := ((show NumsAt ((w4.alloc (.cells #[.int .i64 (i : Int)] 3)).drew.alloc (.cells #[] 3)) (.slice (some ⟨w4.heap.size, 0, none⟩) 1 1) [i] from (NumsAt.one' w4.drew i w4.heap.size (by simp)).below ((Below.refl _ _).alloc (Nat.le_refl _) (.cells #[] 3))).kept (fun k hk hl => hg.block k hl (by have e : _ = k := Option.some.inj hk; subst e; simp [Value.ownBlock])) hg.size); clear ho hg) | (refine step_ownAll (w := (w4.alloc (.cells #[] 3)).drew) (show Own w4.heap.size ((w4.alloc (.cells #[] 3)).drew) (.slice (some ⟨w4.heap.size, 0, none⟩) 0 0) [] from Own.lit w4.heap.size w4.drew w4.heap.size (by simp) (by simp)) (show NumsAt ((w4.alloc (.cells #[] 3)).drew) (.slice (some ⟨g, 0, none⟩) i i) (L.take i) from HNT.out.below (below1 w4 (.cells #[] 3))) HL0.out rfl (.tmp 19) (.tmp 22) rfl rfl rfl ?_; intro v1 w1 ho hg; have HO1 := Lib.hid ho; have HB1 := Lib.hid (grown_up (below1 w4 (.cells #[] 3)) hg (by simp) (Nat.le_refl _)); clear ho hg) | (refine step_ownAll (w := w1.alloc (.cells #[.int .i64 (i : Int)] 3)) (HO1.out.alloc _) (NumsAt.one w1 i) HL1.out rfl (.tmp 23) (.tmp 25) rfl rfl rfl ?_; intro v2 w2 ho hg; have HO2 := Lib.hid ho; have HB2 := Lib.hid ((HB1.out.alloc HB1.out.size _).grown hg (by have := HB1.out.size; simp; omega) (fun k hk => (HO1.out.own.lt k hk).1)); clear ho hg) | (refine step_ownAll (w := w1) HO1.out HN1.out HL1.out rfl (.tmp 23) (.tmp 25) rfl rfl rfl ?_; intro v2 w2 ho hg; have HO2 := Lib.hid ho; have HB2 := Lib.hid (HB1.out.grown hg HB1.out.size (fun k hk => (HO1.out.own.lt k hk).1)); clear ho hg) | (refine step_ownAll (w := w2) HO2.out (HND.out.below HB2.out) HL2.out rfl (.tmp 26) (.tmp 29) rfl rfl rfl ?_; intro v3 w3 ho hg; have HO3 := Lib.hid ho; have HB3 := Lib.hid (HB2.out.grown hg HB2.out.size (fun k hk => (HO2.out.own.lt k hk).1)); clear ho hg)))
        all_goals
          have HR3 := Lib.hid (HR4.out.grown (below_grown HB3.out))
          have HG3 := Lib.hid (HG4.out.trans (below_grown HB3.out))
          go_wp2_with fail
          go_roundw
          case rel => exact ⟨i + 1, by omega, by go_num, _, HFIN.out.1, HFIN.out.2, HO3.out.mono hwL, HR3.out, HG3.out⟩
          case measure => simp [intOf]; omega
      · have s5 : ¬ cap = k := hck
        have s6 : ¬ (cap : Int) = (k : Int) := by omega
        have HND : Hid (NumsAt w4 (.slice (some ⟨g, k, none⟩) (i - k) (cap - k)) (L.drop k)) := by have := nums_hi (k := k) (by rw [HLL.out]; exact hc1) hcm HG.out HC4.out (by rw [HLL.out]; exact hki); rw [HLL.out] at this; exact this
        go_wp2_with fail
        go_region_law ((first | (refine step_ownAll (w := ((w4.alloc (.cells #[] 3)).alloc (.cells #[.int .i64 (i : Int)] 3)).drew) (show Own w4.heap.size ((w4.alloc (.cells #[] 3)).alloc (.cells #[.int .i64 (i : Int)] 3)).drew (.slice (some ⟨w4.heap.size, 0, none⟩) 0 0) [] from (Own.lit w4.heap.size w4.drew w4.heap.size (by simp) (by simp)).alloc (.cells #[.int .i64 (i : Int)] 3)) (show NumsAt ((w4.alloc (.cells #[] 3)).alloc (.cells #[.int .i64 (i : Int)] 3)).drew (.slice (some ⟨g, 0, none⟩) k cap) (L.take k) from HNT.out.below (below2 w4 (.cells #[] 3) (.cells #[.int .i64 (i : Int)] 3))) HL0.out rfl (.tmp 19) (.tmp 22) rfl rfl rfl ?_; intro v1 w1 ho hg; have HO1 := Lib.hid ho; have HB1 := Lib.hid (grown_up (below2 w4 (.cells #[] 3) (.cells #[.int .i64 (i : Int)] 3)) hg (by simp) (Nat.le_refl _)); have HN1 : Hid (NumsAt w1 (.slice (some ⟨w4.heap.size + 1, 0, none⟩) 1 1) [i]) := ((show NumsAt ((w4.alloc (.cells #[] 3)).alloc (.cells #[.int .i64 (i : Int)] 3)).drew (.slice (some ⟨w4.heap.size + 1, 0, none⟩) 1 1) [i] from NumsAt.one' (w4.drew.alloc (.cells #[] 3)) i (w4.heap.size + 1) (by simp)).kept (fun k hk hl => hg.block k hl (by have e : _ = k := Option.some.inj hk; subst e; simp [Value.ownBlock])) hg.size); clear ho hg) | (refine step_ownAll (w := ((w4.alloc (.cells #[] 3)).drew.alloc (.cells #[.int .i64 (i : Int)] 3))) (show Own w4.heap.size ((w4.alloc (.cells #[] 3)).drew.alloc (.cells #[.int .i64 (i : Int)] 3)) (.slice (some ⟨w4.heap.size, 0, none⟩) 0 0) [] from (Own.lit w4.heap.size w4.drew w4.heap.size (by simp) (by simp)).alloc (.cells #[.int .i64 (i : Int)] 3)) (show NumsAt ((w4.alloc (.cells #[] 3)).drew.alloc (.cells #[.int .i64 (i : Int)] 3)) (.slice (some ⟨g, 0, none⟩) k cap) (L.take k) from HNT.out.below (below2 w4 (.cells #[] 3) (.cells #[.int .i64 (i : Int)] 3))) HL0.out rfl (.tmp 19) (.tmp 22) rfl rfl rfl ?_; intro v1 w1 ho hg; have HO1 := Lib.hid ho; have HB1 := Lib.hid (grown_up (below2 w4 (.cells #[] 3) (.cells #[.int .i64 (i : Int)] 3)) hg (by simp) (Nat.le_refl _)); have HN1 : Hid (NumsAt w1 (.slice (some ⟨w4.heap.size + 1, 0, none⟩) 1 1) [i]) := ((show NumsAt ((w4.alloc (.cells #[] 3)).drew.alloc (.cells #[.int .i64 (i : Int)] 3)) (.slice (some ⟨w4.heap.size + 1, 0, none⟩) 1 1) [i] from NumsAt.one' (w4.drew.alloc (.cells #[] 3)) i (w4.heap.size + 1) (by simp)).kept (fun k hk hl => hg.block k hl (by have e : _ = k := Option.some.inj hk; subst e; simp [Value.ownBlock])) hg.size); clear ho hg) | (refine step_ownAll (w := ((w4.alloc (.cells #[.int .i64 (i : Int)] 3)).alloc (.cells #[] 3)).drew) (show Own w4.heap.size ((w4.alloc (.cells #[.int .i64 (i : Int)] 3)).alloc (.cells #[] 3)).drew (.slice (some ⟨w4.heap.size + 1, 0, none⟩) 0 0) [] from Own.lit w4.heap.size (w4.drew.alloc (.cells #[.int .i64 (i : Int)] 3)) (w4.heap.size + 1) (by simp) (by simp)) (show NumsAt ((w4.alloc (.cells #[.int .i64 (i : Int)] 3)).alloc (.cells #[] 3)).drew (.slice (some ⟨g, 0, none⟩) k cap) (L.take k) from HNT.out.below (below2 w4 (.cells #[.int .i64 (i : Int)] 3) (.cells #[] 3))) HL0.out rfl (.tmp 19) (.tmp 22) rfl rfl rfl ?_; intro v1 w1 ho hg; have HO1 := Lib.hid ho; have HB1 := Lib.hid (grown_up (below2 w4 (.cells #[.int .i64 (i : Int)] 3) (.cells #[] 3)) hg (by simp) (Nat.le_refl _)); have HN1 : Hid (NumsAt w1 (.slice (some ⟨w4.heap.size, 0, none⟩) 1 1) [i]) := ((show NumsAt ((w4.alloc (.cells #[.int .i64 (i : Int)] 3)).alloc (.cells #[] 3)).drew (.slice (some ⟨w4.heap.size, 0, none⟩) 1 1) [i] from (NumsAt.one' w4.drew i w4.heap.size (by simp)).below ((Below.refl _ _).alloc (Nat.le_refl _) (.cells #[] 3))).kept (fun k hk hl => hg.block k hl (by have e : _ = k := Option.some.inj hk; subst e; simp [Value.ownBlock])) hg.size); clear ho hg) | (refine step_ownAll (w := ((w4.alloc (.cells #[.int .i64 (i : Int)] 3)).drew.alloc (.cells #[] 3))) (show Own w4.heap.size ((w4.alloc (.cells #[.int .i64 (i : Int)] 3)).drew.alloc (.cells #[] 3)) (.slice (some ⟨w4.heap.size + 1, 0, none⟩) 0 0) [] from Own.lit w4.heap.size (w4.drew.alloc (.cells #[.int .i64 (i : Int)] 3)) (w4.heap.size + 1) (by simp) (by simp)) (show NumsAt ((w4.alloc (.cells #[.int .i64 (i : Int)] 3)).drew.alloc (.cells #[] 3)) (.slice (some ⟨g, 0, none⟩) k cap) (L.take k) from HNT.out.below (below2 w4 (.cells #[.int .i64 (i : Int)] 3) (.cells #[] 3))) HL0.out rfl (.tmp 19) (.tmp 22) rfl rfl rfl ?_; intro v1 w1 ho hg; have HO1 := Lib.hid ho; have HB1 := Lib.hid (grown_up (below2 w4 (.cells #[.int .i64 (i : Int)] 3) (.cells #[] 3)) hg (by simp) (Nat.le_refl _)); have HN1 : Hid (NumsAt w1 (.slice (some ⟨w4.heap.size, 0, none⟩) 1 1) [i]) := ((show NumsAt ((w4.alloc (.cells #[.int .i64 (i : Int)] 3)).drew.alloc (.cells #[] 3)) (.slice (some ⟨w4.heap.size, 0, none⟩) 1 1) [i] from (NumsAt.one' w4.drew i w4.heap.size (by simp)).below ((Below.refl _ _).alloc (Nat.le_refl _) (.cells #[] 3))).kept (fun k hk hl => hg.block k hl (by have e : _ = k := Option.some.inj hk; subst e; simp [Value.ownBlock])) hg.size); clear ho hg) | (refine step_ownAll (w := (w4.alloc (.cells #[] 3)).drew) (show Own w4.heap.size ((w4.alloc (.cells #[] 3)).drew) (.slice (some ⟨w4.heap.size, 0, none⟩) 0 0) [] from Own.lit w4.heap.size w4.drew w4.heap.size (by simp) (by simp)) (show NumsAt ((w4.alloc (.cells #[] 3)).drew) (.slice (some ⟨g, 0, none⟩) k cap) (L.take k) from HNT.out.below (below1 w4 (.cells #[] 3))) HL0.out rfl (.tmp 19) (.tmp 22) rfl rfl rfl ?_; intro v1 w1 ho hg; have HO1 := Lib.hid ho; have HB1 := Lib.hid (grown_up (below1 w4 (.cells #[] 3)) hg (by simp) (Nat.le_refl _)); clear ho hg) | (refine step_ownAll (w := w1.alloc (.cells #[.int .i64 (i : Int)] 3)) (HO1.out.alloc _) (NumsAt.one w1 i) HL1.out rfl (.tmp 23) (.tmp 25) rfl rfl rfl ?_; intro v2 w2 ho hg; have HO2 := Lib.hid ho; have HB2 := Lib.hid ((HB1.out.alloc HB1.out.size _).grown hg (by have := HB1.out.size; simp; omega) (fun k hk => (HO1.out.own.lt k hk).1)); clear ho hg) | (refine step_ownAll (w := w1) HO1.out HN1.out HL1.out rfl (.tmp 23) (.tmp 25) rfl rfl rfl ?_; intro v2 w2 ho hg; have HO2 := Lib.hid ho; have HB2 := Lib.hid (HB1.out.grown hg HB1.out.size (fun k hk => (HO1.out.own.lt k hk).1)); clear ho hg) | (refine step_ownAll (w := w2) HO2.out (HND.out.below HB2.out) HL2.out rfl (.tmp 26) (.tmp 29) rfl rfl rfl ?_; intro v3 w3 ho hg; have HO3 := Lib.hid ho; have HB3 := Lib.hid (HB2.out.grown hg HB2.out.size (fun k hk => (HO2.out.own.lt k hk).1)); clear ho hg)))
        all_goals
          have HR3 := Lib.hid (HR4.out.grown (below_grown HB3.out))
          have HG3 := Lib.hid (HG4.out.trans (below_grown HB3.out))
          go_wp2_with fail
          go_roundw
          case rel => exact ⟨i + 1, by omega, by go_num, _, HFIN.out.1, HFIN.out.2, HO3.out.mono hwL, HR3.out, HG3.out⟩
          case measure => simp [intOf]; omega
    · have hltI : ¬ (i : Int) < (n : Int) := by omega
      have hin : i = n := by omega
      subst hin
      obtain ⟨L1, L2, L3, L4, L5⟩ := HL.out
      have HP : Hid (∀ v, Own w.heap.size wr v L → Shuf b K i w (.returned v) wr) := fun v hv => ⟨_, L, rfl, L1, L2, hv.nums, L4, L5⟩
      have HP2 := Lib.hid (HP.out _ L3)
      clear HP
      clear HL L1 L2 L3 L4 L5
      go_wp2_with fail
      go_ret
      exact HP2.out
end Go.Proofs.YtjepegkbbbebkaaGreatDoor
/- The reference's l1Flip of one byte. Condition: the text has one byte. -/
namespace Go.Proofs.YtjepegkbbbebkaaGreatDoor
open Go.RowKit
set_option linter.unusedVariables false
set_option maxRecDepth 100000

theorem u8_wrap (z : Int) : ∃ d : UInt8, IntKind.u8.wrap z = ((d.toNat : Nat) : Int) := by
  have h : IntKind.u8.wrap z = z % 256 := by rfl
  refine ⟨UInt8.ofNat (z % 256).toNat, ?_⟩
  rw [h]
  have h0 : 0 ≤ z % 256 := Int.emod_nonneg _ (by decide)
  have h1 : z % 256 < 256 := Int.emod_lt_of_pos _ (by decide)
  rw [UInt8.toNat_ofNat']
  omega
/-- The byte that a text's first byte is turned into. -/
noncomputable def flipU (t : ByteArray) : UInt8 := Classical.choose (u8_wrap (97 - (((t.data.toList.getD 0 0).toNat : Nat) : Int)))
theorem flipU_is (t : ByteArray) : IntKind.u8.wrap (97 - (((t.data.toList.getD 0 0).toNat : Nat) : Int)) = (((flipU t).toNat : Nat) : Int) := Classical.choose_spec (u8_wrap (97 - (((t.data.toList.getD 0 0).toNat : Nat) : Int)))
/-- What the flipping keeps. -/
def Fl (w wr : World) (d : UInt8) : Prop := wr.cell? ⟨w.heap.size, 0, none⟩ = some (.int .u8 ((d.toNat : Nat) : Int)) ∧ wr.frozen? ⟨w.heap.size, 0, none⟩ = false ∧ Below w.heap.size w wr
theorem l1Flip_one (t : ByteArray) (ht : t.size = 1) (w : World) :
    Calls Tryz.prog 134 #[.string t] w fun e w' => e = .returned (.string ⟨#[flipU t]⟩) ∧ Below w.heap.size w w' := by
  have hd2 := flipU_is t
  have cs := Lib.run_convert_string_bytes (P := Tryz.prog) w 9 22 5 t Tryz.underlying9 Tryz.underlying22 Tryz.underlying5
  have HF0 : Hid (Fl w (Lib.bytesWorld w 5 t) (t.data.toList.getD 0 0)) := by
    refine ⟨Lib.bytesWorld_cell w 5 t 0 (by omega), ?_, ⟨rfl, rfl, rfl, by rw [Lib.bytesWorld_size]; omega, fun k hk => Lib.bytesWorld_at_old _ _ _ _ hk⟩⟩
    unfold World.frozen?
    rw [Lib.bytesWorld_at_new]
    have hs : 1 ≤ (Lib.bytesCells w 5 t).size := by
      unfold Lib.bytesCells
      have : t.data.size = 1 := ht
      simp; omega
    show (decide ((Lib.bytesCells w 5 t).size ≤ 0) && _) = false
    rw [decide_eq_false (by omega)]; rfl
  rw [ht] at cs
  obtain ⟨W1, hW1⟩ : ∃ W1, Lib.bytesWorld w 5 t = W1 := ⟨_, rfl⟩
  rw [hW1] at cs HF0
  clear hW1 ht
  generalize flipU t = d2 at *
  generalize t.data.toList.getD 0 0 = d0 at *
  generalize grownCap w 1 0 5 = cap at *
  have cb : ∀ (W : World) (d : UInt8), W.cell? ⟨w.heap.size, 0, none⟩ = some (.int .u8 ((d.toNat : Nat) : Int)) → (convert 22 9 (.slice (some ⟨w.heap.size, 0, none⟩) 1 cap)).run Tryz.prog W = .ok (.string ⟨#[d]⟩) W := fun W d hd =>
    run_convert_bytes_back W 22 9 5 ⟨w.heap.size, 0, none⟩ cap [d] Tryz.underlying22 Tryz.underlying5 Tryz.underlying9 (fun j hj => by
      have hj0 : j = 0 := by simpa using hj
      subst hj0
      exact hd)
  have HCB := Lib.hid cb
  clear cb
  go_enter Tryz.func134, Tryz.ntmps134
  go_wp2_with fail
  go_loopw [4] (fun q wr => ∃ j : Nat, j ≤ 1 ∧ q = .int .i64 (j : Int) ∧ Hid (Fl w wr (if j = 0 then d0 else d2))) (fun q _ => 1 - (intOf q).toNat)
  case atStart => exact ⟨0, by omega, rfl, HF0.out⟩
  case round =>
    clear HF0
    obtain ⟨j, hj, rfl, HL⟩ := hrel
    by_cases hlt : j < 1
    · have hj0 : j = 0 := by omega
      subst hj0
      obtain ⟨hd, hfz, hb⟩ : Fl w wr d0 := HL.out
      have HL2 : Hid (Fl w (wr.setCell ⟨w.heap.size, 0, none⟩ (.int .u8 ((d2.toNat : Nat) : Int))) d2) := by
        exact ⟨World.cell?_setCell_same' _ _ _ (by rw [hd]; rfl), by rw [World.frozen?_setCell]; exact hfz, hb.setCell (by simp) _⟩
      clear hb
      go_wp2_with fail
      go_roundw
      case rel => exact ⟨1, by omega, by go_num, HL2.out⟩
      case measure => simp [intOf]
    · have hj1 : j = 1 := by omega
      subst hj1
      obtain ⟨hd, hfz, hb⟩ : Fl w wr d2 := HL.out
      have HB := Lib.hid hb
      have hcb := HCB.out wr d2 hd
      clear hb
      go_wp2_with fail
      go_ret
      exact ⟨rfl, HB.out⟩
end Go.Proofs.YtjepegkbbbebkaaGreatDoor
/- The program's DefinedSet: the elements of which a formula is true. Condition: the texts' lengths fit an integer. -/
namespace Go.Proofs.YtjepegkbbbebkaaGreatDoor
open Go.RowKit
set_option linter.unusedVariables false
set_option maxRecDepth 100000

/-- The first i elements' numbers of which it is true. -/
def defTo (a : Gs.St) (φ : Fm.T) (i : Nat) : List Nat := (List.range i).filter fun x => Fm.holds a φ (env2 x 0)
theorem defTo_succ (a : Gs.St) (φ : Fm.T) (i : Nat) : defTo a φ (i + 1) = if Fm.holds a φ (env2 i 0) then defTo a φ i ++ [i] else defTo a φ i := by
  unfold defTo
  rw [List.range_succ, List.filter_append]
  by_cases h : Fm.holds a φ (env2 i 0) = true
  · rw [if_pos h]; simp [h]
  · rw [if_neg h]; simp [h]
theorem defTo_length (a : Gs.St) (φ : Fm.T) (i : Nat) : (defTo a φ i).length ≤ i := by
  unfold defTo
  have := List.length_filter_le (fun x => Fm.holds a φ (env2 x 0)) (List.range i)
  simpa using this
theorem defTo_lt {a : Gs.St} {φ : Fm.T} {i x : Nat} (h : x ∈ defTo a φ i) : x < i := by
  unfold defTo at h
  rw [List.mem_filter, List.mem_range] at h
  exact h.1
theorem defTo_nodup (a : Gs.St) (φ : Fm.T) (i : Nat) : (defTo a φ i).Nodup := List.Pairwise.filter _ List.nodup_range
/-- The defined set. -/
def defSet (f : ByteArray) (n : Int) (S R : ByteArray) : Option (List Nat) :=
  match readB f with
  | none => none
  | some φ => if validB n S R = true ∧ Fm.free φ / 2 = 0 then some (defTo (stOf n.toNat S R) φ n.toNat) else none
theorem defSet_none {f : ByteArray} {n : Int} {S R : ByteArray} (h : readB f = none) : defSet f n S R = none := by unfold defSet; rw [h]
theorem defSet_some {f : ByteArray} {n : Int} {S R : ByteArray} {φ : Fm.T} (h : readB f = some φ) : defSet f n S R = if validB n S R = true ∧ Fm.free φ / 2 = 0 then some (defTo (stOf n.toNat S R) φ n.toNat) else none := by unfold defSet; rw [h]

/-- What the loop keeps. -/
structure Ds (w w5 : World) (F : Nat → Prop) (hb kb n : Nat) (S R : ByteArray) (φ : Fm.T) (p : Nat) (wr : World) (v : Value) (L : List Nat) : Prop where
  own : Own w5.heap.size wr v L
  base : ∃ G', Base F G' wr hb kb n S R ∧ (∀ b, G' b → w.heap.size ≤ b) ∧ ∀ k, v.ownBlock = some k → ¬ G' k
  tree : Tree F wr φ p
  low : ∀ b, F b → b < w5.heap.size
  old : Below w.heap.size w wr
  sz : w.heap.size ≤ w5.heap.size
section
variable {w w5 wr w' w3 : World} {F : Nat → Prop} {hb kb n : Nat} {S R : ByteArray} {φ : Fm.T} {p : Nat} {v v' : Value} {L L' : List Nat}
theorem Base.far {G H : Nat → Prop} (h : Base F G wr hb kb n S R) (hw : Off H wr w') (hF : ∀ b, F b → ¬ H b) (hG : ∀ b, G b → ¬ H b) : Base F G w' hb kb n S R :=
  ⟨(hw.block hb h.hold.cells.2.2.2.2 (hF _ h.foot)).trans h.hold, h.foot, h.memo.off hw hF hG, h.hS, h.hR, h.n1, h.n8⟩
theorem Ds.call {G' : Nat → Prop} {o : Obj} (h : Ds w w5 F hb kb n S R φ p wr v L) (hB : Base F G' wr hb kb n S R) (hl : ∀ b, G' b → w.heap.size ≤ b) (hk : ∀ k, v.ownBlock = some k → ¬ G' k)
    (hev : EverP F G' kb (stOf n S R) (wr.alloc o) w3) : Ds w w5 F hb kb n S R φ p w3 v L := by
  have al : Below wr.heap.size wr (wr.alloc o) := (Below.refl _ _).alloc (Nat.le_refl _) _
  have hB2 := hB.below al
  have hs : (wr.alloc o).heap.size = wr.heap.size + 1 := by simp
  have hso := h.old.size
  obtain ⟨G2, m2, hG2⟩ := hev.memo
  refine ⟨(h.own.below al).off hev.off hk, ⟨G2, hB2.ever hev m2, fun b hb => ?_, fun k hkv hg => ?_⟩, (h.tree.below al).ever hB2.memo hev, h.low, (h.old.trans (al.mono hso)).trans (hev.off.below (B := w.heap.size) (by omega) hl), h.sz⟩
  · rcases hG2 b hb with h1 | h1
    · exact hl b h1
    · omega
  · obtain ⟨k2, e2, _, l2⟩ := h.own.block
    rw [hkv] at e2
    obtain rfl := Option.some.inj e2
    rcases hG2 k hg with h1 | h1
    · exact hk k hkv h1
    · omega
theorem Ds.push (h : Ds w w5 F hb kb n S R φ p wr v L) (hown : Own w5.heap.size w' v' L') (hg : wr.grownBy w' v.ownBlock) (hat : v'.ownBlock = v.ownBlock ∨ ∃ k, v'.ownBlock = some k ∧ wr.heap.size ≤ k) : Ds w w5 F hb kb n S R φ p w' v' L' := by
  obtain ⟨G', hB, hl, hk⟩ := h.base
  obtain ⟨k1, e1, b1, l1⟩ := h.own.block
  have hoff : Off (fun b => v.ownBlock = some b) wr w' := Off.grown hg (fun b e => e)
  have hF : ∀ b, F b → ¬ v.ownBlock = some b := fun b hb e => by
    have := h.low b hb
    rw [e1] at e
    have := Option.some.inj e
    omega
  refine ⟨hown, ⟨G', hB.far hoff hF (fun b hb e => hk b e hb), hl, fun k hkv hg' => ?_⟩, h.tree.off hoff hF, h.low, h.old.trans (hoff.below (B := w.heap.size) h.old.size (fun b e => ?_)), h.sz⟩
  · rcases hat with h1 | ⟨k2, h1, h2⟩
    · exact hk k (h1 ▸ hkv) hg'
    · rw [h1] at hkv
      obtain rfl := Option.some.inj hkv
      have := hB.memo.lt _ hg'
      omega
  · rw [e1] at e
    have := Option.some.inj e
    have := h.sz
    omega
end
/-- What DefinedSet leaves. -/
def DefP (w : World) (r : Option (List Nat)) (e : Ending) (w' : World) : Prop :=
  Below w.heap.size w w' ∧ ((r = none ∧ ∃ v, e = .returned (.tuple #[v, .bool false]) ∧ NumsAt w' v []) ∨ ∃ v L, r = some L ∧ e = .returned (.tuple #[v, .bool true]) ∧ NumsAt w' v L)

end Go.Proofs.YtjepegkbbbebkaaGreatDoor
/- The structure of some elements: the program's partOf, the reference's l1Has, l1Elements, l1Part, PartOf. Conditions: the structure is valid, the numbers are elements of it. -/
namespace Go.Proofs.YtjepegkbbbebkaaGreatDoor
open Go.RowKit
set_option linter.unusedVariables false
set_option maxRecDepth 100000

/-- The structure of the elements L. -/
def partV (n : Nat) (S R : ByteArray) (L : List Nat) : Value := strV L.length (bitsOf (fun x => oneAt S (L.getD x 0)) L.length) (gridOf (fun x y => relAt n R (L.getD x 0) (L.getD y 0)) L.length)

theorem implPart1_any (n : Nat) (S R : ByteArray) (L : List Nat) (v : Value) (p q x : Nat) (W : World) (hn : n ≤ 8) (hS : S.size = n) (hL : ∀ j, j < L.length → L.getD j 0 < n) (hx : x < L.length) (hp : SBlk W p n S R) (hq : W.cell? ⟨q, 0, none⟩ = some v) (hv : NumsAt W v L) :
    Calls Tryz.prog 208 #[.int .i64 (x : Int), .pointer (some ⟨p, 0, none⟩), .pointer (some ⟨q, 0, none⟩)] W fun e w' => e = .returned (.bool (oneAt S (L.getD x 0))) ∧ Below W.heap.size W w' := by
  obtain ⟨a, cap, rfl, h1, h2, h3⟩ := hv.view
  obtain ⟨g, o, rfl, hg, hc⟩ := h3 (by omega)
  have d1 := hc x hx
  have hy := hL x hx
  obtain ⟨s0, s1, s2, _, _, _, _⟩ := hp.cells
  clear hv h3 hc hL hp
  generalize L.getD x 0 = y at *
  have HC := Lib.hid (fun w => inSet_b n S R y w (by omega) (by omega))
  unfold strV at HC
  unfold maxLen at h2
  have hxI : (x : Int) < (L.length : Int) := by omega
  go_enter Tryz.func208, Tryz.ntmps208
  go_wp2_with fail
  have f0 := fun s => Since.cell s0 s
  have f1 := fun s => Since.cell s1 s
  have f2 := fun s => Since.cell s2 s
  have f3 := fun s => Since.cell hq s
  have f4 := fun s => Since.cell d1 s
  refine wp_region_since (by kernel_rfl) (by kernel_rfl) ?_
  repeat (go_big_quiet_step ((with_reducible exact Since.call (HC.out _))))
  refine wpQuiet_nil ?_
  intro w1 hb1
  go_wp2_with fail
  go_ret
  exact ⟨rfl, hb1⟩
theorem implPart2_any (n : Nat) (S R : ByteArray) (L : List Nat) (v : Value) (p q x y : Nat) (W : World) (hn : n ≤ 8) (hR : R.size = n * n) (hL : ∀ j, j < L.length → L.getD j 0 < n) (hx : x < L.length) (hy : y < L.length) (hp : SBlk W p n S R) (hq : W.cell? ⟨q, 0, none⟩ = some v) (hv : NumsAt W v L) :
    Calls Tryz.prog 209 #[.int .i64 (x : Int), .int .i64 (y : Int), .pointer (some ⟨p, 0, none⟩), .pointer (some ⟨q, 0, none⟩)] W fun e w' => e = .returned (.bool (relAt n R (L.getD x 0) (L.getD y 0))) ∧ Below W.heap.size W w' := by
  obtain ⟨a, cap, rfl, h1, h2, h3⟩ := hv.view
  obtain ⟨g, o, rfl, hg, hc⟩ := h3 (by omega)
  have d1 := hc x hx
  have d2 := hc y hy
  have hx' := hL x hx
  have hy' := hL y hy
  obtain ⟨s0, s1, s2, _, _, _, _⟩ := hp.cells
  clear hv h3 hc hL hp
  generalize L.getD x 0 = xe at *
  generalize L.getD y 0 = ye at *
  have HC := Lib.hid (fun w => inRel_b n S R xe ye w hx' hy' hn hR)
  unfold strV at HC
  unfold maxLen at h2
  have hxI : (x : Int) < (L.length : Int) := by omega
  have hyI : (y : Int) < (L.length : Int) := by omega
  go_enter Tryz.func209, Tryz.ntmps209
  go_wp2_with fail
  have f0 := fun s => Since.cell s0 s
  have f1 := fun s => Since.cell s1 s
  have f2 := fun s => Since.cell s2 s
  have f3 := fun s => Since.cell hq s
  have f4 := fun s => Since.cell d1 s
  have f5 := fun s => Since.cell d2 s
  refine wp_region_since (by kernel_rfl) (by kernel_rfl) ?_
  repeat (go_big_quiet_step ((with_reducible exact Since.call (HC.out _))))
  refine wpQuiet_nil ?_
  intro w1 hb1
  go_wp2_with fail
  go_ret
  exact ⟨rfl, hb1⟩
theorem implPartOf_any (n : Nat) (S R : ByteArray) (L : List Nat) (v : Value) (w : World) (hn : n ≤ 8) (hS : S.size = n) (hR : R.size = n * n) (hl : L.length ≤ 8) (hL : ∀ j, j < L.length → L.getD j 0 < n) (hv : NumsAt w v L) :
    Calls Tryz.prog 181 #[strV n S R, v] w fun e w' => e = .returned (partV n S R L) ∧ Below w.heap.size w w' := by
  obtain ⟨a, cap, rfl, h1, h2, h3⟩ := hv.view
  have hm := fun W k1 k2 hk1 hk2 h1 h2 => makeStructure_any L.length hl k1 k2 #[.pointer (some ⟨w.heap.size, 0, none⟩), .pointer (some ⟨w.heap.size + 1, 0, none⟩)] #[.pointer (some ⟨w.heap.size, 0, none⟩), .pointer (some ⟨w.heap.size + 1, 0, none⟩)] (fun x => oneAt S (L.getD x 0)) (fun x y => relAt n R (L.getD x 0) (L.getD y 0)) W hk1 hk2 h1 h2
  have HM := Lib.hid hm; clear hm
  obtain ⟨W, hW⟩ : ∃ W, ((w.alloc (.cells #[.int .i64 (n : Int), .string S, .string R] 24)).alloc (.cells #[.slice a L.length cap] 25)).alloc (.cells #[.int .i64 0, .string ⟨#[]⟩, .string ⟨#[]⟩] 24) = W := ⟨_, rfl⟩
  have HT : Hid (SBlk W w.heap.size n S R ∧ W.cell? ⟨w.heap.size + 1, 0, none⟩ = some (.slice a L.length cap) ∧ SBlk W (w.heap.size + 2) 0 ByteArray.empty ByteArray.empty ∧ Below w.heap.size w W ∧ W.heap.size = w.heap.size + 3) := by
    have b1 := boxS_below w n S R
    have s1 := boxS_size w n S R
    have h1 := boxS_SBlk w n S R
    have hB : Below (boxS w n S R).heap.size (boxS w n S R) (((boxS w n S R).alloc (.cells #[.slice a L.length cap] 25)).alloc (.cells #[.int .i64 0, .string ByteArray.empty, .string ByteArray.empty] 24)) := ((Below.refl _ _).alloc (Nat.le_refl _) _).alloc (by simp) _
    have h3 := SBlk.new ((boxS w n S R).alloc (.cells #[.slice a L.length cap] 25)) 0 ByteArray.empty ByteArray.empty
    have h2 : ((boxS w n S R).alloc (.cells #[.slice a L.length cap] 25)).cell? ⟨(boxS w n S R).heap.size, 0, none⟩ = some (.slice a L.length cap) := by unfold World.cell?; rw [heap_alloc_new]; rfl
    have h2' := (Below.cell ((Below.refl ((boxS w n S R).alloc (.cells #[.slice a L.length cap] 25)).heap.size _).alloc (Nat.le_refl _) (.cells #[.int .i64 0, .string ByteArray.empty, .string ByteArray.empty] 24)) (World.block_lt_of_cell? _ _ h2)).trans h2
    have hW2 : ((boxS w n S R).alloc (.cells #[.slice a L.length cap] 25)).alloc (.cells #[.int .i64 0, .string ByteArray.empty, .string ByteArray.empty] 24) = W := hW
    rw [hW2] at hB h3 h2'
    rw [s1] at h2'
    simp only [World.size_alloc, s1] at h3
    refine ⟨h1.below hB h1.cells.2.2.2.2.2.2, h2', h3, b1.trans (hB.mono b1.size), ?_⟩
    rw [← hW2]
    simp [s1]
  have HV := Lib.hid (hv.below HT.out.2.2.2.1)
  have HW := Lib.hid hW
  clear hv h3 hW
  have HL := Lib.hid hL
  clear hL
  unfold partV
  obtain ⟨TS, hA⟩ : ∃ T, bitsOf (fun x => oneAt S (L.getD x 0)) L.length = T := ⟨_, rfl⟩
  obtain ⟨TR, hG⟩ : ∃ T, gridOf (fun x y => relAt n R (L.getD x 0) (L.getD y 0)) L.length = T := ⟨_, rfl⟩
  rw [hA, hG] at HM ⊢
  clear hA hG
  obtain ⟨s0, s1, s2, _, _, _, _⟩ := HT.out.1.cells
  have q0 := HT.out.2.1
  unfold maxLen at h2
  unfold strV
  go_enter Tryz.func181, Tryz.ntmps181
  go_upto_region 1 with fail
  rw [HW.out]
  go_wp2_with fail
  refine (HM.out _ _ _ (fun _ _ => by kernel_rfl) (fun _ _ => by kernel_rfl) (fun x W' hx hb => implPart1_any n S R L _ w.heap.size (w.heap.size + 1) x W' hn hS HL.out hx (HT.out.1.below hb HT.out.1.cells.2.2.2.2.2.2) ((hb.cell (World.block_lt_of_cell? _ _ HT.out.2.1)).trans HT.out.2.1) (HV.out.below hb)) (fun x y W' hx hy hb => implPart2_any n S R L _ w.heap.size (w.heap.size + 1) x y W' hn hR HL.out hx hy (HT.out.1.below hb HT.out.1.cells.2.2.2.2.2.2) ((hb.cell (World.block_lt_of_cell? _ _ HT.out.2.1)).trans HT.out.2.1) (HV.out.below hb))).mono ?_
  rintro e w1 ⟨rfl, hb⟩
  have HB1 := Lib.hid (HT.out.2.2.2.1.trans (hb.mono HT.out.2.2.2.1.size))
  have HR1 := Lib.hid (HT.out.2.2.1.below hb HT.out.2.2.1.cells.2.2.2.2.2.2)
  clear hb s0 s1 s2 q0
  obtain ⟨d0, d1, d2, g0, g1, g2, hl'⟩ := HR1.out.cells
  unfold strV
  go_wp2_with fail
  refine bodyPost_ret (v := strV L.length TS TR) ?_ rfl ⟨rfl, ?_⟩
  · exact results_str rfl rfl HR1.out.set3
  · exact ((HB1.out.setCell (by simp; omega) _).setCell (by simp; omega) _).setCell (by simp; omega) _
end Go.Proofs.YtjepegkbbbebkaaGreatDoor
namespace Go.Proofs.YtjepegkbbbebkaaGreatDoor
open Go.RowKit
set_option linter.unusedVariables false
set_option maxRecDepth 100000

theorem nodup_take {L : List Nat} (hd : L.Nodup) {i : Nat} (hi : i < L.length) : decide (L.getD i 0 ∈ L.take i) = false := by
  rw [decide_eq_false_iff_not]
  intro hm
  obtain ⟨j, hj, e⟩ := List.mem_iff_getElem.1 hm
  rw [List.length_take] at hj
  rw [List.getElem_take] at e
  have h2 := List.pairwise_iff_getElem.1 hd j i (by omega) hi (by omega)
  exact h2 (by rw [e]; simp [hi])
/-- What the loops of l1Part keep. -/
structure Pt (w wr : World) (n : Nat) (S R : ByteArray) (m : Nat) (TS TR : ByteArray) : Prop where
  a : SBlk wr w.heap.size n S R
  res : SBlk wr (w.heap.size + 1) 0 ByteArray.empty ByteArray.empty
  out : SBlk wr (w.heap.size + 2) m TS TR
  old : Below w.heap.size w wr
section
variable {w wr w' : World} {n m : Nat} {S R TS TR : ByteArray}
theorem Pt.below (h : Pt w wr n S R m TS TR) (hb : Below wr.heap.size wr w') : Pt w w' n S R m TS TR :=
  ⟨h.a.below hb h.a.cells.2.2.2.2.2.2, h.res.below hb h.res.cells.2.2.2.2.2.2, h.out.below hb h.out.cells.2.2.2.2.2.2, h.old.trans (hb.mono h.old.size)⟩
theorem Pt.drew (h : Pt w wr n S R m TS TR) : Pt w wr.drew n S R m TS TR := ⟨h.a, h.res, h.out, h.old.drew⟩
theorem Pt.set1 (h : Pt w wr n S R m TS TR) (S' : ByteArray) : Pt w (wr.setCell ⟨w.heap.size + 2, 1, none⟩ (.string S')) n S R m S' TR :=
  ⟨h.a.far (by simp) _, h.res.far (by simp) _, h.out.set1, h.old.setCell (by simp) _⟩
theorem Pt.set2 (h : Pt w wr n S R m TS TR) (R' : ByteArray) : Pt w (wr.setCell ⟨w.heap.size + 2, 2, none⟩ (.string R')) n S R m TS R' :=
  ⟨h.a.far (by simp) _, h.res.far (by simp) _, h.out.set2, h.old.setCell (by simp) _⟩
end
set_option maxHeartbeats 2000000 in
theorem l1Part_any (n : Nat) (S R : ByteArray) (L : List Nat) (v : Value) (w : World) (hn : n ≤ 8) (hS : S.size = n) (hR : R.size = n * n) (hl8 : L.length ≤ 8) (hL : ∀ j, j < L.length → L.getD j 0 < n) (hv : NumsAt w v L) :
    Calls Tryz.prog 77 #[strV n S R, v] w fun e w' => e = .returned (partV n S R L) ∧ Below w.heap.size w w' := by
  obtain ⟨m, hm⟩ : ∃ m, L.length = m := ⟨_, rfl⟩
  have HSS : Hid (∀ j, j < m → ∀ W, Calls Tryz.prog 136 #[strV n S R, .int .i64 ((L.getD j 0 : Nat) : Int)] W fun e w' => e = .returned (.bool (oneAt S (L.getD j 0))) ∧ Below W.heap.size W w') := fun j hj W =>
    (l1Set_any n S R (L.getD j 0) W (by rw [hS]; exact hL j (by omega)) (by omega)).mono fun _ _ h => ⟨h.1, by rw [h.2]; exact boxS_below _ _ _ _⟩
  have HRR : Hid (∀ j k, j < m → k < m → ∀ W, Calls Tryz.prog 137 #[strV n S R, .int .i64 ((L.getD j 0 : Nat) : Int), .int .i64 ((L.getD k 0 : Nat) : Int)] W fun e w' => e = .returned (.bool (relAt n R (L.getD j 0) (L.getD k 0))) ∧ Below W.heap.size W w') := fun j k hj hk W =>
    (l1Rel_any n S R (L.getD j 0) (L.getD k 0) W (hL j (by omega)) (hL k (by omega)) hn hR).mono fun _ _ h => ⟨h.1, by rw [h.2]; exact boxS_below _ _ _ _⟩
  have HP0 : Hid (Pt w (((w.alloc (.cells #[.int .i64 (n : Int), .string S, .string R] 24)).alloc (.cells #[.int .i64 0, .string ByteArray.empty, .string ByteArray.empty] 24)).alloc (.cells #[.int .i64 (m : Int), .string ByteArray.empty, .string ByteArray.empty] 24)) n S R m (bitsOf (fun x => oneAt S (L.getD x 0)) 0) (bitsOf (fun k => relAt n R (L.getD (k / m) 0) (L.getD (k % m) 0)) (0 * m))) := by
    have b1 := boxS_below w n S R
    have s1 := boxS_size w n S R
    have h1 := boxS_SBlk w n S R
    have hB : Below (boxS w n S R).heap.size (boxS w n S R) (((boxS w n S R).alloc (.cells #[.int .i64 0, .string ByteArray.empty, .string ByteArray.empty] 24)).alloc (.cells #[.int .i64 (m : Int), .string ByteArray.empty, .string ByteArray.empty] 24)) := ((Below.refl _ _).alloc (Nat.le_refl _) _).alloc (by simp) _
    have h2 := (SBlk.new (boxS w n S R) 0 ByteArray.empty ByteArray.empty).below ((Below.refl _ _).alloc (Nat.le_refl _) (.cells #[.int .i64 (m : Int), .string ByteArray.empty, .string ByteArray.empty] 24)) (by simp)
    have h3 := SBlk.new ((boxS w n S R).alloc (.cells #[.int .i64 0, .string ByteArray.empty, .string ByteArray.empty] 24)) m ByteArray.empty ByteArray.empty
    simp only [World.size_alloc, s1] at h2 h3
    refine ⟨h1.below hB h1.cells.2.2.2.2.2.2, h2, ?_, b1.trans (hB.mono b1.size)⟩
    rw [Nat.zero_mul, bitsOf_zero, bitsOf_zero]
    exact h3
  obtain ⟨a, cap, rfl, l1, l2, l3⟩ := hv.view
  have HC : Hid (0 < m → ∃ g o, a = some ⟨g, o, none⟩ ∧ g < w.heap.size ∧ ∀ j, j < m → w.cell? ⟨g, o + j, none⟩ = some (.int .i64 ((L.getD j 0 : Nat) : Int))) := fun h => by
    rw [← hm] at h ⊢
    exact l3 h
  have HRES : Hid (partV n S R L = strV m (bitsOf (fun x => oneAt S (L.getD x 0)) m) (bitsOf (fun k => relAt n R (L.getD (k / m) 0) (L.getD (k % m) 0)) (m * m))) := by
    show _ = _
    unfold partV gridOf
    rw [hm]
  rw [HRES.out]
  rw [hm] at l1 hl8 ⊢
  clear l3 hv hL HRES hm
  obtain ⟨sx, hsx⟩ : ∃ f : Nat → Bool, (fun x => oneAt S (L.getD x 0)) = f := ⟨_, rfl⟩
  obtain ⟨rx, hrx⟩ : ∃ f : Nat → Nat → Bool, (fun x y => relAt n R (L.getD x 0) (L.getD y 0)) = f := ⟨_, rfl⟩
  have hrk : (fun k => relAt n R (L.getD (k / m) 0) (L.getD (k % m) 0)) = fun k => rx (k / m) (k % m) := by rw [← hrx]
  have hs1 : ∀ x, oneAt S (L.getD x 0) = sx x := fun x => by rw [← hsx]
  have hr1 : ∀ x y, relAt n R (L.getD x 0) (L.getD y 0) = rx x y := fun x y => by rw [← hrx]
  rw [hsx, hrk] at HP0 ⊢
  simp only [hs1] at HSS
  simp only [hr1] at HRR
  clear hsx hrx hrk hs1 hr1
  unfold maxLen at l2
  have HBIT : Hid (∀ b W, Calls Tryz.prog 122 #[.bool b] W fun e w' => e = .returned (.string (bitS b)) ∧ Below W.heap.size W w') := fun b W => (l1Bit_any b W).mono fun _ _ h => ⟨h.1, by rw [← h.2]; exact Below.refl _ _⟩
  unfold strV at HSS HRR
  unfold strV
  go_enter Tryz.func77, Tryz.ntmps77
  go_wp2_with fail
  go_loopw [7, 6] (fun _ i wr => ∃ x : Nat, x ≤ m ∧ i = .int .i64 (x : Int) ∧ Hid (Pt w wr n S R m (bitsOf sx x) (bitsOf (fun k => rx (k / m) (k % m)) (x * m)))) (fun _ i _ => m - (intOf i).toNat)
  case atStart => exact ⟨0, by omega, rfl, HP0.out⟩
  case round =>
    obtain ⟨x, hx, rfl, HI⟩ := hrel
    by_cases hlt : x < m
    · obtain ⟨c0, c1', c2', f0, f1, f2, hb⟩ := HI.out.out.cells
      obtain ⟨a0, a1, a2, _, _, _, ha⟩ := HI.out.a.cells
      obtain ⟨g, o, rfl, hg, hc⟩ := HC.out (by omega)
      have d1 := (HI.out.old.cell (p := ⟨g, o + x, none⟩) hg).trans (hc x hlt)
      have z0 : (bitsOf sx x).size ≤ 8 := by rw [bitsOf_size]; omega
      have z1 : (bitS (sx x)).size ≤ 1 := Nat.le_refl _
      have HS1 := Lib.hid (HSS.out x hlt)
      have HG := Lib.hid (bitsOf_succ sx x)
      have HCC := Lib.hid hc
      clear hc HC
      generalize sx x = bt at *
      generalize L.getD x 0 = ex at *
      go_wp2_with fail
      go_upto_region 5 with fail
      go_cut [] (fun wx => Pt w wx n S R m (bitsOf sx x ++ bitS bt) (bitsOf (fun k => rx (k / m) (k % m)) (x * m)))
      case first =>
        have hz : ¬ 9223372036854775807 < (bitsOf sx x).size + (bitS bt).size := by omega
        have q0 := fun s => Since.cell c1' s
        have q1 := fun s => Since.cell a0 s
        have q2 := fun s => Since.cell a1 s
        have q3 := fun s => Since.cell a2 s
        have q4 := fun s => Since.cell d1 s
        refine wp_region_since_tail 10 (by kernel_rfl) (by kernel_rfl) ?_
        simp only [List.take_succ_cons, List.take_zero, List.drop_succ_cons, List.drop_zero]
        repeat (go_big_quiet_step (first | (with_reducible exact Since.call (HS1.out _)) | (with_reducible exact Since.call (HBIT.out bt _))))
        refine wpQuiet_nil ?_
        intro w1 hb1
        have HI1 := Lib.hid (HI.out.below hb1)
        obtain ⟨i0, i1, i2, j0, j1, j2, hbb⟩ := HI1.out.out.cells
        clear hb1 q0 q1 q2 q3 q4 hz
        go_wp2_with fail
        go_meet
        exact HI1.out.set1 _
      case rest =>
        have HI := Lib.hid hcut; clear hcut c0 c1' c2' f0 f1 f2 hb a0 a1 a2 ha d1
        rw [← HG.out] at HI
        clear z0 z1 HS1 HG
        go_wp2_with fail
        go_loopw [7] (fun j wr => ∃ y : Nat, y ≤ m ∧ j = .int .i64 (y : Int) ∧ Hid (Pt w wr n S R m (bitsOf sx (x + 1)) (bitsOf (fun k => rx (k / m) (k % m)) (x * m + y)))) (fun j _ => m - (intOf j).toNat)
        case atStart => exact ⟨0, by omega, rfl, HI.out⟩
        case round =>
          obtain ⟨y, hy, rfl, HJ⟩ := hrel
          by_cases hlt2 : y < m
          · obtain ⟨c0, c1', c2', f0, f1, f2, hb⟩ := HJ.out.out.cells
            obtain ⟨a0, a1, a2, _, _, _, ha⟩ := HJ.out.a.cells
            have d1 := (HJ.out.old.cell (p := ⟨g, o + x, none⟩) hg).trans (HCC.out x hlt)
            have d2 := (HJ.out.old.cell (p := ⟨g, o + y, none⟩) hg).trans (HCC.out y hlt2)
            have hxy : x * m + y ≤ 64 := by
              have h1 : x * m ≤ 7 * 8 := Nat.mul_le_mul (by omega) hl8
              omega
            have z0 : (bitsOf (fun k => rx (k / m) (k % m)) (x * m + y)).size ≤ 64 := by rw [bitsOf_size]; exact hxy
            have z1 : (bitS (rx x y)).size ≤ 1 := Nat.le_refl _
            have HG : Hid (bitsOf (fun k => rx (k / m) (k % m)) (x * m + (y + 1)) = bitsOf (fun k => rx (k / m) (k % m)) (x * m + y) ++ bitS (rx x y)) := by
              show bitsOf (fun k => rx (k / m) (k % m)) (x * m + y + 1) = _
              rw [bitsOf_succ]
              exact congrArg (fun b => bitsOf (fun k => rx (k / m) (k % m)) (x * m + y) ++ bitS b) (grid_at (r := rx) (x := x) hlt2)
            have HR1 := Lib.hid (HRR.out x y hlt hlt2)
            clear hxy
            generalize bitsOf (fun k => rx (k / m) (k % m)) (x * m + y) = G at *
            generalize rx x y = bt at *
            generalize L.getD x 0 = ex at *
            generalize L.getD y 0 = ey at *
            go_wp2_with fail
            have hz : ¬ 9223372036854775807 < G.size + (bitS bt).size := by omega
            have q0 := fun s => Since.cell c2' s
            have q1 := fun s => Since.cell a0 s
            have q2 := fun s => Since.cell a1 s
            have q3 := fun s => Since.cell a2 s
            have q4 := fun s => Since.cell d1 s
            have q5 := fun s => Since.cell d2 s
            refine wp_region_since_tail 14 (by kernel_rfl) (by kernel_rfl) ?_
            simp only [List.take_succ_cons, List.take_zero, List.drop_succ_cons, List.drop_zero]
            repeat (go_big_quiet_step (first | (with_reducible exact Since.call (HR1.out _)) | (with_reducible exact Since.call (HBIT.out bt _))))
            refine wpQuiet_nil ?_
            intro w1 hb1
            have HI1 := Lib.hid (HJ.out.below hb1)
            obtain ⟨i0, i1, i2, j0, j1, j2, hbb⟩ := HI1.out.out.cells
            have HI2 := Lib.hid (HI1.out.set2 (G ++ bitS bt))
            clear hb1 q0 q1 q2 q3 q4 q5 hz
            go_wp2_with fail
            go_roundw
            case rel =>
              refine ⟨y + 1, by omega, by go_num, ?_⟩
              rw [HG.out]
              exact HI2.out
            case measure => simp [intOf]; omega
          · have HI2 : Hid (Pt w wr n S R m (bitsOf sx (x + 1)) (bitsOf (fun k => rx (k / m) (k % m)) ((x + 1) * m))) := by
              have h := HJ.out
              rw [show x * m + y = (x + 1) * m by rw [Nat.add_mul, Nat.one_mul]; omega] at h
              exact h
            go_wp2_with fail
            go_roundw
            case rel => exact ⟨x + 1, by omega, by go_num, HI2.out⟩
            case measure => simp [intOf]; omega
    · have HE : Hid (Pt w wr n S R m (bitsOf sx m) (bitsOf (fun k => rx (k / m) (k % m)) (m * m))) := by
        have h := HI.out
        rw [show x = m by omega] at h
        exact h
      obtain ⟨c0, c1', c2', f0, f1, f2, hb⟩ := HE.out.out.cells
      obtain ⟨d0, d1, d2, g0, g1, g2, hb'⟩ := HE.out.res.cells
      clear HI
      go_wp2_with fail
      refine bodyPost_ret (v := strV m (bitsOf sx m) (bitsOf (fun k => rx (k / m) (k % m)) (m * m))) ?_ rfl ⟨rfl, ?_⟩
      · exact results_str rfl rfl HE.out.res.set3
      · exact ((HE.out.old.setCell (by simp) _).setCell (by simp) _).setCell (by simp) _
end Go.Proofs.YtjepegkbbbebkaaGreatDoor
/- The reference's DefinedSet and PartWhere, the program's PartWhere. Conditions: the texts' lengths fit an integer. -/
namespace Go.Proofs.YtjepegkbbbebkaaGreatDoor
open Go.RowKit
set_option linter.unusedVariables false
set_option maxRecDepth 100000

theorem defSet_is (f : ByteArray) (n : Int) (S R : ByteArray) : (defSet f n S R = none ∧ (validB n S R && okV f 2) = false) ∨ ∃ φ, readB f = some φ ∧ validB n S R = true ∧ okV f 2 = true ∧ defSet f n S R = some (defTo (stOf n.toNat S R) φ n.toNat) := by
  cases hr : readB f with
  | none => exact .inl ⟨defSet_none hr, by rw [okV_none hr]; simp⟩
  | some φ =>
    by_cases h : validB n S R = true ∧ Fm.free φ / 2 = 0
    · exact .inr ⟨φ, rfl, h.1, by rw [okV_some hr, decide_eq_true_iff]; exact h.2, by rw [defSet_some hr, if_pos h]⟩
    · refine .inl ⟨by rw [defSet_some hr, if_neg h], ?_⟩
      rw [okV_some hr, Bool.and_eq_false_iff, decide_eq_false_iff_not]
      by_cases h1 : validB n S R = true
      · exact .inr fun h2 => h ⟨h1, h2⟩
      · exact .inl (by simpa using h1)
/-- What the loop of the reference's DefinedSet keeps. -/
structure Dl (w wr : World) (n : Nat) (S R : ByteArray) (v : Value) (L : List Nat) : Prop where
  own : Own (w.heap.size + 1) wr v L
  a : SBlk wr w.heap.size n S R
  old : Below w.heap.size w wr
section
variable {w wr w' : World} {n : Nat} {S R : ByteArray} {v v' : Value} {L L' : List Nat}
theorem Dl.below (h : Dl w wr n S R v L) (hb : Below wr.heap.size wr w') : Dl w w' n S R v L := ⟨h.own.below hb, h.a.below hb h.a.cells.2.2.2.2.2.2, h.old.trans (hb.mono h.old.size)⟩
theorem Dl.push (h : Dl w wr n S R v L) (hown : Own (w.heap.size + 1) w' v' L') (hg : wr.grownBy w' v.ownBlock) : Dl w w' n S R v' L' := by
  obtain ⟨k1, e1, b1, l1⟩ := h.own.block
  refine ⟨hown, (hg.block w.heap.size h.a.cells.2.2.2.2.2.2 (by rw [e1]; intro e; have := Option.some.inj e; omega)).trans h.a, h.old.grown hg h.old.size (fun k hk => by rw [e1] at hk; have := Option.some.inj hk; omega)⟩
end
/-- What PartWhere returns. -/
def pwRes (f : ByteArray) (n : Int) (S R : ByteArray) : Value :=
  match defSet f n S R with
  | none => .tuple #[strV 0 ByteArray.empty ByteArray.empty, .bool false]
  | some L => if L.length = 0 then .tuple #[strV 0 ByteArray.empty ByteArray.empty, .bool false] else .tuple #[partV n.toNat S R L, .bool true]
theorem pwRes_none {f : ByteArray} {n : Int} {S R : ByteArray} (h : defSet f n S R = none) : pwRes f n S R = .tuple #[strV 0 ByteArray.empty ByteArray.empty, .bool false] := by unfold pwRes; rw [h]
theorem pwRes_some {f : ByteArray} {n : Int} {S R : ByteArray} {L : List Nat} (h : defSet f n S R = some L) : pwRes f n S R = if L.length = 0 then .tuple #[strV 0 ByteArray.empty ByteArray.empty, .bool false] else .tuple #[partV n.toNat S R L, .bool true] := by unfold pwRes; rw [h]
theorem pwRes_form (f : ByteArray) (n : Int) (S R : ByteArray) : ∃ N T U b, pwRes f n S R = .tuple #[strV N T U, .bool b] := by
  cases h : defSet f n S R with
  | none => exact ⟨_, _, _, _, pwRes_none h⟩
  | some L =>
    rw [pwRes_some h]
    by_cases h0 : L.length = 0
    · rw [if_pos h0]; exact ⟨_, _, _, _, rfl⟩
    · rw [if_neg h0]; exact ⟨_, _, _, _, rfl⟩
/-- What is known of a defined set. -/
theorem defSet_facts {f : ByteArray} {n : Int} {S R : ByteArray} {L : List Nat} (h : defSet f n S R = some L) : ∃ m : Nat, n = m ∧ validB m S R = true ∧ L.length ≤ 8 ∧ (∀ j, j < L.length → L.getD j 0 < m) ∧ L.Nodup := by
  rcases defSet_is f n S R with ⟨h1, _⟩ | ⟨φ, hr, hv, ho, h1⟩
  · rw [h1] at h; cases h
  · rw [h1] at h
    obtain ⟨m, rfl⟩ : ∃ m : Nat, n = m := by
      have hv' := hv
      simp only [validB, Bool.and_eq_true, inB_iff] at hv'
      exact Int.eq_ofNat_of_zero_le (by omega)
    obtain ⟨v1, v8, vS, vR, _, _⟩ := valid_is hv
    rw [Int.toNat_natCast] at h
    injection h with h
    subst h
    refine ⟨m, rfl, hv, Nat.le_trans (defTo_length _ _ _) v8, fun j hj => ?_, defTo_nodup _ _ _⟩
    exact defTo_lt (a := stOf m S R) (φ := φ) (by simp [hj])
end Go.Proofs.YtjepegkbbbebkaaGreatDoor

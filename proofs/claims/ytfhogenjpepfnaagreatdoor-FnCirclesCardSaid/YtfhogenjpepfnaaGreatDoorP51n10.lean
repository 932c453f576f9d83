/- Contracts of the program's functions and what they compute: part 10. Conditions: those that each theorem states. -/
import Derived.Test.YtfhogenjpepfnaaGreatDoorP51n9
import Derived.Test.YtfhogenjpepfnaaGreatDoorShelf5
import Derived.Shelf.SlSortCmp.Whole1
import Derived.Test.YtfhogenjpepfnaaGreatDoorShelf6
import Derived.Shelf.SlCmpFuncs.BinarySearchFunc
namespace Go.Proofs.YtfhogenjpepfnaaGreatDoor
open Go.RowKit Go.Shelf Go.Sort
set_option linter.unusedVariables false
set_option maxRecDepth 100000
/-- A slice of the world w that lies outside a block, with what it holds. -/
abbrev Sl (w : World) (blk : Nat) : Type := {p : Value × List Nat // NumsAt w p.1 p.2 ∧ p.1.ownBlock ≠ some blk}
instance slInh (w : World) (blk : Nat) : Inhabited (Sl w blk) := ⟨⟨(.slice none 0 0, []), .inl ⟨rfl, rfl⟩, by simp [Value.ownBlock]⟩⟩
def slEnc (w : World) (blk : Nat) (p : Sl w blk) : Value := p.1.1
def slCmp (w : World) (blk : Nat) (p q : Sl w blk) : Int := Col.cmp p.1.2 q.1.2
theorem sl_one (w : World) (blk : Nat) : OneCell (slEnc w blk) := fun x => nums_one x.2.1
theorem sl_swo (w : World) (blk : Nat) : SWO (ltOf (slCmp w blk)) where
  irrefl x := by unfold ltOf slCmp; rw [Col.cmp_self]; rfl
  trans x y z h1 h2 := by
    unfold ltOf slCmp at *
    rw [decide_eq_true_eq] at *
    exact Col.cmp_trans h1 h2
  ntrans x y z h1 h2 := by
    unfold ltOf slCmp at *
    rw [decide_eq_false_iff_not] at *
    exact Col.cmp_ntrans h1 h2
theorem sortWorld_off {α : Type} [Inhabited α] (enc : α → Value) (w : World) (blk off n : Nat) (d : Array α) (os : Array Obj) : Off (fun b => b = blk) w (sortWorld enc w blk off n d os) := by
  refine ⟨rfl, rfl, rfl, ?_, fun k hk hn => ?_⟩
  · show w.heap.size ≤ (grow (putRow enc (Sort.ahead w n) blk off d) os).heap.size
    rw [size_grow, size_putRow]
    exact Nat.le_add_right _ _
  · show (grow (putRow enc (Sort.ahead w n) blk off d) os).heap[k]? = _
    rw [heap_grow_old _ _ (by rw [size_putRow]; exact hk)]
    show (w.heap.modify blk _)[k]? = _
    rw [Array.getElem?_modify, if_neg (fun e => hn e.symm)]
theorem sl_lays (w : World) (blk size : Nat) : CmpLays1 Tryz.prog 81 #[] (slEnc w blk) (slCmp w blk) blk 0 size w := fun m os dk hs x y => by
  have ho := sortWorld_off (slEnc w blk) w blk 0 m dk os
  refine (sCompare_any x.1.1 y.1.1 x.1.2 y.1.2 _ (x.2.1.off ho (fun k hk e => x.2.2 (by rw [hk, e]))) (y.2.1.off ho (fun k hk e => y.2.2 (by rw [hk, e])))).mono fun e w' ⟨he, hw⟩ => ⟨he, 0, #[], ?_⟩
  rw [hw, grow_empty]
  rfl
/-- What SortFunc leaves. -/
def SortP (w : World) (blk n : Nat) (f : Nat → Value × List Nat) (e : Ending) (w' : World) : Prop := e = .returned (.tuple #[]) ∧ ∃ g : Nat → Value × List Nat, Cp w blk n w' g ∧ (∀ j, j < n → NumsAt w (g j).1 (g j).2 ∧ (g j).1.ownBlock ≠ some blk) ∧ (∀ a b, a < b → b < n → ¬ Col.cmp (g b).2 (g a).2 < 0) ∧ (∀ d, (∃ j, j < n ∧ (g j).2 = d) ↔ ∃ j, j < n ∧ (f j).2 = d)
theorem get_bang {α : Type} [Inhabited α] (a : Array α) (j : Nat) (h : j < a.size) : a[j]! = a[j] := getElem!_pos a j h
theorem SortFunc_any (w : World) (blk n cap : Nat) (f : Nat → Value × List Nat) (hl : blk < w.heap.size) (hn : n ≤ 1000) (hnums : ∀ j, j < n → NumsAt w (f j).1 (f j).2 ∧ (f j).1.ownBlock ≠ some blk) (h : Cp w blk n w f) :
    Calls Tryz.prog 80 #[.slice (some ⟨blk, 0, none⟩) n cap, .func (.func 81) #[] #[]] w (SortP w blk n f) := by
  obtain ⟨d, hd⟩ : ∃ d : Array (Sl w blk), d = Array.ofFn (n := n) (fun i => (⟨f i, hnums i i.2⟩ : Sl w blk)) := ⟨_, rfl⟩
  have hz : d.size = n := by rw [hd]; simp
  have hat : ∀ j (hj : j < n), (d[j]!).1 = f j := fun j hj => by
    rw [get_bang d j (by omega)]
    simp [hd]
  have hH : Holds (slEnc w blk) w blk 0 d := fun j hj => by
    rw [hz] at hj
    rw [Nat.zero_add]
    refine ⟨?_, h.frz j hj⟩
    rw [h.cell j hj]
    show some (f j).1 = some (d[j]!).1.1
    rw [hat j hj]
  have eg : ∀ args W, (callFunc 81 args).run Tryz.prog W = .ok (.enter 81 args) W := enters_of Tryz.func81 (by kernel_rfl) rfl
  have hc := Any.slices_SortFunc Tryz.laysSF (slEnc w blk) (sl_one w blk) (slCmp w blk) (sl_swo w blk) 81 #[] blk 0 cap d w eg (sl_lays w blk d.size) hH hl (by omega)
  rw [hz] at hc
  refine Calls.mono hc ?_
  rintro e w' ⟨he, d', q, os, hp, hs, rfl⟩
  have hz' : d'.size = n := hp.1.trans hz
  refine ⟨he, fun j => (d'[j]!).1, ⟨fun j hj => ?_, fun j hj => ?_, sortWorld_off _ _ _ _ _ _ _⟩, fun j _ => (d'[j]!).2, fun a b hab hb => ?_, ?_⟩
  · have := (holds_grow (slEnc w blk) _ os blk 0 d' (by simpa using hl) (holds_putRow (slEnc w blk) (Sort.ahead w q) blk 0 d d' (holds_ahead _ _ _ _ _ _ hH) hp.1) j (by omega)).1
    rw [Nat.zero_add] at this
    exact this
  · have := (holds_grow (slEnc w blk) _ os blk 0 d' (by simpa using hl) (holds_putRow (slEnc w blk) (Sort.ahead w q) blk 0 d d' (holds_ahead _ _ _ _ _ _ hH) hp.1) j (by omega)).2
    rw [Nat.zero_add] at this
    exact this
  · have := hs a b (Nat.zero_le _) hab hb
    unfold ltOf slCmp at this
    exact of_decide_eq_false this
  · have hpp : d'.toList.Perm d.toList := by
      have := hp.2.2
      rw [show d'.extract 0 n = d' by rw [← hz']; exact Array.extract_size, show d.extract 0 n = d by rw [← hz]; exact Array.extract_size] at this
      exact this
    have mem : ∀ (a : Array (Sl w blk)), a.size = n → ∀ x, (∃ j, j < n ∧ (a[j]!).1.2 = x) ↔ ∃ p ∈ a.toList, p.1.2 = x := fun a ha x => by
      constructor
      · rintro ⟨j, hj, e⟩
        exact ⟨a[j]!, by rw [get_bang a j (by omega)]; simp, e⟩
      · rintro ⟨p, hp, e⟩
        obtain ⟨j, hj, rfl⟩ := List.mem_iff_getElem.1 hp
        have hj2 : j < a.size := by simpa using hj
        exact ⟨j, by omega, by rw [get_bang a j hj2]; simpa using e⟩
    intro x
    have h1 := mem d' hz' x
    have h2 := mem d hz x
    have h3 : (∃ p ∈ d'.toList, p.1.2 = x) ↔ ∃ p ∈ d.toList, p.1.2 = x := ⟨fun ⟨p, a, b⟩ => ⟨p, hpp.mem_iff.1 a, b⟩, fun ⟨p, a, b⟩ => ⟨p, hpp.mem_iff.2 a, b⟩⟩
    have h4 : (∃ j, j < n ∧ (d[j]!).1.2 = x) ↔ ∃ j, j < n ∧ (f j).2 = x := ⟨fun ⟨j, a, b⟩ => ⟨j, a, by rw [← hat j a]; exact b⟩, fun ⟨j, a, b⟩ => ⟨j, a, by rw [hat j a]; exact b⟩⟩
    exact h1.trans (h3.trans (h2.symm.trans h4))
end Go.Proofs.YtfhogenjpepfnaaGreatDoor

namespace Go.Proofs.YtfhogenjpepfnaaGreatDoor
open Go.RowKit Go.Shelf Go.Sort
set_option linter.unusedVariables false
set_option maxRecDepth 100000
theorem count_keys {w : World} {blk n : Nat} {f : Nat → Value × List Nat} (d : Array (Sl w blk)) (hz : d.size = n) (hat : ∀ j, j < n → (d[j]!).1 = f j) (t : List Nat) :
    d.toList.countP (fun x => decide (Col.cmp x.1.2 t < 0)) = ((List.range n).map fun j => (f j).2).countP fun e => decide (Col.cmp e t < 0) := by
  have e : ((List.range n).map fun j => (f j).2) = d.toList.map fun x => x.1.2 := by
    apply List.ext_getElem
    · simp [hz]
    · intro i h1 h2
      have hi : i < n := by simpa using h1
      have := hat i hi
      rw [get_bang d i (by omega)] at this
      simp [this]
  rw [e, List.countP_map]
  rfl
theorem BinSearch_any (w : World) (blk n cap : Nat) (f : Nat → Value × List Nat) (hl : blk < w.heap.size) (hn : n ≤ 1000) (hnums : ∀ j, j < n → NumsAt w (f j).1 (f j).2 ∧ (f j).1.ownBlock ≠ some blk) (h : Cp w blk n w f) (hsort : ∀ a b, a < b → b < n → ¬ Col.cmp (f b).2 (f a).2 < 0)
    (tv : Value) (t : List Nat) (ht : NumsAt w tv t) (htb : tv.ownBlock ≠ some blk) :
    Calls Tryz.prog 83 #[.slice (some ⟨blk, 0, none⟩) n cap, tv, .func (.func 81) #[] #[]] w fun e w' =>
      ∃ c : Bool, e = .returned (.tuple #[.int .i64 (((((List.range n).map fun j => (f j).2).countP fun e => decide (Col.cmp e t < 0)) : Nat) : Int), .bool c]) ∧ Below w.heap.size w w' := by
  obtain ⟨d, hd⟩ : ∃ d : Array (Sl w blk), d = Array.ofFn (n := n) (fun i => (⟨f i, hnums i i.2⟩ : Sl w blk)) := ⟨_, rfl⟩
  have hz : d.size = n := by rw [hd]; simp
  have hat : ∀ j (hj : j < n), (d[j]!).1 = f j := fun j hj => by
    rw [get_bang d j (by omega)]
    simp [hd]
  have hH : Holds (slEnc w blk) w blk 0 d := fun j hj => by
    rw [hz] at hj
    rw [Nat.zero_add]
    refine ⟨?_, h.frz j hj⟩
    rw [h.cell j hj]
    show some (f j).1 = some (d[j]!).1.1
    rw [hat j hj]
  have eg : ∀ args W, (callFunc 81 args).run Tryz.prog W = .ok (.enter 81 args) W := enters_of Tryz.func81 (by kernel_rfl) rfl
  have hT : CmpLaysT Tryz.prog 81 #[] (slEnc w blk) tv (fun x : Sl w blk => Col.cmp x.1.2 t) blk 0 d.size w := fun m os dk hs x => by
    have ho := sortWorld_off (slEnc w blk) w blk 0 m dk os
    refine (sCompare_any x.1.1 tv x.1.2 t _ (x.2.1.off ho (fun k hk e => x.2.2 (by rw [hk, e]))) (ht.off ho (fun k hk e => htb (by rw [hk, e])))).mono fun e w' ⟨he, hw⟩ => ⟨he, 0, #[], ?_⟩
    rw [hw, grow_empty]
    rfl
  have hm : ∀ a b, a ≤ b → b < d.size → Col.cmp (d[b]!).1.2 t < 0 → Col.cmp (d[a]!).1.2 t < 0 := fun a b hab hb hlt => by
    rcases Nat.lt_or_ge a b with h1 | h1
    · have hs := hsort a b h1 (by omega)
      rw [← hat a (by omega), ← hat b (by omega)] at hs
      have key : ¬ ¬ Col.cmp (d[a]!).1.2 t < 0 := fun h4 => Col.cmp_ntrans hs h4 hlt
      exact Decidable.not_not.1 key
    · obtain rfl : a = b := by omega
      exact hlt
  have hc := Any.slices_BinarySearchFunc Tryz.laysBS (slEnc w blk) (sl_one w blk) tv (fun x : Sl w blk => Col.cmp x.1.2 t) 81 #[] blk 0 cap d w eg hT hH hl (by omega) hm
  rw [hz, count_keys d hz hat t] at hc
  refine Calls.mono hc ?_
  rintro e w' ⟨he, q, os, hw⟩
  refine ⟨_, he, ?_⟩
  rw [hw]
  show Below w.heap.size w (grow (putRow (slEnc w blk) (Sort.ahead w q) blk 0 d) os)
  rw [putRow_self _ _ _ _ _ (holds_ahead _ _ _ _ _ _ hH)]
  refine ⟨rfl, rfl, rfl, ?_, fun k hk => heap_grow_old _ _ hk⟩
  rw [size_grow]
  exact Nat.le_add_right _ _
end Go.Proofs.YtfhogenjpepfnaaGreatDoor

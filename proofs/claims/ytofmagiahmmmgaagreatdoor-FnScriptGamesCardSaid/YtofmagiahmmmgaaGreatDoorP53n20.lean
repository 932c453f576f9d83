/- Contracts of the program's functions and what they compute: part 20. Conditions: those that each theorem states. -/
import Derived.Test.YtofmagiahmmmgaaGreatDoorP53n19
import Derived.Test.YtofmagiahmmmgaaGreatDoorP53n9
import Derived.Test.YtofmagiahmmmgaaGreatDoorP53n18
import Derived.Test.YtofmagiahmmmgaaGreatDoorShelf5
import Derived.Shelf.SlSortCmp.Whole1
import Derived.Test.YtofmagiahmmmgaaGreatDoorShelf6
import Derived.Shelf.SlCmpFuncs.BinarySearchFunc
import Derived.Deep.RegionHeld3
import Derived.Test.YtofmagiahmmmgaaGreatDoorShelf7
import Derived.Shelf.SortM.Plain
import Derived.Shelf.SortM.SortNone
namespace Go.Proofs.YtofmagiahmmmgaaGreatDoor
open Go.RowKit Go.Shelf Go.Sort
set_option linter.unusedVariables false
set_option maxRecDepth 100000
/-- A slice of the world w that lies outside a block, with what it holds. -/
abbrev Sl (w : World) (blk : Nat) : Type := {p : Value × List Nat // NumsAt w p.1 p.2 ∧ p.1.ownBlock ≠ some blk}
instance slInh (w : World) (blk : Nat) : Inhabited (Sl w blk) := ⟨⟨(.slice none 0 0, []), .inl ⟨rfl, rfl⟩, by simp [Value.ownBlock]⟩⟩
def slEnc (w : World) (blk : Nat) (p : Sl w blk) : Value := p.1.1
def slCmp (w : World) (blk : Nat) (p q : Sl w blk) : Int := Col.cmp p.1.2 q.1.2
theorem sl_one (w : World) (blk : Nat) : OneCell (slEnc w blk) := fun x => nums_one x.2.1
theorem sl_swo (w : World) (blk : Nat) : SWO (ltOf (slCmp w blk)) where
  irrefl x := by unfold ltOf slCmp; rw [Col.cmp_self]; rfl
  trans x y z h1 h2 := by
    unfold ltOf slCmp at *
    rw [decide_eq_true_eq] at *
    exact Col.cmp_trans h1 h2
  ntrans x y z h1 h2 := by
    unfold ltOf slCmp at *
    rw [decide_eq_false_iff_not] at *
    exact Col.cmp_ntrans h1 h2
theorem sortWorld_off {α : Type} [Inhabited α] (enc : α → Value) (w : World) (blk off n : Nat) (d : Array α) (os : Array Obj) : Off (fun b => b = blk) w (sortWorld enc w blk off n d os) := by
  refine ⟨rfl, rfl, rfl, ?_, fun k hk hn => ?_⟩
  · show w.heap.size ≤ (grow (putRow enc (Sort.ahead w n) blk off d) os).heap.size
    rw [size_grow, size_putRow]
    exact Nat.le_add_right _ _
  · show (grow (putRow enc (Sort.ahead w n) blk off d) os).heap[k]? = _
    rw [heap_grow_old _ _ (by rw [size_putRow]; exact hk)]
    show (w.heap.modify blk _)[k]? = _
    rw [Array.getElem?_modify, if_neg (fun e => hn e.symm)]
theorem sl_lays (w : World) (blk size : Nat) : CmpLays1 Tryz.prog 165 #[] (slEnc w blk) (slCmp w blk) blk 0 size w := fun m os dk hs x y => by
  have ho := sortWorld_off (slEnc w blk) w blk 0 m dk os
  refine (sCompare_any x.1.1 y.1.1 x.1.2 y.1.2 _ (x.2.1.off ho (fun k hk e => x.2.2 (by rw [hk, e]))) (y.2.1.off ho (fun k hk e => y.2.2 (by rw [hk, e])))).mono fun e w' ⟨he, hw⟩ => ⟨he, 0, #[], ?_⟩
  rw [hw, grow_empty]
  rfl
/-- What SortFunc leaves. -/
def SortP (w : World) (blk n : Nat) (f : Nat → Value × List Nat) (e : Ending) (w' : World) : Prop := e = .returned (.tuple #[]) ∧ ∃ g : Nat → Value × List Nat, Cp w blk n w' g ∧ (∀ j, j < n → NumsAt w (g j).1 (g j).2 ∧ (g j).1.ownBlock ≠ some blk) ∧ (∀ a b, a < b → b < n → ¬ Col.cmp (g b).2 (g a).2 < 0) ∧ (∀ d, (∃ j, j < n ∧ (g j).2 = d) ↔ ∃ j, j < n ∧ (f j).2 = d)
theorem get_bang {α : Type} [Inhabited α] (a : Array α) (j : Nat) (h : j < a.size) : a[j]! = a[j] := getElem!_pos a j h
theorem SortFunc_any (w : World) (blk n cap : Nat) (f : Nat → Value × List Nat) (hl : blk < w.heap.size) (hn : n ≤ 1000) (hnums : ∀ j, j < n → NumsAt w (f j).1 (f j).2 ∧ (f j).1.ownBlock ≠ some blk) (h : Cp w blk n w f) :
    Calls Tryz.prog 164 #[.slice (some ⟨blk, 0, none⟩) n cap, .func (.func 165) #[] #[]] w (SortP w blk n f) := by
  obtain ⟨d, hd⟩ : ∃ d : Array (Sl w blk), d = Array.ofFn (n := n) (fun i => (⟨f i, hnums i i.2⟩ : Sl w blk)) := ⟨_, rfl⟩
  have hz : d.size = n := by rw [hd]; simp
  have hat : ∀ j (hj : j < n), (d[j]!).1 = f j := fun j hj => by
    rw [get_bang d j (by omega)]
    simp [hd]
  have hH : Holds (slEnc w blk) w blk 0 d := fun j hj => by
    rw [hz] at hj
    rw [Nat.zero_add]
    refine ⟨?_, h.frz j hj⟩
    rw [h.cell j hj]
    show some (f j).1 = some (d[j]!).1.1
    rw [hat j hj]
  have eg : ∀ args W, (callFunc 165 args).run Tryz.prog W = .ok (.enter 165 args) W := enters_of Tryz.func165 (by kernel_rfl) rfl
  have hc := Any.slices_SortFunc Tryz.laysSF (slEnc w blk) (sl_one w blk) (slCmp w blk) (sl_swo w blk) 165 #[] blk 0 cap d w eg (sl_lays w blk d.size) hH hl (by omega)
  rw [hz] at hc
  refine Calls.mono hc ?_
  rintro e w' ⟨he, d', q, os, hp, hs, rfl⟩
  have hz' : d'.size = n := hp.1.trans hz
  refine ⟨he, fun j => (d'[j]!).1, ⟨fun j hj => ?_, fun j hj => ?_, sortWorld_off _ _ _ _ _ _ _⟩, fun j _ => (d'[j]!).2, fun a b hab hb => ?_, ?_⟩
  · have := (holds_grow (slEnc w blk) _ os blk 0 d' (by simpa using hl) (holds_putRow (slEnc w blk) (Sort.ahead w q) blk 0 d d' (holds_ahead _ _ _ _ _ _ hH) hp.1) j (by omega)).1
    rw [Nat.zero_add] at this
    exact this
  · have := (holds_grow (slEnc w blk) _ os blk 0 d' (by simpa using hl) (holds_putRow (slEnc w blk) (Sort.ahead w q) blk 0 d d' (holds_ahead _ _ _ _ _ _ hH) hp.1) j (by omega)).2
    rw [Nat.zero_add] at this
    exact this
  · have := hs a b (Nat.zero_le _) hab hb
    unfold ltOf slCmp at this
    exact of_decide_eq_false this
  · have hpp : d'.toList.Perm d.toList := by
      have := hp.2.2
      rw [show d'.extract 0 n = d' by rw [← hz']; exact Array.extract_size, show d.extract 0 n = d by rw [← hz]; exact Array.extract_size] at this
      exact this
    have mem : ∀ (a : Array (Sl w blk)), a.size = n → ∀ x, (∃ j, j < n ∧ (a[j]!).1.2 = x) ↔ ∃ p ∈ a.toList, p.1.2 = x := fun a ha x => by
      constructor
      · rintro ⟨j, hj, e⟩
        exact ⟨a[j]!, by rw [get_bang a j (by omega)]; simp, e⟩
      · rintro ⟨p, hp, e⟩
        obtain ⟨j, hj, rfl⟩ := List.mem_iff_getElem.1 hp
        have hj2 : j < a.size := by simpa using hj
        exact ⟨j, by omega, by rw [get_bang a j hj2]; simpa using e⟩
    intro x
    have h1 := mem d' hz' x
    have h2 := mem d hz x
    have h3 : (∃ p ∈ d'.toList, p.1.2 = x) ↔ ∃ p ∈ d.toList, p.1.2 = x := ⟨fun ⟨p, a, b⟩ => ⟨p, hpp.mem_iff.1 a, b⟩, fun ⟨p, a, b⟩ => ⟨p, hpp.mem_iff.2 a, b⟩⟩
    have h4 : (∃ j, j < n ∧ (d[j]!).1.2 = x) ↔ ∃ j, j < n ∧ (f j).2 = x := ⟨fun ⟨j, a, b⟩ => ⟨j, a, by rw [← hat j a]; exact b⟩, fun ⟨j, a, b⟩ => ⟨j, a, by rw [hat j a]; exact b⟩⟩
    exact h1.trans (h3.trans (h2.symm.trans h4))
end Go.Proofs.YtofmagiahmmmgaaGreatDoor

namespace Go.Proofs.YtofmagiahmmmgaaGreatDoor
open Go.RowKit Go.Shelf Go.Sort
set_option linter.unusedVariables false
set_option maxRecDepth 100000
theorem count_keys {w : World} {blk n : Nat} {f : Nat → Value × List Nat} (d : Array (Sl w blk)) (hz : d.size = n) (hat : ∀ j, j < n → (d[j]!).1 = f j) (t : List Nat) :
    d.toList.countP (fun x => decide (Col.cmp x.1.2 t < 0)) = ((List.range n).map fun j => (f j).2).countP fun e => decide (Col.cmp e t < 0) := by
  have e : ((List.range n).map fun j => (f j).2) = d.toList.map fun x => x.1.2 := by
    apply List.ext_getElem
    · simp [hz]
    · intro i h1 h2
      have hi : i < n := by simpa using h1
      have := hat i hi
      rw [get_bang d i (by omega)] at this
      simp [this]
  rw [e, List.countP_map]
  rfl
theorem BinSearch_any (w : World) (blk n cap : Nat) (f : Nat → Value × List Nat) (hl : blk < w.heap.size) (hn : n ≤ 1000) (hnums : ∀ j, j < n → NumsAt w (f j).1 (f j).2 ∧ (f j).1.ownBlock ≠ some blk) (h : Cp w blk n w f) (hsort : ∀ a b, a < b → b < n → ¬ Col.cmp (f b).2 (f a).2 < 0)
    (tv : Value) (t : List Nat) (ht : NumsAt w tv t) (htb : tv.ownBlock ≠ some blk) :
    Calls Tryz.prog 167 #[.slice (some ⟨blk, 0, none⟩) n cap, tv, .func (.func 165) #[] #[]] w fun e w' =>
      ∃ c : Bool, e = .returned (.tuple #[.int .i64 (((((List.range n).map fun j => (f j).2).countP fun e => decide (Col.cmp e t < 0)) : Nat) : Int), .bool c]) ∧ Below w.heap.size w w' := by
  obtain ⟨d, hd⟩ : ∃ d : Array (Sl w blk), d = Array.ofFn (n := n) (fun i => (⟨f i, hnums i i.2⟩ : Sl w blk)) := ⟨_, rfl⟩
  have hz : d.size = n := by rw [hd]; simp
  have hat : ∀ j (hj : j < n), (d[j]!).1 = f j := fun j hj => by
    rw [get_bang d j (by omega)]
    simp [hd]
  have hH : Holds (slEnc w blk) w blk 0 d := fun j hj => by
    rw [hz] at hj
    rw [Nat.zero_add]
    refine ⟨?_, h.frz j hj⟩
    rw [h.cell j hj]
    show some (f j).1 = some (d[j]!).1.1
    rw [hat j hj]
  have eg : ∀ args W, (callFunc 165 args).run Tryz.prog W = .ok (.enter 165 args) W := enters_of Tryz.func165 (by kernel_rfl) rfl
  have hT : CmpLaysT Tryz.prog 165 #[] (slEnc w blk) tv (fun x : Sl w blk => Col.cmp x.1.2 t) blk 0 d.size w := fun m os dk hs x => by
    have ho := sortWorld_off (slEnc w blk) w blk 0 m dk os
    refine (sCompare_any x.1.1 tv x.1.2 t _ (x.2.1.off ho (fun k hk e => x.2.2 (by rw [hk, e]))) (ht.off ho (fun k hk e => htb (by rw [hk, e])))).mono fun e w' ⟨he, hw⟩ => ⟨he, 0, #[], ?_⟩
    rw [hw, grow_empty]
    rfl
  have hm : ∀ a b, a ≤ b → b < d.size → Col.cmp (d[b]!).1.2 t < 0 → Col.cmp (d[a]!).1.2 t < 0 := fun a b hab hb hlt => by
    rcases Nat.lt_or_ge a b with h1 | h1
    · have hs := hsort a b h1 (by omega)
      rw [← hat a (by omega), ← hat b (by omega)] at hs
      have key : ¬ ¬ Col.cmp (d[a]!).1.2 t < 0 := fun h4 => Col.cmp_ntrans hs h4 hlt
      exact Decidable.not_not.1 key
    · obtain rfl : a = b := by omega
      exact hlt
  have hc := Any.slices_BinarySearchFunc Tryz.laysBS (slEnc w blk) (sl_one w blk) tv (fun x : Sl w blk => Col.cmp x.1.2 t) 165 #[] blk 0 cap d w eg hT hH hl (by omega) hm
  rw [hz, count_keys d hz hat t] at hc
  refine Calls.mono hc ?_
  rintro e w' ⟨he, q, os, hw⟩
  refine ⟨_, he, ?_⟩
  rw [hw]
  show Below w.heap.size w (grow (putRow (slEnc w blk) (Sort.ahead w q) blk 0 d) os)
  rw [putRow_self _ _ _ _ _ (holds_ahead _ _ _ _ _ _ hH)]
  refine ⟨rfl, rfl, rfl, ?_, fun k hk => heap_grow_old _ _ hk⟩
  rw [size_grow]
  exact Nat.le_add_right _ _
end Go.Proofs.YtofmagiahmmmgaaGreatDoor

namespace Go.Proofs.YtofmagiahmmmgaaGreatDoor
open Go.RowKit
set_option linter.unusedVariables false
set_option maxRecDepth 100000
theorem OwnV.frz {B : Nat} {w : World} {g n cap : Nat} {xs : List Value} (h : OwnV B w (.slice (some ⟨g, 0, none⟩) n cap) xs) (j : Nat) : w.frozen? ⟨g, j, none⟩ = false := by
  rcases h.own.2 with ⟨h1, _⟩ | ⟨g', cap', cur, hv, hb, hg, hnc, hcm, hcs, htake⟩
  · cases h1
  · injection hv with e1 e2 e3
    injection e1 with e1
    injection e1 with e4 e5
    subst e4
    simp [World.frozen?, hg]
def pairF (xs : List Value) (ds : List (List Nat)) (j : Nat) : Value × List Nat := (xs.getD j (.slice none 0 0), ds.getD j [])
def listF (l : List (Value × List Nat)) (j : Nat) : Value × List Nat := l.getD j (.slice none 0 0, [])
theorem listF_at {l : List (Value × List Nat)} {j : Nat} (h : j < l.length) : listF l j = l[j] := by unfold listF; simp [h]
/-- The lists that are kept are those that there are, in order. -/
theorem kept_srt {f g : Nat → Value × List Nat} {n : Nat} {ds : List (List Nat)} (hd : ∀ j, j < n → (f j).2 = ds.getD j []) (hl : ds.length = n) (hs : ∀ a b, a < b → b < n → ¬ Col.cmp (g b).2 (g a).2 < 0) (hm : ∀ d, (∃ j, j < n ∧ (g j).2 = d) ↔ ∃ j, j < n ∧ (f j).2 = d) :
    (keptP g n).map (·.2) = Col.srt ds := by
  refine Col.strict_same (keptP_strict g n hs) (Col.strict_srt ds) (fun x => ?_)
  rw [Col.mem_srt]
  constructor
  · intro h
    obtain ⟨p, hp, rfl⟩ := List.mem_map.1 h
    obtain ⟨i, hi, rfl⟩ := keptP_mem g n p hp
    obtain ⟨j, hj, e⟩ := (hm (g i).2).1 ⟨i, hi, rfl⟩
    rw [← e, hd j hj]
    have : j < ds.length := by omega
    simp [this]
  · intro h
    obtain ⟨j, hj, rfl⟩ := List.mem_iff_getElem.1 h
    obtain ⟨i, hi, e⟩ := (hm ds[j]).2 ⟨j, by omega, by rw [hd j (by omega)]; simp [hj]⟩
    obtain ⟨p, hp, e2⟩ := keptP_key g n i hi
    exact List.mem_map.2 ⟨p, hp, by rw [e2, e]⟩
theorem range_keys (l : List (Value × List Nat)) : ((List.range l.length).map fun j => (listF l j).2) = l.map (·.2) := by
  apply List.ext_getElem
  · simp
  · intro i h1 h2
    have hi : i < l.length := by simpa using h1
    simp [listF, hi]
theorem strict_up {l : List (Value × List Nat)} (h : Col.Strict (l.map (·.2))) : ∀ a b, a < b → b < l.length → ¬ Col.cmp (listF l b).2 (listF l a).2 < 0 := by
  intro a b hab hb
  rw [listF_at hb, listF_at (by omega)]
  have h1 := List.pairwise_iff_getElem.1 h a b (by simp; omega) (by simp; omega) hab
  simp only [List.getElem_map] at h1
  have := Col.cmp_anti l[a].2 l[b].2
  omega
theorem cols_at {ds : List (List Nat)} {i : Nat} (h : i < ds.length) : (Col.cols ds).take (i + 1) = (Col.cols ds).take i ++ [Col.rk ds (ds.getD i [])] := by
  have hl : i < (Col.cols ds).length := by rw [Col.cols_len]; exact h
  rw [List.take_succ_eq_append_getElem hl]
  congr 2
  show (List.map (Col.rk ds) ds)[i]'(by simpa using h) = _
  rw [List.getElem_map]
  simp [h]
set_option maxHeartbeats 2000000 in
theorem colouredOf_any (v : Value) (xs : List Value) (ds : List (List Nat)) (w : World) (ho : OwnV 0 w v xs) (hls : ListsAt w xs ds) (hn : xs.length ≤ 100) (h1 : 1 ≤ xs.length) :
    Calls Tryz.prog 102 #[v] w (NewNums w (Col.cols ds)) := by
  obtain ⟨g0, cap0, rfl, _, hg0, hc0, hm0, hcell⟩ := ho.cells
  unfold maxLen at hm0
  obtain ⟨n, hnn⟩ : ∃ n, xs.length = n := ⟨_, rfl⟩
  have hdn : ds.length = n := by rw [← hls.len]; exact hnn
  have HL := Lib.hid hls
  have HCE := Lib.hid hcell
  have HNN := Lib.hid hnn
  have HO0 : Hid (OwnV w.heap.size (w.alloc (.cells #[] 33)) (.slice (some ⟨w.heap.size, 0, none⟩) 0 0) []) := OwnV.lit0 w.heap.size w (Nat.le_refl _)
  have HB0 : Hid (Below w.heap.size w (w.alloc (.cells #[] 33))) := (Below.refl _ _).alloc (Nat.le_refl _) _
  have HCA : Hid (∀ j, j < xs.length → (w.alloc (.cells #[] 33)).cell? ⟨g0, 0 + j, none⟩ = xs[j]?) := fun j hj => by
    rw [Nat.zero_add, ← hcell j hj]
    exact HB0.out.cell (p := ⟨g0, j, none⟩) hg0
  have HLN : Hid (([] : List Value).length + xs.length ≤ 100000) := by show _ ≤ _; simp; omega
  have hnI : n ≤ 100 := by omega
  rw [hnn] at hc0 h1 ⊢
  clear hls hcell hn ho hnn
  go_enter Tryz.func102, Tryz.ntmps102
  go_wp2_with (first | (at_builtin; refine wpList_ownVAll (ys := xs) (off := 0) (g := g0) (cap := cap0) HO0.out HCA.out HL.out.one HLN.out rfl (.tmp 9) (.tmp 10) rfl rfl (by rw [HNN.out]; rfl) ?_; intro v1 w1 ho hg; have HO1 : Hid (OwnV w.heap.size w1 v1 xs) := (by have h := ho; rw [List.nil_append] at h; exact h); have HB1 := Lib.hid (HB0.out.grown hg HB0.out.size (fun k hk => by obtain ⟨k', h1, h2, _⟩ := HO0.out.block; rw [h1] at hk; injection hk with hk; omega)); clear ho hg) | fail)
  obtain ⟨blk, cap1, rfl, hb1, hb2, hb3, hb4, hb5⟩ := HO1.out.cells
  have HF : Hid (∀ j, j < n → NumsAt w1 (pairF xs ds j).1 (pairF xs ds j).2 ∧ (pairF xs ds j).1.ownBlock ≠ some blk) := fun j hj => by
    have hjx : j < xs.length := by rw [HNN.out]; exact hj
    have h := HL.out.at' j hjx
    have e1 : (pairF xs ds j).1 = xs[j] := by unfold pairF; simp [hjx]
    rw [e1]
    refine ⟨h.below HB1.out, fun e => ?_⟩
    rcases h with ⟨h0, _⟩ | ⟨g, o, c, h0, _, _, hg, _⟩
    · rw [h0] at e; cases e
    · rw [h0] at e
      have : g = blk := Option.some.inj e
      omega
  have HC1 : Hid (Cp w1 blk n w1 (pairF xs ds)) := by
    refine ⟨fun j hj => ?_, fun j _ => HO1.out.frz j, Off.refl _ _⟩
    have hjx : j < xs.length := by rw [HNN.out]; exact hj
    rw [hb5 j hjx]
    unfold pairF
    simp [hjx]
  have HSF := Lib.hid (SortFunc_any w1 blk n cap1 (pairF xs ds) hb2 (by omega) HF.out HC1.out)
  rw [HNN.out] at hb3 ⊢
  clear HCA HLN HO0 HB0 hb5
  refine HSF.out.mono ?_; rintro e w2 ⟨rfl, g, hg1, hg2, hg3, hg4⟩
  have HB2 : Hid (Below w.heap.size w w2) := HB1.out.trans (hg1.off.below (by have := HB1.out.size; omega) (fun b hb => by omega))
  have HK : Hid ((keptP g n).map (·.2) = Col.srt ds) := kept_srt (f := pairF xs ds) (fun j hj => rfl) hdn hg3 hg4
  have hl2 := Nat.lt_of_lt_of_le hb2 hg1.off.size
  have HG2 : Hid (∀ j, j < n → NumsAt w2 (g j).1 (g j).2 ∧ (g j).1.ownBlock ≠ some blk) := fun j hj => ⟨(hg2 j hj).1.off hg1.off (fun k hk e => (hg2 j hj).2 (by rw [hk, e])), (hg2 j hj).2⟩
  have HCF := Lib.hid (CompactFunc_any w2 blk n cap1 g hl2 (by omega) hb3 hb4 HG2.out ⟨hg1.cell, hg1.frz, Off.refl _ _⟩)
  unfold maxLen at hb4
  clear hg1 hg2 hg3 hg4 HSF HC1 HF
  go_wp2_with fail
  refine HCF.out.mono ?_; rintro e w3 ⟨rfl, hk1, hk2⟩
  have HB3 : Hid (Below w.heap.size w w3) := HB2.out.trans (hk2.below (by have := HB2.out.size; omega) (fun b hb => by omega))
  obtain ⟨KL, hKL⟩ : ∃ l, keptP g n = l := ⟨_, rfl⟩
  have hkn := keptP_len g n
  rw [hKL] at hk1 hkn HK ⊢
  have HKM : Hid (∀ p ∈ KL, NumsAt w3 p.1 p.2 ∧ p.1.ownBlock ≠ some blk) := fun p hp => by
    rw [← hKL] at hp
    obtain ⟨i, hi, rfl⟩ := keptP_mem g n p hp
    exact ⟨(HG2.out i hi).1.off hk2 (fun k hk e => (HG2.out i hi).2 (by rw [hk, e])), (HG2.out i hi).2⟩
  have hl3 := Nat.lt_of_lt_of_le hl2 hk2.size
  have HC3 : Hid (Cp w3 blk KL.length w3 (listF KL)) := ⟨fun j hj => by rw [listF_at hj]; exact (hk1 j hj).1, fun j hj => (hk1 j hj).2, Off.refl _ _⟩
  have HUP : Hid (∀ a b, a < b → b < KL.length → ¬ Col.cmp (listF KL b).2 (listF KL a).2 < 0) := strict_up (by rw [HK.out]; exact Col.strict_srt ds)
  have HBS : Hid (∀ (W : World) (i : Nat), Below w3.heap.size w3 W → i < n → Calls Tryz.prog 167 #[.slice (some ⟨blk, 0, none⟩) KL.length cap1, (pairF xs ds i).1, .func (.func 165) #[] #[]] W fun e w' =>
      ∃ c : Bool, e = .returned (.tuple #[.int .i64 ((Col.rk ds (ds.getD i []) : Nat) : Int), .bool c]) ∧ Below W.heap.size W w') := fun W i hW hi => by
    have hix : i < xs.length := by rw [HNN.out]; exact hi
    have h := HL.out.at' i hix
    have e1 : (pairF xs ds i).1 = xs[i] := by unfold pairF; simp [hix]
    have hc := HC3.out.below hl3 hW
    have := BinSearch_any W blk KL.length cap1 (listF KL) (Nat.lt_of_lt_of_le hl3 hW.size) (by omega) (fun j hj => by rw [listF_at hj]; exact ⟨(HKM.out _ (List.getElem_mem hj)).1.below hW, (HKM.out _ (List.getElem_mem hj)).2⟩) ⟨hc.cell, hc.frz, Off.refl _ _⟩ HUP.out (pairF xs ds i).1 (ds.getD i []) (by rw [e1]; exact (h.below HB3.out).below hW) (fun e => by
      rw [e1] at e
      rcases h with ⟨h0, _⟩ | ⟨g', o, c, h0, _, _, hg, _⟩
      · rw [h0] at e; cases e
      · rw [h0] at e
        have : g' = blk := Option.some.inj e
        omega)
    rw [range_keys, HK.out] at this
    exact this
  clear HC3 HUP HKM HCF HG2 hk1 hk2 HK HB1 HB2 HO1 hKL
  have HO4 : Hid (Own w3.heap.size (w3.alloc (.cells #[] 3)) (.slice (some ⟨w3.heap.size, 0, none⟩) 0 0) []) := Own.lit0 w3.heap.size w3 (Nat.le_refl _)
  have HB4 : Hid (Below w3.heap.size w3 (w3.alloc (.cells #[] 3))) := (Below.refl _ _).alloc (Nat.le_refl _) _
  go_wp2_with fail
  go_loopw [19, 4] (fun i u wr => ∃ k : Nat, k ≤ n ∧ i = .int .i64 (k : Int) ∧ Hid (Own w3.heap.size wr u ((Col.cols ds).take k)) ∧ Hid (Below w3.heap.size w3 wr)) (fun i _ _ => n - (intOf i).toNat)
  case atStart => exact ⟨0, by omega, rfl, HO4.out, HB4.out⟩
  case round =>
    clear HO4 HB4
    obtain ⟨k, hk, rfl, HU, HBW⟩ := hrel
    by_cases hlt : k < n
    · have hltI : (k : Int) < (n : Int) := by omega
      have hkx : k < xs.length := by rw [HNN.out]; exact hlt
      have hcell : wr.cell? ⟨g0, k, none⟩ = some (pairF xs ds k).1 := by
        rw [(HBW.out.cell (p := ⟨g0, k, none⟩) (Nat.lt_of_lt_of_le hg0 HB3.out.size)), HB3.out.cell (p := ⟨g0, k, none⟩) hg0, HCE.out k hkx]
        unfold pairF
        simp [hkx]
      have HBS1 := Lib.hid (fun W (hW : Below wr.heap.size wr W) => HBS.out W k (HBW.out.trans (hW.mono HBW.out.size)) hlt)
      have HAT := Lib.hid (cols_at (ds := ds) (i := k) (by omega))
      obtain ⟨r, hr⟩ : ∃ r, Col.rk ds (ds.getD k []) = r := ⟨_, rfl⟩
      obtain ⟨x, hx⟩ : ∃ x, (pairF xs ds k).1 = x := ⟨_, rfl⟩
      rw [hr] at HAT HBS1
      rw [hx] at hcell HBS1
      have HLL : Hid (((Col.cols ds).take k).length ≤ 2000000) := by show _ ≤ _; rw [List.length_take]; omega
      clear hr hx
      go_wp2_with fail
      refine (HBS1.out _ (Below.refl _ _)).mono ?_; rintro e w5 ⟨c, rfl, hb⟩
      have HU5 := Lib.hid (HU.out.below hb)
      have HB5 := Lib.hid (HBW.out.trans (hb.mono HBW.out.size))
      clear hb HU HBW HBS1 hcell
      go_wp2_with (first | (at_builtin; refine wpList_own1 HU5.out HLL.out rfl (.tmp 29) (.tmp 31) rfl r _ rfl rfl rfl ?_; intro v2 w6 ho hg; have HU6 : Hid (Own w3.heap.size w6 v2 ((Col.cols ds).take (k + 1))) := (by show Own _ _ _ _; rw [HAT.out]; exact ho); have HB6 := Lib.hid (HB5.out.grown hg HB5.out.size (fun i hi => (HU5.out.own.lt i hi).1)); clear ho hg) | fail)
      go_roundw
      case rel => exact ⟨k + 1, by omega, by go_num, HU6.out, HB6.out⟩
      case measure => simp [intOf]; omega
    · obtain rfl : k = n := by omega
      have hltI : ¬ (k : Int) < (k : Int) := by omega
      have hfull : (Col.cols ds).take k = Col.cols ds := List.take_of_length_le (by rw [Col.cols_len, hdn]; exact Nat.le_refl _)
      rw [hfull] at HU
      go_wp2_with fail
      go_ret
      exact ⟨_, rfl, HU.out.mono HB3.out.size, HB3.out.trans (HBW.out.mono HB3.out.size)⟩
end Go.Proofs.YtofmagiahmmmgaaGreatDoor

namespace Go.Proofs.YtofmagiahmmmgaaGreatDoor
open Go.RowKit
set_option linter.unusedVariables false
set_option maxRecDepth 100000
/-- The slice v of the world w is the call's own since block B, and holds the numbers L; it may be nil. -/
structure OwnN (B : Nat) (w : World) (v : Value) (L : List Nat) : Prop where
  own : w.ownsRow B 3 1 v L.length (L.map fun n : Nat => Value.int .i64 (n : Int))
  low : B ≤ w.heap.size
theorem OwnN.nil (B : Nat) (w : World) (hB : B ≤ w.heap.size) : OwnN B w (.slice none 0 0) [] := ⟨World.ownsRow_nil w B 3 1, hB⟩
theorem OwnN.cells {B : Nat} {w : World} {v : Value} {L : List Nat} (h : OwnN B w v L) (hne : 0 < L.length) :
    ∃ g cap, v = .slice (some ⟨g, 0, none⟩) L.length cap ∧ B ≤ g ∧ g < w.heap.size ∧ L.length ≤ cap ∧ cap ≤ maxLen ∧ (∀ j, j < L.length → w.cell? ⟨g, j, none⟩ = some (.int .i64 ((L.getD j 0 : Nat) : Int))) ∧ ∀ j, w.frozen? ⟨g, j, none⟩ = false := by
  rcases h.own.2 with ⟨h1, h2⟩ | ⟨g, cap, cur, rfl, hb, hg, hnc, hcm, hcs, htake⟩
  · omega
  · refine ⟨g, cap, rfl, hb, (h.own.lt g rfl).2, hnc, hcm, fun j hj => ?_, fun j => h.own.frozenAt j⟩
    rw [h.own.cellAt j (by omega)]
    simp [hj]
theorem OwnN.nums {B : Nat} {w : World} {v : Value} {L : List Nat} (h : OwnN B w v L) : NumsAt w v L := by
  rcases h.own.2 with ⟨h1, h2⟩ | ⟨g, cap, cur, rfl, hb, hg, hnc, hcm, hcs, htake⟩
  · exact .inl ⟨h1, List.eq_nil_of_length_eq_zero h2⟩
  · refine .inr ⟨g, 0, cap, rfl, hnc, hcm, (h.own.lt g rfl).2, fun j hj => ?_⟩
    rw [Nat.zero_add, h.own.cellAt j (by omega)]
    simp [hj]
theorem OwnN.kept {B : Nat} {w w' : World} {v : Value} {L : List Nat} (h : OwnN B w v L) (hb : ∀ k, v.ownBlock = some k → k < w.heap.size → w'.heap[k]? = w.heap[k]?) (hs : w.heap.size ≤ w'.heap.size) : OwnN B w' v L := by
  refine ⟨⟨h.own.1, ?_⟩, Nat.le_trans h.low hs⟩
  rcases h.own.2 with hn | ⟨g, cap, cur, rfl, hb', hgg, rest⟩
  · exact .inl hn
  · exact .inr ⟨g, cap, cur, rfl, hb', by rw [hb g rfl (Array.getElem?_eq_some_iff.1 hgg).1]; exact hgg, rest⟩
theorem OwnN.below {B : Nat} {w w' : World} {v : Value} {L : List Nat} (h : OwnN B w v L) (hb : Below w.heap.size w w') : OwnN B w' v L := h.kept (fun k _ hk => hb.block k hk) hb.size
theorem OwnN.one {B : Nat} {w : World} {v : Value} {L : List Nat} (h : OwnN B w v L) : v.oneCell' = true := by
  rcases h.own.2 with ⟨h1, h2⟩ | ⟨g, cap, cur, rfl, _⟩
  · rw [h1]; rfl
  · rfl
/-- One number is appended: as one step of a region whose order is open. -/
theorem step_ownN {ops : Array Oper} {o : Oper} {a : Act} {K : Act → World → Prop} {Q : Exit → Act → World → Prop} {E : Prop} {B : Nat} {w : World} {v : Value} {L : List Nat}
    (hown : OwnN B w v L) (hL : Hid (L.length ≤ 2000000)) (hgd : o.guard = none) (s x : Operand)
    (ho : o.op = .call { callee := .builtin .append, args := #[s, x], argTypes := #[33, 33] }) (y : Nat) (b : Nat) (hb : w.heap.size = b)
    (hs : a.eval s = v) (hx : a.eval x = .slice (some ⟨b, 0, none⟩) 1 1)
    (h : ∀ g cap w', OwnN B w' (.slice (some ⟨g, 0, none⟩) (L.length + 1) cap) (L ++ [y]) → w.grownBy w' v.ownBlock → (v.ownBlock = some g ∨ w.heap.size ≤ g) → g < w'.heap.size → K (a.put o.dst (.slice (some ⟨g, 0, none⟩) (L.length + 1) cap)) w') :
    if Region.wanted o (yielded ops a.tmps) = true then Oper.wp Tryz.prog o a (w.alloc (.cells #[.int .i64 (y : Int)] 3)) K Q else E := by
  have hL := hL.out
  subst hb
  obtain ⟨i, hi, hz, h1, h2⟩ := info_parts natInfo3
  have hbase : B ≤ w.heap.size := hown.low
  refine step_append_lies _ hgd s x 33 ho B 3 i (.int .i64 0) 1 8 Tryz.underlying33 hi hz h1 h2 rfl (by decide) v L.length (L.map fun n : Nat => Value.int .i64 (n : Int)) hs (hown.own.alloc _) ⟨w.heap.size, 0, none⟩ 1 1 [.int .i64 (y : Int)] hx rfl ?_ ?_ (by decide) ?_ ?_ ?_ _ rfl ?_
  · intro j u hj
    match j, hj with
    | 0, hj => simp at hj; subst hj; simp [Addr.add]
  · intro u hu
    simp at hu; subst hu; rfl
  · unfold maxLen; omega
  · omega
  · simp; omega
  · intro g cap w' h2 h3 h4 h5
    refine h g cap w' ⟨?_, ?_⟩ ⟨h3.os, h3.tape, h3.output, ?_, fun k hk hne => ?_⟩ (h4.imp_right fun e => by rw [e]; simp) h5
    · simpa using h2
    · have := h3.size
      simp at this
      omega
    · have := h3.size
      simp at this
      omega
    · rw [h3.block k (by simp; omega) hne]
      exact Below.heap_alloc _ _ _ hk
end Go.Proofs.YtofmagiahmmmgaaGreatDoor

namespace Go.Proofs.YtofmagiahmmmgaaGreatDoor
open Go.RowKit
set_option linter.unusedVariables false
set_option maxRecDepth 100000
theorem way_lt (a : Gs.St) (x y : Nat) : Col.way a x y < 4 := by
  unfold Col.way
  split <;> split <;> omega
theorem ways_succ (a : Gs.St) (c : List Nat) (x k y : Nat) : Col.ways a c x k (y + 1) = if y ≠ x ∧ Col.way a x y = k then Col.ways a c x k y ++ [c.getD y 0] else Col.ways a c x k y := by
  unfold Col.ways
  rw [List.range_succ, List.filter_append, List.map_append]
  by_cases h : y ≠ x ∧ Col.way a x y = k
  · rw [if_pos h]
    simp [h.1, h.2]
  · rw [if_neg h]
    have : (decide (y ≠ x) && decide (Col.way a x y = k)) = false := by
      rw [← Bool.not_eq_true, Bool.and_eq_true, decide_eq_true_eq, decide_eq_true_eq]
      exact h
    have e : [y].filter (fun z => decide (z ≠ x) && decide (Col.way a x z = k)) = [] := List.filter_cons_of_neg (by rw [this]; simp)
    rw [e]
    simp
theorem ways_len (a : Gs.St) (c : List Nat) (x k : Nat) : ∀ y, (Col.ways a c x k y).length ≤ y
  | 0 => Nat.le_refl _
  | y + 1 => by
    have ih := ways_len a c x k y
    rw [ways_succ]
    split
    · simp; omega
    · omega
/-- Four lists of the call's own in the cells of block b. -/
structure Wy (w : World) (b : Nat) (vs : Nat → Value) (Ls : Nat → List Nat) (wr : World) : Prop where
  cell : ∀ k, k < 4 → wr.cell? ⟨b, k, none⟩ = some (vs k) ∧ wr.frozen? ⟨b, k, none⟩ = false
  own : ∀ k, k < 4 → OwnN w.heap.size wr (vs k) (Ls k)
  ne : ∀ i j, i < 4 → j < 4 → i ≠ j → ∀ g, (vs i).ownBlock = some g → (vs j).ownBlock ≠ some g
  nb : ∀ k, k < 4 → (vs k).ownBlock ≠ some b
  lo : w.heap.size ≤ b
  hi : b < wr.heap.size
  old : Below w.heap.size w wr
def setW {α : Type} (f : Nat → α) (k : Nat) (x : α) : Nat → α := fun i => if i = k then x else f i
section
variable {w wr w' : World} {b : Nat} {vs : Nat → Value} {Ls : Nat → List Nat}
theorem Wy.below (h : Wy w b vs Ls wr) (hb : Below wr.heap.size wr w') : Wy w b vs Ls w' := by
  refine ⟨fun k hk => ⟨(hb.cell (p := ⟨b, k, none⟩) h.hi).trans (h.cell k hk).1, ?_⟩, fun k hk => (h.own k hk).below hb, h.ne, h.nb, h.lo, Nat.lt_of_lt_of_le h.hi hb.size, h.old.trans (hb.mono h.old.size)⟩
  have := (h.cell k hk).2
  unfold World.frozen? at this ⊢
  rw [hb.block b h.hi]
  exact this
theorem OwnN.blockN {B : Nat} {w : World} {v : Value} {L : List Nat} (h : OwnN B w v L) {k : Nat} (hk : v.ownBlock = some k) : B ≤ k ∧ k < w.heap.size := h.own.lt k hk
/-- A list has grown, and lies in its cell again. -/
theorem Wy.push (h : Wy w b vs Ls wr) {k g cap : Nat} {L : List Nat} (hk : k < 4) (ho : OwnN w.heap.size w' (.slice (some ⟨g, 0, none⟩) L.length cap) L) (hg : wr.grownBy w' (vs k).ownBlock) (hat : (vs k).ownBlock = some g ∨ wr.heap.size ≤ g) (hgl : g < w'.heap.size) :
    Wy w b (setW vs k (.slice (some ⟨g, 0, none⟩) L.length cap)) (setW Ls k L) (w'.setCell ⟨b, k, none⟩ (.slice (some ⟨g, 0, none⟩) L.length cap)) := by
  have hhi := h.hi
  have hgb : g ≠ b := by
    rintro rfl
    rcases hat with e | e
    · exact h.nb k hk e
    · omega
  have hcell : ∀ i, i < 4 → w'.cell? ⟨b, i, none⟩ = some (vs i) ∧ w'.frozen? ⟨b, i, none⟩ = false := fun i hi => by
    have e := hg.block b h.hi (fun e => h.nb k hk e.symm)
    refine ⟨(World.cell?_of_block (w := wr) e).trans (h.cell i hi).1, ?_⟩
    have := (h.cell i hi).2
    unfold World.frozen? at this ⊢
    rw [e]
    exact this
  have hset : ∀ j, j ≠ b → (w'.setCell ⟨b, k, none⟩ (.slice (some ⟨g, 0, none⟩) L.length cap)).heap[j]? = w'.heap[j]? := fun j hj => Below.heap_setCell w' ⟨b, k, none⟩ _ j hj
  have hsz : w'.heap.size ≤ (w'.setCell ⟨b, k, none⟩ (.slice (some ⟨g, 0, none⟩) L.length cap)).heap.size := by simp [World.setCell]
  refine ⟨fun i hi => ?_, fun i hi => ?_, fun i j hi hj hij q hq => ?_, fun i hi => ?_, h.lo, Nat.lt_of_lt_of_le h.hi (Nat.le_trans hg.size hsz), ?_⟩
  · unfold setW
    by_cases hik : i = k
    · subst hik
      rw [if_pos rfl]
      exact ⟨World.cell?_setCell_same _ _ _ (hcell i hi).1, by rw [World.frozen?_setCell]; exact (hcell i hi).2⟩
    · rw [if_neg hik]
      exact ⟨by rw [World.cell?_setCell_other _ _ _ _ (by intro e; injection e with _ e; exact hik e.symm)]; exact (hcell i hi).1, by rw [World.frozen?_setCell]; exact (hcell i hi).2⟩
  · unfold setW
    by_cases hik : i = k
    · rw [if_pos hik, if_pos hik]
      exact ho.kept (fun j hj _ => hset j (by rw [show (Value.slice (some ⟨g, 0, none⟩) L.length cap).ownBlock = some g from rfl] at hj; injection hj with hj; omega)) hsz
    · rw [if_neg hik, if_neg hik]
      have h1 := (h.own i hi).kept (fun j hj hl => hg.block j hl (fun e => h.ne i k hi hk hik j hj e.symm)) hg.size
      exact h1.kept (fun j hj _ => hset j (fun e => h.nb i hi (by rw [hj, e]))) hsz
  · unfold setW at hq ⊢
    by_cases hik : i = k
    · rw [if_pos hik] at hq
      rw [if_neg (by omega)]
      have hq : g = q := Option.some.inj hq
      subst hq
      intro e
      rcases hat with e2 | e2
      · exact h.ne k j hk hj (by omega) g e2 e
      · have := ((h.own j hj).blockN e).2; omega
    · rw [if_neg hik] at hq
      by_cases hjk : j = k
      · rw [if_pos hjk]
        intro e
        have e : g = q := Option.some.inj e
        subst e
        rcases hat with e2 | e2
        · exact h.ne i k hi hk hik g hq e2
        · have := ((h.own i hi).blockN hq).2; omega
      · rw [if_neg hjk]
        exact h.ne i j hi hj hij q hq
  · unfold setW
    by_cases hik : i = k
    · rw [if_pos hik]
      intro e
      exact hgb (Option.some.inj e)
    · rw [if_neg hik]
      exact h.nb i hi
  · have hl := h.lo
    exact (h.old.grown hg h.old.size (fun j hj => ((h.own k hk).blockN hj).1)).setCell h.lo _
theorem Wy.grownCell (h : Wy w b vs Ls wr) {k : Nat} (hk : k < 4) (hg : wr.grownBy w' (vs k).ownBlock) : w'.cell? ⟨b, k, none⟩ = some (vs k) ∧ w'.frozen? ⟨b, k, none⟩ = false := by
  have e := hg.block b h.hi (fun e => h.nb k hk e.symm)
  refine ⟨(World.cell?_of_block (w := wr) e).trans (h.cell k hk).1, ?_⟩
  have := (h.cell k hk).2
  unfold World.frozen? at this ⊢
  rw [e]
  exact this
theorem Wy.grownBelow (h : Wy w b vs Ls wr) {k : Nat} (hk : k < 4) (hg : wr.grownBy w' (vs k).ownBlock) : Below w.heap.size w w' := h.old.grown hg h.old.size (fun j hj => ((h.own k hk).blockN hj).1)
theorem Wy.pushM (h : Wy w b vs Ls wr) {k g cap m : Nat} {L : List Nat} (hk : k < 4) (hm : L.length = m) (ho : OwnN w.heap.size w' (.slice (some ⟨g, 0, none⟩) m cap) L) (hg : wr.grownBy w' (vs k).ownBlock) (hat : (vs k).ownBlock = some g ∨ wr.heap.size ≤ g) (hgl : g < w'.heap.size) :
    Wy w b (setW vs k (.slice (some ⟨g, 0, none⟩) m cap)) (setW Ls k L) (w'.setCell ⟨b, k, none⟩ (.slice (some ⟨g, 0, none⟩) m cap)) := by
  subst hm
  exact h.push hk ho hg hat hgl
end
end Go.Proofs.YtofmagiahmmmgaaGreatDoor

namespace Go.Proofs.YtofmagiahmmmgaaGreatDoor
open Go.RowKit Go.Shelf Go.Sort
set_option linter.unusedVariables false
set_option maxRecDepth 100000
theorem sortL_int (L : List Nat) : (L.map fun n : Nat => (n : Int)).mergeSort (fun x y => decide (x ≤ y)) = (Col.sortL L).map fun n : Nat => (n : Int) := by
  unfold Col.sortL
  rw [List.map_mergeSort]
  intro a _ b _
  exact decide_eq_decide.2 (by omega)
theorem sortL_len (L : List Nat) : (Col.sortL L).length = L.length := List.length_mergeSort ..
theorem sortL_nil : Col.sortL [] = [] := by unfold Col.sortL; simp
/-- What Sort leaves. -/
def SoP (w : World) (v : Value) (L : List Nat) (e : Ending) (w' : World) : Prop := e = .returned (.tuple #[]) ∧ NumsAt w' v (Col.sortL L) ∧ w.grownBy w' v.ownBlock
theorem sSort_any (B : Nat) (v : Value) (L : List Nat) (w : World) (hv : OwnN B w v L) (hl : L.length ≤ 100000) : Calls Tryz.prog 61 #[v] w (SoP w v L) := by
  by_cases h0 : L.length = 0
  · have hL : L = [] := List.eq_nil_of_length_eq_zero h0
    subst hL
    have hn : NumsAt w v [] := hv.nums
    obtain ⟨a, cap, rfl, _, _, _⟩ := hn.view
    refine Calls.mono (AnyM.slices_Sort_int_none Tryz.laysSI a cap w) ?_
    rintro e w' ⟨he, rfl⟩
    exact ⟨he, by rw [sortL_nil]; exact hn, World.grownBy.refl _ _⟩
  · obtain ⟨g, cap, rfl, hb, hg, hc, hcm, hcell, hfrz⟩ := hv.cells (by omega)
    have hlen : (L.map fun n : Nat => (n : Int)).length = L.length := List.length_map ..
    have hH : Holds (Value.int .i64) w g 0 (L.map fun n : Nat => (n : Int)).toArray := fun j hj => by
      have hj2 : j < L.length := by simpa using hj
      rw [Nat.zero_add]
      refine ⟨?_, hfrz j⟩
      rw [hcell j hj2, getElem!_pos _ j hj]
      simp [hj2]
    have hs := AnyM.slices_Sort_int Tryz.laysSI g 0 cap (L.map fun n : Nat => (n : Int)) w hH hg (by omega)
    rw [hlen, sortL_int] at hs
    refine Calls.mono hs ?_
    rintro e w' ⟨he, n, os, rfl⟩
    have hsz : ((Col.sortL L).map fun n : Nat => (n : Int)).toArray.size = (L.map fun n : Nat => (n : Int)).toArray.size := by simp [sortL_len]
    have hP := holds_grow (Value.int .i64) _ os g 0 _ (by simpa using hg) (holds_putRow (Value.int .i64) (Sort.ahead w n) g 0 _ ((Col.sortL L).map fun n : Nat => (n : Int)).toArray (holds_ahead _ _ _ _ _ _ hH) hsz)
    refine ⟨he, .inr ⟨g, 0, cap, by rw [sortL_len], by rw [sortL_len]; exact hc, hcm, ?_, fun j hj => ?_⟩, ⟨rfl, rfl, rfl, ?_, fun k hk hn => ?_⟩⟩
    · rw [size_grow, size_putRow]
      show g < w.heap.size + os.size
      omega
    · have h := (hP j (by simpa using hj)).1
      rw [h, getElem!_pos _ j (by simpa using hj)]
      simp [hj]
    · rw [size_grow, size_putRow]
      show w.heap.size ≤ w.heap.size + os.size
      omega
    · rw [heap_grow_old _ _ (by rw [size_putRow]; exact hk)]
      show (w.heap.modify g _)[k]? = _
      rw [Array.getElem?_modify, if_neg (fun e => hn (by rw [← e]; rfl))]
end Go.Proofs.YtofmagiahmmmgaaGreatDoor

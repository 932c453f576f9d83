/- Contracts of the program's functions and what they compute: part 28. Conditions: those that each theorem states. -/
import Derived.Test.YthmhjihppbeodaaGreatDoorP7n14
import Derived.Test.YthmhjihppbeodaaGreatDoorP7n15
import Derived.Test.YthmhjihppbeodaaGreatDoorP7n27
import Derived.Laws.ResultCell
import Derived.Deep.RegionHeld3
namespace Go.Proofs.YthmhjihppbeodaaGreatDoor
open Go.RowKit
set_option linter.unusedVariables false
/-- What l5New leaves. -/
def NewTbl (w : World) (e : Ending) (w' : World) : Prop :=
  ∃ gL gC F vs, e = .returned (tblV gL gC) ∧ Tbl w' gL gC F vs [] ∧ Below w.heap.size w w' ∧ ∀ b, F b → w.heap.size ≤ b
theorem listInfo : (Tryz.prog.info? 223).map (fun i => (i.zero, i.size, i.bytes)) = some (some (.slice none 0 0), 1, 24) := by kernel_rfl
theorem tblInfo : (Tryz.prog.info? 114).map (·.size) = some 2 := by kernel_rfl
theorem bucket_nil (k : Nat) : bucket [] k = [] := rfl
theorem tbl_new {w' : World} {gL gC : Nat} {cur : Array Value} (hs : cur.size = 997) (hc : cur.toList.take 997 = List.replicate 997 (.slice none 0 0)) (hL : w'.heap[gL]? = some (.cells cur 223 (0, 0))) (hC : w'.heap[gC]? = some (.cells #[.int .i64 0] 3 (0, 0))) (hne : gL ≠ gC) :
    Tbl w' gL gC (fun b => b = gL ∨ b = gC) cur [] := by
  have hcur : cur.toList = List.replicate 997 (.slice none 0 0) := by
    rw [← hc, List.take_of_length_le (by simp [hs])]
  have hat : ∀ k, k < 997 → cur.getD k undef = .slice none 0 0 := by
    intro k hk
    rw [Array.getD_eq_getD_getElem?, ← Array.getElem?_toList, hcur, List.getElem?_replicate, if_pos hk]
    rfl
  have lt : ∀ b o, w'.heap[b]? = some o → b < w'.heap.size := fun b o h => (Array.getElem?_eq_some_iff.1 h).1
  refine ⟨.inl rfl, .inr rfl, hne, ?_, hs, hL, ?_, ?_, hC, List.nodup_nil⟩
  · rintro b (rfl | rfl)
    · exact lt _ _ hL
    · exact lt _ _ hC
  · intro k hk
    rw [hat k hk, bucket_nil]
    exact ⟨World.ownsRow_nil _ _ _ _, fun b hb => by cases hb⟩
  · intro j k hj hk _
    rw [hat j hj]
    exact .inl rfl
theorem res_grown {w w1 : World} (hgr : (w.alloc (.cells #[.slice none 0 0, .slice none 0 0] 114)).grownBy w1 none) :
    w1.cell? ⟨w.heap.size, 0, none⟩ = some (.slice none 0 0) ∧ w1.cell? ⟨w.heap.size, 1, none⟩ = some (.slice none 0 0) ∧ w1.frozen? ⟨w.heap.size, 0, none⟩ = false ∧ w1.frozen? ⟨w.heap.size, 1, none⟩ = false ∧ w.heap.size < w1.heap.size := by
  have h := (hgr.block w.heap.size (by simp) (by simp)).trans (heap_alloc_new w _)
  have hs := hgr.size
  simp at hs
  refine ⟨?_, ?_, ?_, ?_, by omega⟩ <;> simp [World.cell?, World.frozen?, h]
theorem new_end {w w1 : World} (hgr : (w.alloc (.cells #[.slice none 0 0, .slice none 0 0] 114)).grownBy w1 none)
    (hown : w1.ownsRow w.heap.size 223 1 (.slice (some ⟨(w.alloc (.cells #[.slice none 0 0, .slice none 0 0] 114)).heap.size, 0, none⟩) 997 997) 997 (madeCells (Value.slice none 0 0).cells (997 * 1)).toList) :
    NewTbl w (.returned (tblV (w.heap.size + 1) w1.heap.size)) (((w1.setCell ⟨w.heap.size, 0, none⟩ (.slice (some ⟨w.heap.size + 1, 0, none⟩) 997 997)).setCell ⟨w.heap.size, 1, none⟩ (.slice (some ⟨w1.heap.size, 0, none⟩) 1 1)).alloc (.cells #[.int .i64 0] 3)) ∧
    (((w1.setCell ⟨w.heap.size, 0, none⟩ (.slice (some ⟨w.heap.size + 1, 0, none⟩) 997 997)).setCell ⟨w.heap.size, 1, none⟩ (.slice (some ⟨w1.heap.size, 0, none⟩) 1 1)).alloc (.cells #[.int .i64 0] 3)).heap[w.heap.size]? = some (.cells #[.slice (some ⟨w.heap.size + 1, 0, none⟩) 997 997, .slice (some ⟨w1.heap.size, 0, none⟩) 1 1] 114 (0, 0)) := by
  have h := (hgr.block w.heap.size (by simp) (by simp)).trans (heap_alloc_new w _)
  have hlt := (hown.lt _ rfl).2
  have hsz : (w.alloc (.cells #[.slice none 0 0, .slice none 0 0] 114)).heap.size = w.heap.size + 1 := by simp
  have hlt : w.heap.size + 1 < w1.heap.size := by have e : (⟨(w.alloc (.cells #[.slice none 0 0, .slice none 0 0] 114)).heap.size, 0, none⟩ : Addr).block = w.heap.size + 1 := hsz; rw [e] at hlt; exact hlt
  rw [hsz] at hown
  generalize hW : (w1.setCell ⟨w.heap.size, 0, none⟩ (.slice (some ⟨w.heap.size + 1, 0, none⟩) 997 997)).setCell ⟨w.heap.size, 1, none⟩ (.slice (some ⟨w1.heap.size, 0, none⟩) 1 1) = W
  have hWs : W.heap.size = w1.heap.size := by rw [← hW]; simp [World.setCell]
  have hWb : ∀ b, b ≠ w.heap.size → W.heap[b]? = w1.heap[b]? := fun b hb => by rw [← hW, Below.heap_setCell _ _ _ _ hb, Below.heap_setCell _ _ _ _ hb]
  have hWr : W.heap[w.heap.size]? = some (.cells #[.slice (some ⟨w.heap.size + 1, 0, none⟩) 997 997, .slice (some ⟨w1.heap.size, 0, none⟩) 1 1] 114 (0, 0)) := by
    rw [← hW]
    simp [World.setCell, Array.getElem?_modify, h]
  have hBel : Below w.heap.size w W := by
    have h1 := ((Below.refl w.heap.size w).alloc (Nat.le_refl _) (.cells #[.slice none 0 0, .slice none 0 0] 114)).grown hgr (by simp) (fun k hk => by cases hk)
    rw [← hW]
    exact (h1.setCell (Nat.le_refl _) _).setCell (Nat.le_refl _) _
  refine ⟨?_, (Below.heap_alloc _ _ _ (by omega)).trans hWr⟩
  rcases hown.2 with ⟨h1, _⟩ | ⟨g, cap, cur, hv, hb, hg, hnc, hcm, hcs, htake⟩
  · cases h1
  · injection hv with e1 e2 e3
    injection e1 with e1
    injection e1 with e4 e5
    subst e4; subst e3
    refine ⟨w.heap.size + 1, w1.heap.size, _, cur, rfl, tbl_new (by simpa using hcs) ?_ ?_ ?_ (by omega), hBel.alloc hBel.size _, ?_⟩
    · have := htake
      rw [show (Value.slice none 0 0).cells = #[.slice none 0 0] from rfl, toList_madeCells_one] at this
      exact this
    · rw [Below.heap_alloc _ _ _ (by omega), hWb _ (by omega)]
      exact hg
    · rw [← hWs]
      exact heap_alloc_new W _
    · rintro b (rfl | rfl) <;> omega
set_option maxRecDepth 100000 in
theorem l5New_any (w : World) : Calls Tryz.prog 80 #[] w (NewTbl w) := by
  obtain ⟨i, hi, hz, h1, h2⟩ := info_parts listInfo
  have HI := Lib.hid (And.intro hi (And.intro hz (And.intro h1 h2)))
  clear hi hz h1 h2
  go_enter Tryz.func80, Tryz.ntmps80
  go_wp2_with (first | (refine wpList_make_full _ rfl _ _ 112 rfl w.heap.size 223 i (.slice none 0 0) 1 Tryz.underlying112 HI.out.1 HI.out.2.1 HI.out.2.2.1 .i64 .i64 997 997 997 rfl rfl rfl rfl (by rw [HI.out.2.2.2]; decide) (by decide) (by simp) ?_; intro w1 hown hgr; have HO := Lib.hid hown; have HG := Lib.hid hgr; obtain ⟨r0, r1, f0, f1, hzz⟩ := res_grown hgr; clear hown hgr) | fail)
  obtain ⟨hn, hr⟩ := new_end HG.out HO.out
  refine bodyPost_ret (v := tblV (w.heap.size + 1) w1.heap.size) ?_ rfl hn
  exact results_cell_row rfl _ _ w.heap.size 114 #[.slice (some ⟨w.heap.size + 1, 0, none⟩) 997 997, .slice (some ⟨w1.heap.size, 0, none⟩) 1 1] (0, 0) _ rfl hr Tryz.underlying114 rfl tblInfo
end Go.Proofs.YthmhjihppbeodaaGreatDoor
namespace Go.Proofs.YthmhjihppbeodaaGreatDoor
open Go.RowKit
set_option linter.unusedVariables false
/-- What a call leaves that returns a truth and turns nothing that was there. -/
def BoolB (w : World) (b : Bool) (e : Ending) (w' : World) : Prop := e = .returned (.bool b) ∧ Below w.heap.size w w'
theorem wins_num {D : List (List UInt8)} (hD : D.Nodup) {a b : Gs.St} {k : Nat} {la lb : List Nat} (hl : la.length = lb.length) {n m : Nat} (h1 : Gs.TypeNum D a k la n) (h2 : Gs.TypeNum D b k lb m) : ((n : Int) == (m : Int)) = Gs.wins k a la b lb := by
  rw [Bool.eq_iff_iff, beq_iff_eq, Gs.wins_iff hl, ← Gs.typeNum_iff hD h1 h2]
  omega
theorem calls_le (n k : Nat) (hn : n ≤ 8) (hk : k ≤ 3) : callsN n k ≤ 585 := by
  have h0 : callsN n 0 = 1 := rfl
  have h1 : callsN n 1 = n * 1 + 1 := rfl
  have h2 : callsN n 2 = n * (n * 1 + 1) + 1 := rfl
  have h3 : callsN n 3 = n * (n * (n * 1 + 1) + 1) + 1 := rfl
  have a1 : n * 1 + 1 ≤ 9 := by omega
  have a2 : n * (n * 1 + 1) ≤ 8 * 9 := Nat.mul_le_mul hn a1
  have a3 : n * (n * (n * 1 + 1) + 1) ≤ 8 * 73 := Nat.mul_le_mul hn (by omega)
  rcases (show k = 0 ∨ k = 1 ∨ k = 2 ∨ k = 3 by omega) with rfl | rfl | rfl | rfl <;> omega
end Go.Proofs.YthmhjihppbeodaaGreatDoor
namespace Go.Proofs.YthmhjihppbeodaaGreatDoor
open Go.RowKit
set_option linter.unusedVariables false
theorem specValid_b (n : Nat) (S R : ByteArray) (w : World) (h : validB n S R = true) : Calls Tryz.prog 24 #[strV n S R] w (BoolB w true) := by
  obtain ⟨h1, h2, h3, h4, _⟩ := valid_is h
  have h5 : n * n ≤ 64 := Nat.mul_le_mul h2 h2
  have hc := specValid_any n S R w (by omega) (by omega)
  rw [h] at hc
  exact hc
theorem l1In_b (n lo hi : Int) (w : World) : Calls Tryz.prog 46 #[.int .i64 n, .int .i64 lo, .int .i64 hi] w (BoolB w (inB n lo hi)) :=
  (l1In_any n lo hi w).mono fun e w' ⟨h1, h2⟩ => ⟨h1, by rw [← h2]; exact Below.refl _ _⟩
end Go.Proofs.YthmhjihppbeodaaGreatDoor

namespace Go.Proofs.YthmhjihppbeodaaGreatDoor
open Go.RowKit
set_option linter.unusedVariables false
set_option maxRecDepth 100000
/-- The first reply that wins. -/
def winR (a : Gs.St) (la : List Nat) (b : Gs.St) (lb : List Nat) (k x : Nat) : Option Nat := (List.range b.n).find? fun y => Gs.wins k a (la ++ [x]) b (lb ++ [y])
def repI : Option Nat → Int
  | some y => (y : Int)
  | none => -1
/-- What is known while replies are tried. -/
structure Rq (wr : World) (F0 : Nat → Prop) (gL gC : Nat) (a : Gs.St) (k : Nat) (l : List Nat) (num lim : Nat) (W : World) (F : Nat → Prop) (vs : Array Value) (E : List (List UInt8)) : Prop where
  tbl : Tbl W gL gC F vs E
  few : E.length ≤ lim
  tn : Gs.TypeNum E a k l num
  off : Off F0 wr W
  new : ∀ b, F b → F0 b ∨ wr.heap.size ≤ b
theorem winR_at {a : Gs.St} {la : List Nat} {b : Gs.St} {lb : List Nat} {k x y : Nat} (hy : y < b.n) (h : ∀ z, z < y → Gs.wins k a (la ++ [x]) b (lb ++ [z]) = false) (hn : Gs.wins k a (la ++ [x]) b (lb ++ [y]) = true) : winR a la b lb k x = some y :=
  find_at hy h hn
theorem winR_none {a : Gs.St} {la : List Nat} {b : Gs.St} {lb : List Nat} {k x : Nat} (h : ∀ z, z < b.n → Gs.wins k a (la ++ [x]) b (lb ++ [z]) = false) : winR a la b lb k x = none := by
  unfold winR
  rw [List.find?_eq_none]
  intro z hz
  simp [h z (List.mem_range.1 hz)]
theorem Rq.next {wr : World} {F0 : Nat → Prop} {gL gC : Nat} {a : Gs.St} {k : Nat} {l : List Nat} {num lim c : Nat} {W W1 W2 : World} {F F2 : Nat → Prop} {vs vs2 : Array Value} {E E2 : List (List UInt8)}
    (h : Rq wr F0 gL gC a k l num lim W F vs E) (hb : Below W.heap.size W W1) (ht : Tbl W2 gL gC F2 vs2 (E ++ E2)) (hE : E2.length ≤ c) (ho : Off F W1 W2) (hF : ∀ b, F2 b → F b ∨ W1.heap.size ≤ b) : Rq wr F0 gL gC a k l num (lim + c) W2 F2 vs2 (E ++ E2) := by
  have hs := h.off.size
  have hs1 := hb.size
  refine ⟨ht, by rw [List.length_append]; have := h.few; omega, h.tn.more, (h.off.trans (Off.of_below (F := fun _ => False) hb) (fun _ h => h.elim)).trans ho (fun b hb => h.new b hb), fun b hb => ?_⟩
  rcases hF b hb with h1 | h1
  · exact h.new b h1
  · exact .inr (by omega)
end Go.Proofs.YthmhjihppbeodaaGreatDoor

/- The reference's l5New: a table without descriptions; the program's sameWords. Condition: the words have at most eight letters. -/
import Derived.Test.YtnhlhjehocngcaaDoorType
import Derived.Test.YtnhlhjehocngcaaDoorWord
import Derived.Laws.ResultCell
import Derived.Test.YtnhlhjehocngcaaDoorValid
import Derived.Deep.RegionHeld3
import Derived.Test.YtnhlhjehocngcaaDoorSum
namespace Go.Proofs.YtnhlhjehocngcaaDoor
open Go.RowKit
set_option linter.unusedVariables false

/-- What l5New leaves. -/
def NewTbl (w : World) (e : Ending) (w' : World) : Prop :=
  ∃ gL gC F vs, e = .returned (tblV gL gC) ∧ Tbl w' gL gC F vs [] ∧ Below w.heap.size w w' ∧ ∀ b, F b → w.heap.size ≤ b
theorem listInfo : (Tryd.prog.info? 129).map (fun i => (i.zero, i.size, i.bytes)) = some (some (.slice none 0 0), 1, 24) := by kernel_rfl
theorem tblInfo : (Tryd.prog.info? 92).map (·.size) = some 2 := by kernel_rfl
theorem bucket_nil (k : Nat) : bucket [] k = [] := rfl

theorem tbl_new {w' : World} {gL gC : Nat} {cur : Array Value} (hs : cur.size = 997) (hc : cur.toList.take 997 = List.replicate 997 (.slice none 0 0)) (hL : w'.heap[gL]? = some (.cells cur 129 (0, 0))) (hC : w'.heap[gC]? = some (.cells #[.int .i64 0] 3 (0, 0))) (hne : gL ≠ gC) :
    Tbl w' gL gC (fun b => b = gL ∨ b = gC) cur [] := by
  have hcur : cur.toList = List.replicate 997 (.slice none 0 0) := by
    rw [← hc, List.take_of_length_le (by simp [hs])]
  have hat : ∀ k, k < 997 → cur.getD k undef = .slice none 0 0 := by
    intro k hk
    rw [Array.getD_eq_getD_getElem?, ← Array.getElem?_toList, hcur, List.getElem?_replicate, if_pos hk]
    rfl
  have lt : ∀ b o, w'.heap[b]? = some o → b < w'.heap.size := fun b o h => (Array.getElem?_eq_some_iff.1 h).1
  refine ⟨.inl rfl, .inr rfl, hne, ?_, hs, hL, ?_, ?_, hC, List.nodup_nil⟩
  · rintro b (rfl | rfl)
    · exact lt _ _ hL
    · exact lt _ _ hC
  · intro k hk
    rw [hat k hk, bucket_nil]
    exact ⟨World.ownsRow_nil _ _ _ _, fun b hb => by cases hb⟩
  · intro j k hj hk _
    rw [hat j hj]
    exact .inl rfl

theorem res_grown {w w1 : World} (hgr : (w.alloc (.cells #[.slice none 0 0, .slice none 0 0] 92)).grownBy w1 none) :
    w1.cell? ⟨w.heap.size, 0, none⟩ = some (.slice none 0 0) ∧ w1.cell? ⟨w.heap.size, 1, none⟩ = some (.slice none 0 0) ∧ w1.frozen? ⟨w.heap.size, 0, none⟩ = false ∧ w1.frozen? ⟨w.heap.size, 1, none⟩ = false ∧ w.heap.size < w1.heap.size := by
  have h := (hgr.block w.heap.size (by simp) (by simp)).trans (heap_alloc_new w _)
  have hs := hgr.size
  simp at hs
  refine ⟨?_, ?_, ?_, ?_, by omega⟩ <;> simp [World.cell?, World.frozen?, h]

theorem new_end {w w1 : World} (hgr : (w.alloc (.cells #[.slice none 0 0, .slice none 0 0] 92)).grownBy w1 none)
    (hown : w1.ownsRow w.heap.size 129 1 (.slice (some ⟨(w.alloc (.cells #[.slice none 0 0, .slice none 0 0] 92)).heap.size, 0, none⟩) 997 997) 997 (madeCells (Value.slice none 0 0).cells (997 * 1)).toList) :
    NewTbl w (.returned (tblV (w.heap.size + 1) w1.heap.size)) (((w1.setCell ⟨w.heap.size, 0, none⟩ (.slice (some ⟨w.heap.size + 1, 0, none⟩) 997 997)).setCell ⟨w.heap.size, 1, none⟩ (.slice (some ⟨w1.heap.size, 0, none⟩) 1 1)).alloc (.cells #[.int .i64 0] 3)) ∧
    (((w1.setCell ⟨w.heap.size, 0, none⟩ (.slice (some ⟨w.heap.size + 1, 0, none⟩) 997 997)).setCell ⟨w.heap.size, 1, none⟩ (.slice (some ⟨w1.heap.size, 0, none⟩) 1 1)).alloc (.cells #[.int .i64 0] 3)).heap[w.heap.size]? = some (.cells #[.slice (some ⟨w.heap.size + 1, 0, none⟩) 997 997, .slice (some ⟨w1.heap.size, 0, none⟩) 1 1] 92 (0, 0)) := by
  have h := (hgr.block w.heap.size (by simp) (by simp)).trans (heap_alloc_new w _)
  have hlt := (hown.lt _ rfl).2
  have hsz : (w.alloc (.cells #[.slice none 0 0, .slice none 0 0] 92)).heap.size = w.heap.size + 1 := by simp
  have hlt : w.heap.size + 1 < w1.heap.size := by have e : (⟨(w.alloc (.cells #[.slice none 0 0, .slice none 0 0] 92)).heap.size, 0, none⟩ : Addr).block = w.heap.size + 1 := hsz; rw [e] at hlt; exact hlt
  rw [hsz] at hown
  generalize hW : (w1.setCell ⟨w.heap.size, 0, none⟩ (.slice (some ⟨w.heap.size + 1, 0, none⟩) 997 997)).setCell ⟨w.heap.size, 1, none⟩ (.slice (some ⟨w1.heap.size, 0, none⟩) 1 1) = W
  have hWs : W.heap.size = w1.heap.size := by rw [← hW]; simp [World.setCell]
  have hWb : ∀ b, b ≠ w.heap.size → W.heap[b]? = w1.heap[b]? := fun b hb => by rw [← hW, Below.heap_setCell _ _ _ _ hb, Below.heap_setCell _ _ _ _ hb]
  have hWr : W.heap[w.heap.size]? = some (.cells #[.slice (some ⟨w.heap.size + 1, 0, none⟩) 997 997, .slice (some ⟨w1.heap.size, 0, none⟩) 1 1] 92 (0, 0)) := by
    rw [← hW]
    simp [World.setCell, Array.getElem?_modify, h]
  have hBel : Below w.heap.size w W := by
    have h1 := ((Below.refl w.heap.size w).alloc (Nat.le_refl _) (.cells #[.slice none 0 0, .slice none 0 0] 92)).grown hgr (by simp) (fun k hk => by cases hk)
    rw [← hW]
    exact (h1.setCell (Nat.le_refl _) _).setCell (Nat.le_refl _) _
  refine ⟨?_, (Below.heap_alloc _ _ _ (by omega)).trans hWr⟩
  rcases hown.2 with ⟨h1, _⟩ | ⟨g, cap, cur, hv, hb, hg, hnc, hcm, hcs, htake⟩
  · cases h1
  · injection hv with e1 e2 e3
    injection e1 with e1
    injection e1 with e4 e5
    subst e4; subst e3
    refine ⟨w.heap.size + 1, w1.heap.size, _, cur, rfl, tbl_new (by simpa using hcs) ?_ ?_ ?_ (by omega), hBel.alloc hBel.size _, ?_⟩
    · have := htake
      rw [show (Value.slice none 0 0).cells = #[.slice none 0 0] from rfl, toList_madeCells_one] at this
      exact this
    · rw [Below.heap_alloc _ _ _ (by omega), hWb _ (by omega)]
      exact hg
    · rw [← hWs]
      exact heap_alloc_new W _
    · rintro b (rfl | rfl) <;> omega

set_option maxRecDepth 100000 in
theorem l5New_any (w : World) : Calls Tryd.prog 66 #[] w (NewTbl w) := by
  obtain ⟨i, hi, hz, h1, h2⟩ := info_parts listInfo
  have HI := Lib.hid (And.intro hi (And.intro hz (And.intro h1 h2)))
  clear hi hz h1 h2
  go_enter Tryd.func66, Tryd.ntmps66
  go_wp2_with (first | (refine wpList_make_full _ rfl _ _ 90 rfl w.heap.size 129 i (.slice none 0 0) 1 Tryd.underlying90 HI.out.1 HI.out.2.1 HI.out.2.2.1 .i64 .i64 997 997 997 rfl rfl rfl rfl (by rw [HI.out.2.2.2]; decide) (by decide) (by simp) ?_; intro w1 hown hgr; have HO := Lib.hid hown; have HG := Lib.hid hgr; obtain ⟨r0, r1, f0, f1, hzz⟩ := res_grown hgr; clear hown hgr) | fail)
  obtain ⟨hn, hr⟩ := new_end HG.out HO.out
  refine bodyPost_ret (v := tblV (w.heap.size + 1) w1.heap.size) ?_ rfl hn
  exact results_cell_row rfl _ _ w.heap.size 92 #[.slice (some ⟨w.heap.size + 1, 0, none⟩) 997 997, .slice (some ⟨w1.heap.size, 0, none⟩) 1 1] (0, 0) _ rfl hr Tryd.underlying92 rfl tblInfo

/-- The plain form of a word's structure. -/
def wSt (s : ByteArray) : Gs.St := stOf s.size (bitsOf (letB s) s.size) (gridOf ltB s.size)
theorem grid_size (r : Nat → Nat → Bool) (n : Nat) : (gridOf r n).size = n * n := bitsOf_size _ _
end Go.Proofs.YtnhlhjehocngcaaDoor
/- The reference's l5Wins, SecondWins and SameRank from no elements; SameWords of the program and of the reference; the law FnExactSameWords. Conditions: the structures are valid; a text's length fits an integer. -/
namespace Go.Proofs.YtnhlhjehocngcaaDoor
open Go.RowKit
set_option linter.unusedVariables false

/-- What a call leaves that returns a truth and turns nothing that was there. -/
def BoolB (w : World) (b : Bool) (e : Ending) (w' : World) : Prop := e = .returned (.bool b) ∧ Below w.heap.size w w'

theorem wins_num {D : List (List UInt8)} (hD : D.Nodup) {a b : Gs.St} {k : Nat} {la lb : List Nat} (hl : la.length = lb.length) {n m : Nat} (h1 : Gs.TypeNum D a k la n) (h2 : Gs.TypeNum D b k lb m) : ((n : Int) == (m : Int)) = Gs.wins k a la b lb := by
  rw [Bool.eq_iff_iff, beq_iff_eq, Gs.wins_iff hl, ← Gs.typeNum_iff hD h1 h2]
  omega
theorem calls_le (n k : Nat) (hn : n ≤ 8) (hk : k ≤ 3) : callsN n k ≤ 585 := by
  have h0 : callsN n 0 = 1 := rfl
  have h1 : callsN n 1 = n * 1 + 1 := rfl
  have h2 : callsN n 2 = n * (n * 1 + 1) + 1 := rfl
  have h3 : callsN n 3 = n * (n * (n * 1 + 1) + 1) + 1 := rfl
  have a1 : n * 1 + 1 ≤ 9 := by omega
  have a2 : n * (n * 1 + 1) ≤ 8 * 9 := Nat.mul_le_mul hn a1
  have a3 : n * (n * (n * 1 + 1) + 1) ≤ 8 * 73 := Nat.mul_le_mul hn (by omega)
  rcases (show k = 0 ∨ k = 1 ∨ k = 2 ∨ k = 3 by omega) with rfl | rfl | rfl | rfl <;> omega

end Go.Proofs.YtnhlhjehocngcaaDoor
/- The reference's SecondWins and SameRank from no elements; SameWords of the program and of the reference; the law FnExactSameWords. Conditions: the structures are valid; a text's length fits an integer. -/
namespace Go.Proofs.YtnhlhjehocngcaaDoor
open Go.RowKit
set_option linter.unusedVariables false

theorem specValid_b (n : Nat) (S R : ByteArray) (w : World) (h : validB n S R = true) : Calls Tryd.prog 83 #[strV n S R] w (BoolB w true) := by
  obtain ⟨h1, h2, h3, h4, _⟩ := valid_is h
  have h5 : n * n ≤ 64 := Nat.mul_le_mul h2 h2
  have hc := specValid_any n S R w (by omega) (by omega)
  rw [h] at hc
  exact hc
theorem l1In_b (n lo hi : Int) (w : World) : Calls Tryd.prog 23 #[.int .i64 n, .int .i64 lo, .int .i64 hi] w (BoolB w (inB n lo hi)) :=
  (l1In_any n lo hi w).mono fun e w' ⟨h1, h2⟩ => ⟨h1, by rw [← h2]; exact Below.refl _ _⟩
theorem wordSt_valid {s : ByteArray} (h : wordB s = true) : 1 ≤ s.size ∧ s.size ≤ 8 := by
  simp only [wordB, Bool.and_eq_true, inB_iff] at h
  omega
/-- Whether SameWords is true. -/
def sameB (v u : ByteArray) (K : Int) : Bool := wordB v && (wordB u && (inB K 0 3 && Gs.wins K.toNat (wSt v) [] (wSt u) []))

end Go.Proofs.YtnhlhjehocngcaaDoor

/- The reference's l5New: a table without descriptions; the program's sameWords. Condition: the words have at most eight letters. -/
import Derived.Test.YtagnikcnakdehaaDoorType2
import Derived.Test.YtagnikcnakdehaaDoorWordStr0
import Derived.Laws.ResultCell
namespace Go.Proofs.YtagnikcnakdehaaDoor
open Go.RowKit
set_option linter.unusedVariables false

/-- What l5New leaves. -/
def NewTbl (w : World) (e : Ending) (w' : World) : Prop :=
  ∃ gL gC F vs, e = .returned (tblV gL gC) ∧ Tbl w' gL gC F vs [] ∧ Below w.heap.size w w' ∧ ∀ b, F b → w.heap.size ≤ b
theorem listInfo : (Tryd.prog.info? 176).map (fun i => (i.zero, i.size, i.bytes)) = some (some (.slice none 0 0), 1, 24) := by kernel_rfl
theorem tblInfo : (Tryd.prog.info? 80).map (·.size) = some 2 := by kernel_rfl
theorem bucket_nil (k : Nat) : bucket [] k = [] := rfl

theorem tbl_new {w' : World} {gL gC : Nat} {cur : Array Value} (hs : cur.size = 997) (hc : cur.toList.take 997 = List.replicate 997 (.slice none 0 0)) (hL : w'.heap[gL]? = some (.cells cur 176 (0, 0))) (hC : w'.heap[gC]? = some (.cells #[.int .i64 0] 3 (0, 0))) (hne : gL ≠ gC) :
    Tbl w' gL gC (fun b => b = gL ∨ b = gC) cur [] := by
  have hcur : cur.toList = List.replicate 997 (.slice none 0 0) := by
    rw [← hc, List.take_of_length_le (by simp [hs])]
  have hat : ∀ k, k < 997 → cur.getD k undef = .slice none 0 0 := by
    intro k hk
    rw [Array.getD_eq_getD_getElem?, ← Array.getElem?_toList, hcur, List.getElem?_replicate, if_pos hk]
    rfl
  have lt : ∀ b o, w'.heap[b]? = some o → b < w'.heap.size := fun b o h => (Array.getElem?_eq_some_iff.1 h).1
  refine ⟨.inl rfl, .inr rfl, hne, ?_, hs, hL, ?_, ?_, hC, List.nodup_nil⟩
  · rintro b (rfl | rfl)
    · exact lt _ _ hL
    · exact lt _ _ hC
  · intro k hk
    rw [hat k hk, bucket_nil]
    exact ⟨World.ownsRow_nil _ _ _ _, fun b hb => by cases hb⟩
  · intro j k hj hk _
    rw [hat j hj]
    exact .inl rfl

theorem res_grown {w w1 : World} (hgr : (w.alloc (.cells #[.slice none 0 0, .slice none 0 0] 80)).grownBy w1 none) :
    w1.cell? ⟨w.heap.size, 0, none⟩ = some (.slice none 0 0) ∧ w1.cell? ⟨w.heap.size, 1, none⟩ = some (.slice none 0 0) ∧ w1.frozen? ⟨w.heap.size, 0, none⟩ = false ∧ w1.frozen? ⟨w.heap.size, 1, none⟩ = false ∧ w.heap.size < w1.heap.size := by
  have h := (hgr.block w.heap.size (by simp) (by simp)).trans (heap_alloc_new w _)
  have hs := hgr.size
  simp at hs
  refine ⟨?_, ?_, ?_, ?_, by omega⟩ <;> simp [World.cell?, World.frozen?, h]

theorem new_end {w w1 : World} (hgr : (w.alloc (.cells #[.slice none 0 0, .slice none 0 0] 80)).grownBy w1 none)
    (hown : w1.ownsRow w.heap.size 176 1 (.slice (some ⟨(w.alloc (.cells #[.slice none 0 0, .slice none 0 0] 80)).heap.size, 0, none⟩) 997 997) 997 (madeCells (Value.slice none 0 0).cells (997 * 1)).toList) :
    NewTbl w (.returned (tblV (w.heap.size + 1) w1.heap.size)) (((w1.setCell ⟨w.heap.size, 0, none⟩ (.slice (some ⟨w.heap.size + 1, 0, none⟩) 997 997)).setCell ⟨w.heap.size, 1, none⟩ (.slice (some ⟨w1.heap.size, 0, none⟩) 1 1)).alloc (.cells #[.int .i64 0] 3)) ∧
    (((w1.setCell ⟨w.heap.size, 0, none⟩ (.slice (some ⟨w.heap.size + 1, 0, none⟩) 997 997)).setCell ⟨w.heap.size, 1, none⟩ (.slice (some ⟨w1.heap.size, 0, none⟩) 1 1)).alloc (.cells #[.int .i64 0] 3)).heap[w.heap.size]? = some (.cells #[.slice (some ⟨w.heap.size + 1, 0, none⟩) 997 997, .slice (some ⟨w1.heap.size, 0, none⟩) 1 1] 80 (0, 0)) := by
  have h := (hgr.block w.heap.size (by simp) (by simp)).trans (heap_alloc_new w _)
  have hlt := (hown.lt _ rfl).2
  have hsz : (w.alloc (.cells #[.slice none 0 0, .slice none 0 0] 80)).heap.size = w.heap.size + 1 := by simp
  have hlt : w.heap.size + 1 < w1.heap.size := by have e : (⟨(w.alloc (.cells #[.slice none 0 0, .slice none 0 0] 80)).heap.size, 0, none⟩ : Addr).block = w.heap.size + 1 := hsz; rw [e] at hlt; exact hlt
  rw [hsz] at hown
  generalize hW : (w1.setCell ⟨w.heap.size, 0, none⟩ (.slice (some ⟨w.heap.size + 1, 0, none⟩) 997 997)).setCell ⟨w.heap.size, 1, none⟩ (.slice (some ⟨w1.heap.size, 0, none⟩) 1 1) = W
  have hWs : W.heap.size = w1.heap.size := by rw [← hW]; simp [World.setCell]
  have hWb : ∀ b, b ≠ w.heap.size → W.heap[b]? = w1.heap[b]? := fun b hb => by rw [← hW, Below.heap_setCell _ _ _ _ hb, Below.heap_setCell _ _ _ _ hb]
  have hWr : W.heap[w.heap.size]? = some (.cells #[.slice (some ⟨w.heap.size + 1, 0, none⟩) 997 997, .slice (some ⟨w1.heap.size, 0, none⟩) 1 1] 80 (0, 0)) := by
    rw [← hW]
    simp [World.setCell, Array.getElem?_modify, h]
  have hBel : Below w.heap.size w W := by
    have h1 := ((Below.refl w.heap.size w).alloc (Nat.le_refl _) (.cells #[.slice none 0 0, .slice none 0 0] 80)).grown hgr (by simp) (fun k hk => by cases hk)
    rw [← hW]
    exact (h1.setCell (Nat.le_refl _) _).setCell (Nat.le_refl _) _
  refine ⟨?_, (Below.heap_alloc _ _ _ (by omega)).trans hWr⟩
  rcases hown.2 with ⟨h1, _⟩ | ⟨g, cap, cur, hv, hb, hg, hnc, hcm, hcs, htake⟩
  · cases h1
  · injection hv with e1 e2 e3
    injection e1 with e1
    injection e1 with e4 e5
    subst e4; subst e3
    refine ⟨w.heap.size + 1, w1.heap.size, _, cur, rfl, tbl_new (by simpa using hcs) ?_ ?_ ?_ (by omega), hBel.alloc hBel.size _, ?_⟩
    · have := htake
      rw [show (Value.slice none 0 0).cells = #[.slice none 0 0] from rfl, toList_madeCells_one] at this
      exact this
    · rw [Below.heap_alloc _ _ _ (by omega), hWb _ (by omega)]
      exact hg
    · rw [← hWs]
      exact heap_alloc_new W _
    · rintro b (rfl | rfl) <;> omega

set_option maxRecDepth 100000 in
theorem l5New_any (w : World) : Calls Tryd.prog 66 #[] w (NewTbl w) := by
  obtain ⟨i, hi, hz, h1, h2⟩ := info_parts listInfo
  have HI := Lib.hid (And.intro hi (And.intro hz (And.intro h1 h2)))
  clear hi hz h1 h2
  go_enter Tryd.func66, Tryd.ntmps66
  go_wp2_with (first | (refine wpList_make_full _ rfl _ _ 78 rfl w.heap.size 176 i (.slice none 0 0) 1 Tryd.underlying78 HI.out.1 HI.out.2.1 HI.out.2.2.1 .i64 .i64 997 997 997 rfl rfl rfl rfl (by rw [HI.out.2.2.2]; decide) (by decide) (by simp) ?_; intro w1 hown hgr; have HO := Lib.hid hown; have HG := Lib.hid hgr; obtain ⟨r0, r1, f0, f1, hzz⟩ := res_grown hgr; clear hown hgr) | fail)
  obtain ⟨hn, hr⟩ := new_end HG.out HO.out
  refine bodyPost_ret (v := tblV (w.heap.size + 1) w1.heap.size) ?_ rfl hn
  exact results_cell_row rfl _ _ w.heap.size 80 #[.slice (some ⟨w.heap.size + 1, 0, none⟩) 997 997, .slice (some ⟨w1.heap.size, 0, none⟩) 1 1] (0, 0) _ rfl hr Tryd.underlying80 rfl tblInfo

/-- The plain form of a word's structure. -/
def wSt (s : ByteArray) : Gs.St := stOf s.size (bitsOf (letB s) s.size) (gridOf ltB s.size)
theorem grid_size (r : Nat → Nat → Bool) (n : Nat) : (gridOf r n).size = n * n := bitsOf_size _ _
theorem sameWords_any (v u : ByteArray) (k : Nat) (w : World) (hv : v.size ≤ 8) (hu : u.size ≤ 8) (hk : k ≤ 8) :
    Calls Tryd.prog 78 #[.string v, .string u, .int .i64 (k : Int)] w fun e w' => e = .returned (.bool (Gs.wins k (wSt v) [] (wSt u) [])) ∧ Below w.heap.size w w' := by
  have h1 := Lib.hid (fun w => implWordStr_any v w hv)
  have h2 := Lib.hid (fun w => implWordStr_any u w hu)
  have hp : Pos v.size (bitsOf (letB v) v.size) (gridOf ltB v.size) u.size (bitsOf (letB u) u.size) (gridOf ltB u.size) [] [] k :=
    ⟨bitsOf_size _ _, grid_size _ _, hv, bitsOf_size _ _, grid_size _ _, hu, rfl, by simpa using hk, by simp, by simp⟩
  have h3 := Lib.hid (fun w => secondWins_any v.size (bitsOf (letB v) v.size) (gridOf ltB v.size) u.size (bitsOf (letB u) u.size) (gridOf ltB u.size) (.slice none 0 0) (.slice none 0 0) [] [] k w hp (NumsAt.nil w) (NumsAt.nil w))
  clear hp
  obtain ⟨B, hB⟩ : ∃ B, Gs.wins k (wSt v) [] (wSt u) [] = B := ⟨_, rfl⟩
  have HB := Lib.hid hB
  rw [hB]
  clear hB
  go_enter Tryd.func78, Tryd.ntmps78
  go_wp2_with fail
  refine (h1.out _).mono ?_; rintro e w1 ⟨rfl, hb⟩
  have HB1 := Lib.hid hb; clear hb
  go_wp2_with fail
  refine (h2.out _).mono ?_; rintro e w2 ⟨rfl, hb⟩
  have HB2 := Lib.hid (HB1.out.trans (hb.mono HB1.out.size)); clear hb
  go_wp2_with fail
  refine (h3.out _).mono ?_; rintro e w3 ⟨rfl, hb⟩
  have HB3 := Lib.hid (HB2.out.trans (hb.mono HB2.out.size)); clear hb
  go_wp2_with fail
  go_ret
  exact ⟨ret_bool HB.out, HB3.out⟩
end Go.Proofs.YtagnikcnakdehaaDoor

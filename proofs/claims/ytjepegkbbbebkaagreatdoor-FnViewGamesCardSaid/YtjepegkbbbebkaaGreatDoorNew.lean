/- The reference's l5New: a table without descriptions; the program's sameWords. Condition: the words have at most eight letters. -/
import Derived.Test.YtjepegkbbbebkaaGreatDoorType
import Derived.Test.YtjepegkbbbebkaaGreatDoorWord
import Derived.Laws.ResultCell
import Derived.Test.YtjepegkbbbebkaaGreatDoorValid
import Derived.Deep.RegionHeld3
import Derived.Test.YtjepegkbbbebkaaGreatDoorSum
namespace Go.Proofs.YtjepegkbbbebkaaGreatDoor
open Go.RowKit
set_option linter.unusedVariables false

/-- What l5New leaves. -/
def NewTbl (w : World) (e : Ending) (w' : World) : Prop :=
  ∃ gL gC F vs, e = .returned (tblV gL gC) ∧ Tbl w' gL gC F vs [] ∧ Below w.heap.size w w' ∧ ∀ b, F b → w.heap.size ≤ b
theorem listInfo : (Tryz.prog.info? 193).map (fun i => (i.zero, i.size, i.bytes)) = some (some (.slice none 0 0), 1, 24) := by kernel_rfl
theorem tblInfo : (Tryz.prog.info? 125).map (·.size) = some 2 := by kernel_rfl
theorem bucket_nil (k : Nat) : bucket [] k = [] := rfl

theorem tbl_new {w' : World} {gL gC : Nat} {cur : Array Value} (hs : cur.size = 997) (hc : cur.toList.take 997 = List.replicate 997 (.slice none 0 0)) (hL : w'.heap[gL]? = some (.cells cur 193 (0, 0))) (hC : w'.heap[gC]? = some (.cells #[.int .i64 0] 3 (0, 0))) (hne : gL ≠ gC) :
    Tbl w' gL gC (fun b => b = gL ∨ b = gC) cur [] := by
  have hcur : cur.toList = List.replicate 997 (.slice none 0 0) := by
    rw [← hc, List.take_of_length_le (by simp [hs])]
  have hat : ∀ k, k < 997 → cur.getD k undef = .slice none 0 0 := by
    intro k hk
    rw [Array.getD_eq_getD_getElem?, ← Array.getElem?_toList, hcur, List.getElem?_replicate, if_pos hk]
    rfl
  have lt : ∀ b o, w'.heap[b]? = some o → b < w'.heap.size := fun b o h => (Array.getElem?_eq_some_iff.1 h).1
  refine ⟨.inl rfl, .inr rfl, hne, ?_, hs, hL, ?_, ?_, hC, List.nodup_nil⟩
  · rintro b (rfl | rfl)
    · exact lt _ _ hL
    · exact lt _ _ hC
  · intro k hk
    rw [hat k hk, bucket_nil]
    exact ⟨World.ownsRow_nil _ _ _ _, fun b hb => by cases hb⟩
  · intro j k hj hk _
    rw [hat j hj]
    exact .inl rfl

theorem res_grown {w w1 : World} (hgr : (w.alloc (.cells #[.slice none 0 0, .slice none 0 0] 125)).grownBy w1 none) :
    w1.cell? ⟨w.heap.size, 0, none⟩ = some (.slice none 0 0) ∧ w1.cell? ⟨w.heap.size, 1, none⟩ = some (.slice none 0 0) ∧ w1.frozen? ⟨w.heap.size, 0, none⟩ = false ∧ w1.frozen? ⟨w.heap.size, 1, none⟩ = false ∧ w.heap.size < w1.heap.size := by
  have h := (hgr.block w.heap.size (by simp) (by simp)).trans (heap_alloc_new w _)
  have hs := hgr.size
  simp at hs
  refine ⟨?_, ?_, ?_, ?_, by omega⟩ <;> simp [World.cell?, World.frozen?, h]

theorem new_end {w w1 : World} (hgr : (w.alloc (.cells #[.slice none 0 0, .slice none 0 0] 125)).grownBy w1 none)
    (hown : w1.ownsRow w.heap.size 193 1 (.slice (some ⟨(w.alloc (.cells #[.slice none 0 0, .slice none 0 0] 125)).heap.size, 0, none⟩) 997 997) 997 (madeCells (Value.slice none 0 0).cells (997 * 1)).toList) :
    NewTbl w (.returned (tblV (w.heap.size + 1) w1.heap.size)) (((w1.setCell ⟨w.heap.size, 0, none⟩ (.slice (some ⟨w.heap.size + 1, 0, none⟩) 997 997)).setCell ⟨w.heap.size, 1, none⟩ (.slice (some ⟨w1.heap.size, 0, none⟩) 1 1)).alloc (.cells #[.int .i64 0] 3)) ∧
    (((w1.setCell ⟨w.heap.size, 0, none⟩ (.slice (some ⟨w.heap.size + 1, 0, none⟩) 997 997)).setCell ⟨w.heap.size, 1, none⟩ (.slice (some ⟨w1.heap.size, 0, none⟩) 1 1)).alloc (.cells #[.int .i64 0] 3)).heap[w.heap.size]? = some (.cells #[.slice (some ⟨w.heap.size + 1, 0, none⟩) 997 997, .slice (some ⟨w1.heap.size, 0, none⟩) 1 1] 125 (0, 0)) := by
  have h := (hgr.block w.heap.size (by simp) (by simp)).trans (heap_alloc_new w _)
  have hlt := (hown.lt _ rfl).2
  have hsz : (w.alloc (.cells #[.slice none 0 0, .slice none 0 0] 125)).heap.size = w.heap.size + 1 := by simp
  have hlt : w.heap.size + 1 < w1.heap.size := by have e : (⟨(w.alloc (.cells #[.slice none 0 0, .slice none 0 0] 125)).heap.size, 0, none⟩ : Addr).block = w.heap.size + 1 := hsz; rw [e] at hlt; exact hlt
  rw [hsz] at hown
  generalize hW : (w1.setCell ⟨w.heap.size, 0, none⟩ (.slice (some ⟨w.heap.size + 1, 0, none⟩) 997 997)).setCell ⟨w.heap.size, 1, none⟩ (.slice (some ⟨w1.heap.size, 0, none⟩) 1 1) = W
  have hWs : W.heap.size = w1.heap.size := by rw [← hW]; simp [World.setCell]
  have hWb : ∀ b, b ≠ w.heap.size → W.heap[b]? = w1.heap[b]? := fun b hb => by rw [← hW, Below.heap_setCell _ _ _ _ hb, Below.heap_setCell _ _ _ _ hb]
  have hWr : W.heap[w.heap.size]? = some (.cells #[.slice (some ⟨w.heap.size + 1, 0, none⟩) 997 997, .slice (some ⟨w1.heap.size, 0, none⟩) 1 1] 125 (0, 0)) := by
    rw [← hW]
    simp [World.setCell, Array.getElem?_modify, h]
  have hBel : Below w.heap.size w W := by
    have h1 := ((Below.refl w.heap.size w).alloc (Nat.le_refl _) (.cells #[.slice none 0 0, .slice none 0 0] 125)).grown hgr (by simp) (fun k hk => by cases hk)
    rw [← hW]
    exact (h1.setCell (Nat.le_refl _) _).setCell (Nat.le_refl _) _
  refine ⟨?_, (Below.heap_alloc _ _ _ (by omega)).trans hWr⟩
  rcases hown.2 with ⟨h1, _⟩ | ⟨g, cap, cur, hv, hb, hg, hnc, hcm, hcs, htake⟩
  · cases h1
  · injection hv with e1 e2 e3
    injection e1 with e1
    injection e1 with e4 e5
    subst e4; subst e3
    refine ⟨w.heap.size + 1, w1.heap.size, _, cur, rfl, tbl_new (by simpa using hcs) ?_ ?_ ?_ (by omega), hBel.alloc hBel.size _, ?_⟩
    · have := htake
      rw [show (Value.slice none 0 0).cells = #[.slice none 0 0] from rfl, toList_madeCells_one] at this
      exact this
    · rw [Below.heap_alloc _ _ _ (by omega), hWb _ (by omega)]
      exact hg
    · rw [← hWs]
      exact heap_alloc_new W _
    · rintro b (rfl | rfl) <;> omega

set_option maxRecDepth 100000 in
theorem l5New_any (w : World) : Calls Tryz.prog 90 #[] w (NewTbl w) := by
  obtain ⟨i, hi, hz, h1, h2⟩ := info_parts listInfo
  have HI := Lib.hid (And.intro hi (And.intro hz (And.intro h1 h2)))
  clear hi hz h1 h2
  go_enter Tryz.func90, Tryz.ntmps90
  go_wp2_with (first | (refine wpList_make_full _ rfl _ _ 123 rfl w.heap.size 193 i (.slice none 0 0) 1 Tryz.underlying123 HI.out.1 HI.out.2.1 HI.out.2.2.1 .i64 .i64 997 997 997 rfl rfl rfl rfl (by rw [HI.out.2.2.2]; decide) (by decide) (by simp) ?_; intro w1 hown hgr; have HO := Lib.hid hown; have HG := Lib.hid hgr; obtain ⟨r0, r1, f0, f1, hzz⟩ := res_grown hgr; clear hown hgr) | fail)
  obtain ⟨hn, hr⟩ := new_end HG.out HO.out
  refine bodyPost_ret (v := tblV (w.heap.size + 1) w1.heap.size) ?_ rfl hn
  exact results_cell_row rfl _ _ w.heap.size 125 #[.slice (some ⟨w.heap.size + 1, 0, none⟩) 997 997, .slice (some ⟨w1.heap.size, 0, none⟩) 1 1] (0, 0) _ rfl hr Tryz.underlying125 rfl tblInfo

/-- The plain form of a word's structure. -/
def wSt (s : ByteArray) : Gs.St := stOf s.size (bitsOf (letB s) s.size) (gridOf ltB s.size)
theorem grid_size (r : Nat → Nat → Bool) (n : Nat) : (gridOf r n).size = n * n := bitsOf_size _ _
end Go.Proofs.YtjepegkbbbebkaaGreatDoor
/- The reference's l5Wins, SecondWins and SameRank from no elements; SameWords of the program and of the reference; the law FnExactSameWords. Conditions: the structures are valid; a text's length fits an integer. -/
namespace Go.Proofs.YtjepegkbbbebkaaGreatDoor
open Go.RowKit
set_option linter.unusedVariables false

/-- What a call leaves that returns a truth and turns nothing that was there. -/
def BoolB (w : World) (b : Bool) (e : Ending) (w' : World) : Prop := e = .returned (.bool b) ∧ Below w.heap.size w w'

theorem wins_num {D : List (List UInt8)} (hD : D.Nodup) {a b : Gs.St} {k : Nat} {la lb : List Nat} (hl : la.length = lb.length) {n m : Nat} (h1 : Gs.TypeNum D a k la n) (h2 : Gs.TypeNum D b k lb m) : ((n : Int) == (m : Int)) = Gs.wins k a la b lb := by
  rw [Bool.eq_iff_iff, beq_iff_eq, Gs.wins_iff hl, ← Gs.typeNum_iff hD h1 h2]
  omega
theorem calls_le (n k : Nat) (hn : n ≤ 8) (hk : k ≤ 3) : callsN n k ≤ 585 := by
  have h0 : callsN n 0 = 1 := rfl
  have h1 : callsN n 1 = n * 1 + 1 := rfl
  have h2 : callsN n 2 = n * (n * 1 + 1) + 1 := rfl
  have h3 : callsN n 3 = n * (n * (n * 1 + 1) + 1) + 1 := rfl
  have a1 : n * 1 + 1 ≤ 9 := by omega
  have a2 : n * (n * 1 + 1) ≤ 8 * 9 := Nat.mul_le_mul hn a1
  have a3 : n * (n * (n * 1 + 1) + 1) ≤ 8 * 73 := Nat.mul_le_mul hn (by omega)
  rcases (show k = 0 ∨ k = 1 ∨ k = 2 ∨ k = 3 by omega) with rfl | rfl | rfl | rfl <;> omega

set_option maxRecDepth 100000 in
set_option maxHeartbeats 1000000 in
theorem l5Wins_any (n : Nat) (S R : ByteArray) (m : Nat) (S2 R2 : ByteArray) (va vb : Value) (la lb : List Nat) (k : Nat) (w : World) (hp : Pos n S R m S2 R2 la lb k) (hk : k ≤ 3) (hva : NumsAt w va la) (hvb : NumsAt w vb lb) :
    Calls Tryz.prog 56 #[strV n S R, va, strV m S2 R2, vb, .int .i64 (k : Int)] w (BoolB w (Gs.wins k (stOf n S R) la (stOf m S2 R2) lb)) := by
  have HP := Lib.hid hp
  have HT := Lib.hid (Two.new w n S R m S2 R2)
  have HTZ : Hid ((boxS (boxS w n S R) m S2 R2).heap.size = w.heap.size + 2) := by show _ = _; rw [boxS_size, boxS_size]
  unfold boxS at HT HTZ
  have HVA := Lib.hid hva; have HVB := Lib.hid hvb
  have hva0 : ∀ j, va.ownBlock = some j → j < w.heap.size ∨ va = .slice none 0 0 := by
    intro j hj
    rcases hva with ⟨rfl, _⟩ | ⟨g, o, cap, rfl, _, _, h1, _⟩
    · exact .inr rfl
    · obtain rfl := Option.some.inj hj; exact .inl h1
  have hvb0 : ∀ j, vb.ownBlock = some j → j < w.heap.size ∨ vb = .slice none 0 0 := by
    intro j hj
    rcases hvb with ⟨rfl, _⟩ | ⟨g, o, cap, rfl, _, _, h1, _⟩
    · exact .inr rfl
    · obtain rfl := Option.some.inj hj; exact .inl h1
  have HVA0 := Lib.hid hva0; have HVB0 := Lib.hid hvb0
  clear hp hva hvb hva0 hvb0
  unfold strV
  go_enter Tryz.func56, Tryz.ntmps56
  go_wp2_with fail
  refine (l5New_any _).mono ?_; rintro e w1 ⟨gL, gC, F, vs, rfl, ht, hb, hF⟩
  have HT1 := Lib.hid (HT.out.below hb)
  have HTB := Lib.hid ht
  have HFF := Lib.hid hF
  have HS1 := Lib.hid hb.size
  clear ht hb hF
  unfold tblV
  go_wp2_with fail
  obtain ⟨wr, hwr⟩ : ∃ wr, w1.alloc (.cells #[.slice (some ⟨gL, 0, none⟩) 997 997, .slice (some ⟨gC, 0, none⟩) 1 1] 125) = wr := ⟨_, rfl⟩
  have hbw : Below w1.heap.size w1 wr := by rw [← hwr]; exact (Below.refl _ _).alloc (Nat.le_refl _) _
  have hzw : wr.heap.size = w1.heap.size + 1 := by rw [← hwr]; simp
  have q0 : wr.cell? ⟨w1.heap.size, 0, none⟩ = some (.slice (some ⟨gL, 0, none⟩) 997 997) := by rw [← hwr]; simp
  have q1 : wr.cell? ⟨w1.heap.size, 1, none⟩ = some (.slice (some ⟨gC, 0, none⟩) 1 1) := by rw [← hwr]; simp
  rw [hwr]
  have HT2 := Lib.hid (HT1.out.below hbw)
  have HTR := Lib.hid (HTB.out.below hbw)
  have HB2 : Hid (Below w.heap.size w wr) := HT2.out.old
  have hFlo : ∀ b, F b → w.heap.size + 2 ≤ b := fun b hb => by have := HFF.out b hb; have := HTZ.out; omega
  have hFhi : ∀ b, F b → b < w1.heap.size := HTB.out.lt
  have HFLO := Lib.hid hFlo; have HFHI := Lib.hid hFhi
  obtain ⟨a0, a1, a2, _, _, _, _⟩ := HT2.out.a.cells
  obtain ⟨b0, b1, b2, _, _, _, hbl⟩ := HT2.out.b.cells
  have KS : Hid (∀ w' : World, Off F wr w' → (w'.cell? ⟨w1.heap.size, 0, none⟩ = some (.slice (some ⟨gL, 0, none⟩) 997 997) ∧ w'.cell? ⟨w1.heap.size, 1, none⟩ = some (.slice (some ⟨gC, 0, none⟩) 1 1) ∧
      w'.cell? ⟨w.heap.size, 0, none⟩ = some (.int .i64 n) ∧ w'.cell? ⟨w.heap.size, 1, none⟩ = some (.string S) ∧ w'.cell? ⟨w.heap.size, 2, none⟩ = some (.string R) ∧
      w'.cell? ⟨w.heap.size + 1, 0, none⟩ = some (.int .i64 m) ∧ w'.cell? ⟨w.heap.size + 1, 1, none⟩ = some (.string S2) ∧ w'.cell? ⟨w.heap.size + 1, 2, none⟩ = some (.string R2))) := by
    intro w' h
    have n0 : ¬ F w1.heap.size := fun e => by have := HFHI.out _ e; omega
    have n1 : ¬ F w.heap.size := fun e => by have := HFLO.out _ e; omega
    have n2 : ¬ F (w.heap.size + 1) := fun e => by have := HFLO.out _ e; omega
    have l0 : w1.heap.size < wr.heap.size := by omega
    have l1 : w.heap.size < wr.heap.size := by omega
    refine ⟨(h.cell (p := ⟨w1.heap.size, 0, none⟩) l0 n0).trans q0, (h.cell (p := ⟨w1.heap.size, 1, none⟩) l0 n0).trans q1, (h.cell (p := ⟨w.heap.size, 0, none⟩) l1 n1).trans a0, (h.cell (p := ⟨w.heap.size, 1, none⟩) l1 n1).trans a1, (h.cell (p := ⟨w.heap.size, 2, none⟩) l1 n1).trans a2, (h.cell (p := ⟨w.heap.size + 1, 0, none⟩) hbl n2).trans b0, (h.cell (p := ⟨w.heap.size + 1, 1, none⟩) hbl n2).trans b1, (h.cell (p := ⟨w.heap.size + 1, 2, none⟩) hbl n2).trans b2⟩
  have hsw := HB2.out.size
  have noF : ∀ {v : Value}, (∀ j, v.ownBlock = some j → j < w.heap.size ∨ v = .slice none 0 0) → ∀ G : Nat → Prop, (∀ b, G b → w.heap.size ≤ b) → ∀ j, v.ownBlock = some j → ¬ G j := by
    intro v h G hG j hj e
    rcases h j hj with h1 | h1
    · have := hG j e; omega
    · rw [h1] at hj; cases hj
  have hty1 : ∀ W, Below wr.heap.size wr W → Calls Tryz.prog 112 #[tblV gL gC, strV n S R, va, .int .i64 (k : Int)] W (Typed gL gC F [] (stOf n S R) k la W) := by
    intro W hW
    refine l5Type_any k (by omega) gL gC F vs [] n S R va la W ⟨HTR.out.below hW, ?_, HP.out.hS, HP.out.hR, HP.out.hn, (HVA.out.below HB2.out).below hW, noF HVA0.out F (fun b hb => by have := HFLO.out b hb; omega), HP.out.hl8, HP.out.ha⟩
    have := calls_le n k HP.out.hn hk
    simp; omega
  have hty2 : ∀ (W : World) (F2 : Nat → Prop) (vs2 : Array Value) (E : List (List UInt8)), Tbl W gL gC F2 vs2 ([] ++ E) → E.length ≤ callsN n k → Off F wr W → (∀ b, F2 b → F b ∨ wr.heap.size ≤ b) →
      Calls Tryz.prog 112 #[tblV gL gC, strV m S2 R2, vb, .int .i64 (k : Int)] W (Typed gL gC F2 ([] ++ E) (stOf m S2 R2) k lb W) := by
    intro W F2 vs2 E h1 h2 h3 h4
    refine l5Type_any k (by omega) gL gC F2 vs2 ([] ++ E) m S2 R2 vb lb W ⟨h1, ?_, HP.out.hS2, HP.out.hR2, HP.out.hm, (HVB.out.below HB2.out).off h3 (noF HVB0.out F (fun b hb => by have := HFLO.out b hb; omega)), noF HVB0.out F2 (fun b hb => by rcases h4 b hb with h5 | h5; (have := HFLO.out b h5; omega); omega), by rw [← HP.out.hl]; exact HP.out.hl8, HP.out.hb⟩
    have c1 := calls_le n k HP.out.hn hk
    have c2 := calls_le m k HP.out.hm hk
    have h5 : E.length ≤ 585 := Nat.le_trans h2 c1
    simp; omega
  unfold tblV strV at hty1 hty2
  have HTY1 := Lib.hid hty1; have HTY2 := Lib.hid hty2
  clear hty1 hty2 noF hFlo hFhi hwr hbw HT HT1 HTB HTZ
  go_region_held3 (fun w' => w'.cell? ⟨w1.heap.size, 0, none⟩ = some (.slice (some ⟨gL, 0, none⟩) 997 997) ∧ w'.cell? ⟨w1.heap.size, 1, none⟩ = some (.slice (some ⟨gC, 0, none⟩) 1 1) ∧ w'.cell? ⟨w.heap.size, 0, none⟩ = some (.int .i64 n) ∧ w'.cell? ⟨w.heap.size, 1, none⟩ = some (.string S) ∧ w'.cell? ⟨w.heap.size, 2, none⟩ = some (.string R) ∧ w'.cell? ⟨w.heap.size + 1, 0, none⟩ = some (.int .i64 m) ∧ w'.cell? ⟨w.heap.size + 1, 1, none⟩ = some (.string S2) ∧ w'.cell? ⟨w.heap.size + 1, 2, none⟩ = some (.string R2))
    (first | exact KS.out _ HOF.out | go_keep)
    (first | ((with_reducible refine (HTY1.out _ (Below.refl _ _).drew).mono ?_); rintro e w3 ⟨num, F2, vs2, E2, rfl, ht, hE, hn2, hoff, hF2⟩; have HOF := Lib.hid ((Off.of_below (F := F) (Below.refl wr.heap.size wr).drew).trans hoff (fun b hb => .inl hb)); have hF2' : ∀ b, F2 b → F b ∨ wr.heap.size ≤ b := hF2; have hE' : E2.length ≤ callsN n k := hE; have HTY3 := Lib.hid (And.intro ht (And.intro hE' (And.intro hn2 hF2'))); clear ht hE hn2 hoff hF2 hF2' hE') | ((with_reducible refine (HTY2.out _ F2 vs2 E2 HTY3.out.1 HTY3.out.2.1 HOF.out HTY3.out.2.2.2).mono ?_); rintro e w4 ⟨num2, F3, vs3, E3, rfl, ht, hE, hn2, hoff, hF3⟩; have HEQ := Lib.hid (wins_num ht.nodup HP.out.hl HTY3.out.2.2.1.more hn2); have HOF := Lib.hid (HOF.out.trans hoff HTY3.out.2.2.2); have HB4 : Hid (Below w.heap.size w w4) := HB2.out.trans (HOF.out.below hsw (fun b hb => by have := HFLO.out b hb; omega)); clear ht hE hn2 hoff hF3) | fail)
  all_goals
    go_wp2_with fail
    go_ret
    exact ⟨ret_bool HEQ.out, HB4.out⟩
end Go.Proofs.YtjepegkbbbebkaaGreatDoor
/- The reference's SecondWins and SameRank from no elements; SameWords of the program and of the reference; the law FnExactSameWords. Conditions: the structures are valid; a text's length fits an integer. -/
namespace Go.Proofs.YtjepegkbbbebkaaGreatDoor
open Go.RowKit
set_option linter.unusedVariables false

theorem specValid_b (n : Nat) (S R : ByteArray) (w : World) (h : validB n S R = true) : Calls Tryz.prog 150 #[strV n S R] w (BoolB w true) := by
  obtain ⟨h1, h2, h3, h4, _⟩ := valid_is h
  have h5 : n * n ≤ 64 := Nat.mul_le_mul h2 h2
  have hc := specValid_any n S R w (by omega) (by omega)
  rw [h] at hc
  exact hc
theorem l4List_nil (n : Nat) (S R : ByteArray) (a : Option Addr) (cap : Nat) (w : World) (h : validB n S R = true) : Calls Tryz.prog 172 #[strV n S R, .slice a 0 cap] w (BoolB w true) := by
  have HV := Lib.hid (fun w => specValid_b n S R w h)
  have HB0 : Hid (Below w.heap.size w (boxS w n S R)) := boxS_below _ _ _ _
  unfold boxS at HB0
  unfold strV at HV ⊢
  clear h
  go_enter Tryz.func172, Tryz.ntmps172
  go_wp2_with fail
  go_loop [5] (fun i => i = .int .i64 0) (fun _ => 0)
  case atStart => rfl
  case round =>
    subst hrel
    go_wp2_with fail
    refine (HV.out _).mono ?_; rintro e w1 ⟨rfl, hb⟩
    have HB1 : Hid (Below w.heap.size w w1) := HB0.out.trans (hb.mono (by simp))
    clear hb
    go_wp2_with fail
    go_ret
    exact ⟨rfl, HB1.out⟩
theorem l4Lists_nil (n : Nat) (S R : ByteArray) (m : Nat) (S2 R2 : ByteArray) (a b : Option Addr) (ca cb : Nat) (w : World) (h : validB n S R = true) (h2 : validB m S2 R2 = true) : Calls Tryz.prog 111 #[strV n S R, .slice a 0 ca, strV m S2 R2, .slice b 0 cb] w (BoolB w true) := by
  have H1 := Lib.hid (fun w => l4List_nil n S R a ca w h)
  have H2 := Lib.hid (fun w => l4List_nil m S2 R2 b cb w h2)
  have HT := Lib.hid (Two.new w n S R m S2 R2)
  unfold boxS at HT
  unfold strV at H1 H2 ⊢
  clear h h2
  obtain ⟨a0, a1, a2, _, _, _, _⟩ := HT.out.a.cells
  obtain ⟨b0, b1, b2, _, _, _, _⟩ := HT.out.b.cells
  go_enter Tryz.func111, Tryz.ntmps111
  go_wp2_with fail
  refine (H1.out _).mono ?_; rintro e w1 ⟨rfl, hb⟩
  have HT1 := Lib.hid (HT.out.below hb)
  clear hb a0 a1 a2 b0 b1 b2
  obtain ⟨a0, a1, a2, _, _, _, _⟩ := HT1.out.a.cells
  obtain ⟨b0, b1, b2, _, _, _, _⟩ := HT1.out.b.cells
  go_wp2_with fail
  refine (H2.out _).mono ?_; rintro e w2 ⟨rfl, hb⟩
  have HT2 := Lib.hid (HT1.out.below hb)
  clear hb
  go_wp2_with fail
  go_ret
  exact ⟨rfl, HT2.out.old⟩
theorem l1In_b (n lo hi : Int) (w : World) : Calls Tryz.prog 37 #[.int .i64 n, .int .i64 lo, .int .i64 hi] w (BoolB w (inB n lo hi)) :=
  (l1In_any n lo hi w).mono fun e w' ⟨h1, h2⟩ => ⟨h1, by rw [← h2]; exact Below.refl _ _⟩
theorem l5Ready_nil (n : Nat) (S R : ByteArray) (m : Nat) (S2 R2 : ByteArray) (a b : Option Addr) (ca cb : Nat) (K : Int) (w : World) (h : validB n S R = true) (h2 : validB m S2 R2 = true) : Calls Tryz.prog 55 #[strV n S R, .slice a 0 ca, strV m S2 R2, .slice b 0 cb, .int .i64 K] w (BoolB w (inB K 0 3)) := by
  have H1 := Lib.hid (fun w => l4Lists_nil n S R m S2 R2 a b ca cb w h h2)
  have HT := Lib.hid (Two.new w n S R m S2 R2)
  unfold boxS at HT
  unfold strV at H1 ⊢
  clear h h2
  obtain ⟨a0, a1, a2, _, _, _, _⟩ := HT.out.a.cells
  obtain ⟨b0, b1, b2, _, _, _, _⟩ := HT.out.b.cells
  have HI := Lib.hid (l1In_b K 0 3)
  generalize inB K 0 3 = B at *
  go_enter Tryz.func55, Tryz.ntmps55
  go_wp2_with fail
  refine (H1.out _).mono ?_; rintro e w1 ⟨rfl, hb⟩
  have HB1 := Lib.hid (HT.out.old.trans (hb.mono HT.out.old.size))
  clear hb
  go_wp2_with fail
  refine (HI.out _).mono ?_; rintro e w2 ⟨rfl, hb⟩
  have HB2 := Lib.hid (HB1.out.trans (hb.mono HB1.out.size))
  clear hb
  go_wp2_with fail
  go_ret
  exact ⟨rfl, HB2.out⟩
theorem specSecond_nil (n : Nat) (S R : ByteArray) (m : Nat) (S2 R2 : ByteArray) (va vb : Value) (K : Int) (w : World) (h : validB n S R = true) (h2 : validB m S2 R2 = true) (hva : Own 0 w va []) (hvb : Own 0 w vb []) :
    Calls Tryz.prog 18 #[strV n S R, va, strV m S2 R2, vb, .int .i64 K] w (BoolB w (inB K 0 3 && Gs.wins K.toNat (stOf n S R) [] (stOf m S2 R2) [])) := by
  obtain ⟨a1, a8, aS, aR, _⟩ := valid_is h
  obtain ⟨b1, b8, bS, bR, _⟩ := valid_is h2
  have HNA := Lib.hid hva.nums; have HNB := Lib.hid hvb.nums
  obtain ⟨ga, ca, rfl, _⟩ := hva.cells
  obtain ⟨gb, cb, rfl, _⟩ := hvb.cells
  have H1 := Lib.hid (fun w => l5Ready_nil n S R m S2 R2 (some ⟨ga, 0, none⟩) (some ⟨gb, 0, none⟩) ca cb K w h h2)
  have H2 := Lib.hid (fun (hK : inB K 0 3 = true) w' (hb : Below w.heap.size w w') => l5Wins_any n S R m S2 R2 _ _ [] [] K.toNat w' ⟨aS, aR, a8, bS, bR, b8, rfl, (by have := inB_iff.1 hK; simp; omega), by simp, by simp⟩ (by have := inB_iff.1 hK; omega) (HNA.out.below hb) (HNB.out.below hb))
  have HT := Lib.hid (Two.new w n S R m S2 R2)
  unfold boxS at HT
  unfold strV at H1 H2 ⊢
  clear h h2 aS aR bS bR hva hvb
  obtain ⟨a0, a1, a2, _, _, _, _⟩ := HT.out.a.cells
  obtain ⟨b0, b1, b2, _, _, _, _⟩ := HT.out.b.cells
  obtain ⟨B, hB⟩ : ∃ B, inB K 0 3 = B := ⟨_, rfl⟩
  rw [hB] at H1 H2 ⊢
  cases B
  · clear hB
    simp only [List.length_nil] at *
    go_enter Tryz.func18, Tryz.ntmps18
    go_wp2_with fail
    refine (H1.out _).mono ?_; rintro e w1 ⟨rfl, hb⟩
    have HB1 := Lib.hid (HT.out.old.trans (hb.mono HT.out.old.size))
    clear hb
    go_wp2_with fail
    go_ret
    exact ⟨rfl, HB1.out⟩
  · have hK := inB_iff.1 hB
    obtain ⟨k, rfl⟩ := Int.eq_ofNat_of_zero_le hK.1
    simp only [List.length_nil, Int.toNat_natCast, Bool.true_and] at *
    generalize Gs.wins k (stOf n S R) [] (stOf m S2 R2) [] = B at *
    clear hB
    go_enter Tryz.func18, Tryz.ntmps18
    go_wp2_with fail
    refine (H1.out _).mono ?_; rintro e w1 ⟨rfl, hb⟩
    have HT1 := Lib.hid (HT.out.below hb)
    clear hb a0 a1 a2 b0 b1 b2
    obtain ⟨a0, a1, a2, _, _, _, _⟩ := HT1.out.a.cells
    obtain ⟨b0, b1, b2, _, _, _, _⟩ := HT1.out.b.cells
    go_wp2_with fail
    refine (H2.out (by simp) _ HT1.out.old).mono ?_; rintro e w2 ⟨rfl, hb⟩
    have HT2 := Lib.hid (HT1.out.below hb)
    clear hb
    go_wp2_with fail
    go_ret
    exact ⟨rfl, HT2.out.old⟩
theorem wordSt_valid {s : ByteArray} (h : wordB s = true) : 1 ≤ s.size ∧ s.size ≤ 8 := by
  simp only [wordB, Bool.and_eq_true, inB_iff] at h
  omega
/-- Whether SameWords is true. -/
def sameB (v u : ByteArray) (K : Int) : Bool := wordB v && (wordB u && (inB K 0 3 && Gs.wins K.toNat (wSt v) [] (wSt u) []))

end Go.Proofs.YtjepegkbbbebkaaGreatDoor

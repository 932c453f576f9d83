/- Contracts of the program's functions and what they compute: part 39. Conditions: those that each theorem states. -/
import Derived.Test.YtofmagiahmmmgaaGreatDoorP53n4
import Derived.Test.YtofmagiahmmmgaaGreatDoorP53n38
import Derived.Test.YtofmagiahmmmgaaGreatDoorP53n8
import Derived.Test.YtofmagiahmmmgaaGreatDoorP53n17
import Derived.Test.YtofmagiahmmmgaaGreatDoorP53n30
import Derived.Laws.ResultCell
import Derived.Deep.RegionHeld3
namespace Go.Proofs.YtofmagiahmmmgaaGreatDoor
open Go.RowKit
set_option linter.unusedVariables false
/-- What l5New leaves. -/
def NewTbl (w : World) (e : Ending) (w' : World) : Prop :=
  ∃ gL gC F vs, e = .returned (tblV gL gC) ∧ Tbl w' gL gC F vs [] ∧ Below w.heap.size w w' ∧ ∀ b, F b → w.heap.size ≤ b
theorem listInfo : (Tryz.prog.info? 238).map (fun i => (i.zero, i.size, i.bytes)) = some (some (.slice none 0 0), 1, 24) := by kernel_rfl
theorem tblInfo : (Tryz.prog.info? 121).map (·.size) = some 2 := by kernel_rfl
theorem bucket_nil (k : Nat) : bucket [] k = [] := rfl
theorem tbl_new {w' : World} {gL gC : Nat} {cur : Array Value} (hs : cur.size = 997) (hc : cur.toList.take 997 = List.replicate 997 (.slice none 0 0)) (hL : w'.heap[gL]? = some (.cells cur 238 (0, 0))) (hC : w'.heap[gC]? = some (.cells #[.int .i64 0] 3 (0, 0))) (hne : gL ≠ gC) :
    Tbl w' gL gC (fun b => b = gL ∨ b = gC) cur [] := by
  have hcur : cur.toList = List.replicate 997 (.slice none 0 0) := by
    rw [← hc, List.take_of_length_le (by simp [hs])]
  have hat : ∀ k, k < 997 → cur.getD k undef = .slice none 0 0 := by
    intro k hk
    rw [Array.getD_eq_getD_getElem?, ← Array.getElem?_toList, hcur, List.getElem?_replicate, if_pos hk]
    rfl
  have lt : ∀ b o, w'.heap[b]? = some o → b < w'.heap.size := fun b o h => (Array.getElem?_eq_some_iff.1 h).1
  refine ⟨.inl rfl, .inr rfl, hne, ?_, hs, hL, ?_, ?_, hC, List.nodup_nil⟩
  · rintro b (rfl | rfl)
    · exact lt _ _ hL
    · exact lt _ _ hC
  · intro k hk
    rw [hat k hk, bucket_nil]
    exact ⟨World.ownsRow_nil _ _ _ _, fun b hb => by cases hb⟩
  · intro j k hj hk _
    rw [hat j hj]
    exact .inl rfl
theorem res_grown {w w1 : World} (hgr : (w.alloc (.cells #[.slice none 0 0, .slice none 0 0] 121)).grownBy w1 none) :
    w1.cell? ⟨w.heap.size, 0, none⟩ = some (.slice none 0 0) ∧ w1.cell? ⟨w.heap.size, 1, none⟩ = some (.slice none 0 0) ∧ w1.frozen? ⟨w.heap.size, 0, none⟩ = false ∧ w1.frozen? ⟨w.heap.size, 1, none⟩ = false ∧ w.heap.size < w1.heap.size := by
  have h := (hgr.block w.heap.size (by simp) (by simp)).trans (heap_alloc_new w _)
  have hs := hgr.size
  simp at hs
  refine ⟨?_, ?_, ?_, ?_, by omega⟩ <;> simp [World.cell?, World.frozen?, h]
theorem new_end {w w1 : World} (hgr : (w.alloc (.cells #[.slice none 0 0, .slice none 0 0] 121)).grownBy w1 none)
    (hown : w1.ownsRow w.heap.size 238 1 (.slice (some ⟨(w.alloc (.cells #[.slice none 0 0, .slice none 0 0] 121)).heap.size, 0, none⟩) 997 997) 997 (madeCells (Value.slice none 0 0).cells (997 * 1)).toList) :
    NewTbl w (.returned (tblV (w.heap.size + 1) w1.heap.size)) (((w1.setCell ⟨w.heap.size, 0, none⟩ (.slice (some ⟨w.heap.size + 1, 0, none⟩) 997 997)).setCell ⟨w.heap.size, 1, none⟩ (.slice (some ⟨w1.heap.size, 0, none⟩) 1 1)).alloc (.cells #[.int .i64 0] 3)) ∧
    (((w1.setCell ⟨w.heap.size, 0, none⟩ (.slice (some ⟨w.heap.size + 1, 0, none⟩) 997 997)).setCell ⟨w.heap.size, 1, none⟩ (.slice (some ⟨w1.heap.size, 0, none⟩) 1 1)).alloc (.cells #[.int .i64 0] 3)).heap[w.heap.size]? = some (.cells #[.slice (some ⟨w.heap.size + 1, 0, none⟩) 997 997, .slice (some ⟨w1.heap.size, 0, none⟩) 1 1] 121 (0, 0)) := by
  have h := (hgr.block w.heap.size (by simp) (by simp)).trans (heap_alloc_new w _)
  have hlt := (hown.lt _ rfl).2
  have hsz : (w.alloc (.cells #[.slice none 0 0, .slice none 0 0] 121)).heap.size = w.heap.size + 1 := by simp
  have hlt : w.heap.size + 1 < w1.heap.size := by have e : (⟨(w.alloc (.cells #[.slice none 0 0, .slice none 0 0] 121)).heap.size, 0, none⟩ : Addr).block = w.heap.size + 1 := hsz; rw [e] at hlt; exact hlt
  rw [hsz] at hown
  generalize hW : (w1.setCell ⟨w.heap.size, 0, none⟩ (.slice (some ⟨w.heap.size + 1, 0, none⟩) 997 997)).setCell ⟨w.heap.size, 1, none⟩ (.slice (some ⟨w1.heap.size, 0, none⟩) 1 1) = W
  have hWs : W.heap.size = w1.heap.size := by rw [← hW]; simp [World.setCell]
  have hWb : ∀ b, b ≠ w.heap.size → W.heap[b]? = w1.heap[b]? := fun b hb => by rw [← hW, Below.heap_setCell _ _ _ _ hb, Below.heap_setCell _ _ _ _ hb]
  have hWr : W.heap[w.heap.size]? = some (.cells #[.slice (some ⟨w.heap.size + 1, 0, none⟩) 997 997, .slice (some ⟨w1.heap.size, 0, none⟩) 1 1] 121 (0, 0)) := by
    rw [← hW]
    simp [World.setCell, Array.getElem?_modify, h]
  have hBel : Below w.heap.size w W := by
    have h1 := ((Below.refl w.heap.size w).alloc (Nat.le_refl _) (.cells #[.slice none 0 0, .slice none 0 0] 121)).grown hgr (by simp) (fun k hk => by cases hk)
    rw [← hW]
    exact (h1.setCell (Nat.le_refl _) _).setCell (Nat.le_refl _) _
  refine ⟨?_, (Below.heap_alloc _ _ _ (by omega)).trans hWr⟩
  rcases hown.2 with ⟨h1, _⟩ | ⟨g, cap, cur, hv, hb, hg, hnc, hcm, hcs, htake⟩
  · cases h1
  · injection hv with e1 e2 e3
    injection e1 with e1
    injection e1 with e4 e5
    subst e4; subst e3
    refine ⟨w.heap.size + 1, w1.heap.size, _, cur, rfl, tbl_new (by simpa using hcs) ?_ ?_ ?_ (by omega), hBel.alloc hBel.size _, ?_⟩
    · have := htake
      rw [show (Value.slice none 0 0).cells = #[.slice none 0 0] from rfl, toList_madeCells_one] at this
      exact this
    · rw [Below.heap_alloc _ _ _ (by omega), hWb _ (by omega)]
      exact hg
    · rw [← hWs]
      exact heap_alloc_new W _
    · rintro b (rfl | rfl) <;> omega
set_option maxRecDepth 100000 in
theorem l5New_any (w : World) : Calls Tryz.prog 88 #[] w (NewTbl w) := by
  obtain ⟨i, hi, hz, h1, h2⟩ := info_parts listInfo
  have HI := Lib.hid (And.intro hi (And.intro hz (And.intro h1 h2)))
  clear hi hz h1 h2
  go_enter Tryz.func88, Tryz.ntmps88
  go_wp2_with (first | (refine wpList_make_full _ rfl _ _ 119 rfl w.heap.size 238 i (.slice none 0 0) 1 Tryz.underlying119 HI.out.1 HI.out.2.1 HI.out.2.2.1 .i64 .i64 997 997 997 rfl rfl rfl rfl (by rw [HI.out.2.2.2]; decide) (by decide) (by simp) ?_; intro w1 hown hgr; have HO := Lib.hid hown; have HG := Lib.hid hgr; obtain ⟨r0, r1, f0, f1, hzz⟩ := res_grown hgr; clear hown hgr) | fail)
  obtain ⟨hn, hr⟩ := new_end HG.out HO.out
  refine bodyPost_ret (v := tblV (w.heap.size + 1) w1.heap.size) ?_ rfl hn
  exact results_cell_row rfl _ _ w.heap.size 121 #[.slice (some ⟨w.heap.size + 1, 0, none⟩) 997 997, .slice (some ⟨w1.heap.size, 0, none⟩) 1 1] (0, 0) _ rfl hr Tryz.underlying121 rfl tblInfo
end Go.Proofs.YtofmagiahmmmgaaGreatDoor
namespace Go.Proofs.YtofmagiahmmmgaaGreatDoor
open Go.RowKit
set_option linter.unusedVariables false
/-- What a call leaves that returns a truth and turns nothing that was there. -/
def BoolB (w : World) (b : Bool) (e : Ending) (w' : World) : Prop := e = .returned (.bool b) ∧ Below w.heap.size w w'
theorem wins_num {D : List (List UInt8)} (hD : D.Nodup) {a b : Gs.St} {k : Nat} {la lb : List Nat} (hl : la.length = lb.length) {n m : Nat} (h1 : Gs.TypeNum D a k la n) (h2 : Gs.TypeNum D b k lb m) : ((n : Int) == (m : Int)) = Gs.wins k a la b lb := by
  rw [Bool.eq_iff_iff, beq_iff_eq, Gs.wins_iff hl, ← Gs.typeNum_iff hD h1 h2]
  omega
theorem calls_le (n k : Nat) (hn : n ≤ 8) (hk : k ≤ 3) : callsN n k ≤ 585 := by
  have h0 : callsN n 0 = 1 := rfl
  have h1 : callsN n 1 = n * 1 + 1 := rfl
  have h2 : callsN n 2 = n * (n * 1 + 1) + 1 := rfl
  have h3 : callsN n 3 = n * (n * (n * 1 + 1) + 1) + 1 := rfl
  have a1 : n * 1 + 1 ≤ 9 := by omega
  have a2 : n * (n * 1 + 1) ≤ 8 * 9 := Nat.mul_le_mul hn a1
  have a3 : n * (n * (n * 1 + 1) + 1) ≤ 8 * 73 := Nat.mul_le_mul hn (by omega)
  rcases (show k = 0 ∨ k = 1 ∨ k = 2 ∨ k = 3 by omega) with rfl | rfl | rfl | rfl <;> omega
set_option maxRecDepth 100000 in
set_option maxHeartbeats 1000000 in
theorem l5Wins_any (n : Nat) (S R : ByteArray) (m : Nat) (S2 R2 : ByteArray) (va vb : Value) (la lb : List Nat) (k : Nat) (w : World) (hp : Pos n S R m S2 R2 la lb k) (hk : k ≤ 3) (hva : NumsAt w va la) (hvb : NumsAt w vb lb) :
    Calls Tryz.prog 44 #[strV n S R, va, strV m S2 R2, vb, .int .i64 (k : Int)] w (BoolB w (Gs.wins k (stOf n S R) la (stOf m S2 R2) lb)) := by
  have HP := Lib.hid hp
  have HT := Lib.hid (Two.new w n S R m S2 R2)
  have HTZ : Hid ((boxS (boxS w n S R) m S2 R2).heap.size = w.heap.size + 2) := by show _ = _; rw [boxS_size, boxS_size]
  unfold boxS at HT HTZ
  have HVA := Lib.hid hva; have HVB := Lib.hid hvb
  have hva0 : ∀ j, va.ownBlock = some j → j < w.heap.size ∨ va = .slice none 0 0 := by
    intro j hj
    rcases hva with ⟨rfl, _⟩ | ⟨g, o, cap, rfl, _, _, h1, _⟩
    · exact .inr rfl
    · obtain rfl := Option.some.inj hj; exact .inl h1
  have hvb0 : ∀ j, vb.ownBlock = some j → j < w.heap.size ∨ vb = .slice none 0 0 := by
    intro j hj
    rcases hvb with ⟨rfl, _⟩ | ⟨g, o, cap, rfl, _, _, h1, _⟩
    · exact .inr rfl
    · obtain rfl := Option.some.inj hj; exact .inl h1
  have HVA0 := Lib.hid hva0; have HVB0 := Lib.hid hvb0
  clear hp hva hvb hva0 hvb0
  unfold strV
  go_enter Tryz.func44, Tryz.ntmps44
  go_wp2_with fail
  refine (l5New_any _).mono ?_; rintro e w1 ⟨gL, gC, F, vs, rfl, ht, hb, hF⟩
  have HT1 := Lib.hid (HT.out.below hb)
  have HTB := Lib.hid ht
  have HFF := Lib.hid hF
  have HS1 := Lib.hid hb.size
  clear ht hb hF
  unfold tblV
  go_wp2_with fail
  obtain ⟨wr, hwr⟩ : ∃ wr, w1.alloc (.cells #[.slice (some ⟨gL, 0, none⟩) 997 997, .slice (some ⟨gC, 0, none⟩) 1 1] 121) = wr := ⟨_, rfl⟩
  have hbw : Below w1.heap.size w1 wr := by rw [← hwr]; exact (Below.refl _ _).alloc (Nat.le_refl _) _
  have hzw : wr.heap.size = w1.heap.size + 1 := by rw [← hwr]; simp
  have q0 : wr.cell? ⟨w1.heap.size, 0, none⟩ = some (.slice (some ⟨gL, 0, none⟩) 997 997) := by rw [← hwr]; simp
  have q1 : wr.cell? ⟨w1.heap.size, 1, none⟩ = some (.slice (some ⟨gC, 0, none⟩) 1 1) := by rw [← hwr]; simp
  rw [hwr]
  have HT2 := Lib.hid (HT1.out.below hbw)
  have HTR := Lib.hid (HTB.out.below hbw)
  have HB2 : Hid (Below w.heap.size w wr) := HT2.out.old
  have hFlo : ∀ b, F b → w.heap.size + 2 ≤ b := fun b hb => by have := HFF.out b hb; have := HTZ.out; omega
  have hFhi : ∀ b, F b → b < w1.heap.size := HTB.out.lt
  have HFLO := Lib.hid hFlo; have HFHI := Lib.hid hFhi
  obtain ⟨a0, a1, a2, _, _, _, _⟩ := HT2.out.a.cells
  obtain ⟨b0, b1, b2, _, _, _, hbl⟩ := HT2.out.b.cells
  have KS : Hid (∀ w' : World, Off F wr w' → (w'.cell? ⟨w1.heap.size, 0, none⟩ = some (.slice (some ⟨gL, 0, none⟩) 997 997) ∧ w'.cell? ⟨w1.heap.size, 1, none⟩ = some (.slice (some ⟨gC, 0, none⟩) 1 1) ∧
      w'.cell? ⟨w.heap.size, 0, none⟩ = some (.int .i64 n) ∧ w'.cell? ⟨w.heap.size, 1, none⟩ = some (.string S) ∧ w'.cell? ⟨w.heap.size, 2, none⟩ = some (.string R) ∧
      w'.cell? ⟨w.heap.size + 1, 0, none⟩ = some (.int .i64 m) ∧ w'.cell? ⟨w.heap.size + 1, 1, none⟩ = some (.string S2) ∧ w'.cell? ⟨w.heap.size + 1, 2, none⟩ = some (.string R2))) := by
    intro w' h
    have n0 : ¬ F w1.heap.size := fun e => by have := HFHI.out _ e; omega
    have n1 : ¬ F w.heap.size := fun e => by have := HFLO.out _ e; omega
    have n2 : ¬ F (w.heap.size + 1) := fun e => by have := HFLO.out _ e; omega
    have l0 : w1.heap.size < wr.heap.size := by omega
    have l1 : w.heap.size < wr.heap.size := by omega
    refine ⟨(h.cell (p := ⟨w1.heap.size, 0, none⟩) l0 n0).trans q0, (h.cell (p := ⟨w1.heap.size, 1, none⟩) l0 n0).trans q1, (h.cell (p := ⟨w.heap.size, 0, none⟩) l1 n1).trans a0, (h.cell (p := ⟨w.heap.size, 1, none⟩) l1 n1).trans a1, (h.cell (p := ⟨w.heap.size, 2, none⟩) l1 n1).trans a2, (h.cell (p := ⟨w.heap.size + 1, 0, none⟩) hbl n2).trans b0, (h.cell (p := ⟨w.heap.size + 1, 1, none⟩) hbl n2).trans b1, (h.cell (p := ⟨w.heap.size + 1, 2, none⟩) hbl n2).trans b2⟩
  have hsw := HB2.out.size
  have noF : ∀ {v : Value}, (∀ j, v.ownBlock = some j → j < w.heap.size ∨ v = .slice none 0 0) → ∀ G : Nat → Prop, (∀ b, G b → w.heap.size ≤ b) → ∀ j, v.ownBlock = some j → ¬ G j := by
    intro v h G hG j hj e
    rcases h j hj with h1 | h1
    · have := hG j e; omega
    · rw [h1] at hj; cases hj
  have hty1 : ∀ W, Below wr.heap.size wr W → Calls Tryz.prog 89 #[tblV gL gC, strV n S R, va, .int .i64 (k : Int)] W (Typed gL gC F [] (stOf n S R) k la W) := by
    intro W hW
    refine l5Type_any k (by omega) gL gC F vs [] n S R va la W ⟨HTR.out.below hW, ?_, HP.out.hS, HP.out.hR, HP.out.hn, (HVA.out.below HB2.out).below hW, noF HVA0.out F (fun b hb => by have := HFLO.out b hb; omega), HP.out.hl8, HP.out.ha⟩
    have := calls_le n k HP.out.hn hk
    simp; omega
  have hty2 : ∀ (W : World) (F2 : Nat → Prop) (vs2 : Array Value) (E : List (List UInt8)), Tbl W gL gC F2 vs2 ([] ++ E) → E.length ≤ callsN n k → Off F wr W → (∀ b, F2 b → F b ∨ wr.heap.size ≤ b) →
      Calls Tryz.prog 89 #[tblV gL gC, strV m S2 R2, vb, .int .i64 (k : Int)] W (Typed gL gC F2 ([] ++ E) (stOf m S2 R2) k lb W) := by
    intro W F2 vs2 E h1 h2 h3 h4
    refine l5Type_any k (by omega) gL gC F2 vs2 ([] ++ E) m S2 R2 vb lb W ⟨h1, ?_, HP.out.hS2, HP.out.hR2, HP.out.hm, (HVB.out.below HB2.out).off h3 (noF HVB0.out F (fun b hb => by have := HFLO.out b hb; omega)), noF HVB0.out F2 (fun b hb => by rcases h4 b hb with h5 | h5; (have := HFLO.out b h5; omega); omega), by rw [← HP.out.hl]; exact HP.out.hl8, HP.out.hb⟩
    have c1 := calls_le n k HP.out.hn hk
    have c2 := calls_le m k HP.out.hm hk
    have h5 : E.length ≤ 585 := Nat.le_trans h2 c1
    simp; omega
  unfold tblV strV at hty1 hty2
  have HTY1 := Lib.hid hty1; have HTY2 := Lib.hid hty2
  clear hty1 hty2 noF hFlo hFhi hwr hbw HT HT1 HTB HTZ
  go_region_held3 (fun w' => w'.cell? ⟨w1.heap.size, 0, none⟩ = some (.slice (some ⟨gL, 0, none⟩) 997 997) ∧ w'.cell? ⟨w1.heap.size, 1, none⟩ = some (.slice (some ⟨gC, 0, none⟩) 1 1) ∧ w'.cell? ⟨w.heap.size, 0, none⟩ = some (.int .i64 n) ∧ w'.cell? ⟨w.heap.size, 1, none⟩ = some (.string S) ∧ w'.cell? ⟨w.heap.size, 2, none⟩ = some (.string R) ∧ w'.cell? ⟨w.heap.size + 1, 0, none⟩ = some (.int .i64 m) ∧ w'.cell? ⟨w.heap.size + 1, 1, none⟩ = some (.string S2) ∧ w'.cell? ⟨w.heap.size + 1, 2, none⟩ = some (.string R2))
    (first | exact KS.out _ HOF.out | go_keep)
    (first | ((with_reducible refine (HTY1.out _ (Below.refl _ _).drew).mono ?_); rintro e w3 ⟨num, F2, vs2, E2, rfl, ht, hE, hn2, hoff, hF2⟩; have HOF := Lib.hid ((Off.of_below (F := F) (Below.refl wr.heap.size wr).drew).trans hoff (fun b hb => .inl hb)); have hF2' : ∀ b, F2 b → F b ∨ wr.heap.size ≤ b := hF2; have hE' : E2.length ≤ callsN n k := hE; have HTY3 := Lib.hid (And.intro ht (And.intro hE' (And.intro hn2 hF2'))); clear ht hE hn2 hoff hF2 hF2' hE') | ((with_reducible refine (HTY2.out _ F2 vs2 E2 HTY3.out.1 HTY3.out.2.1 HOF.out HTY3.out.2.2.2).mono ?_); rintro e w4 ⟨num2, F3, vs3, E3, rfl, ht, hE, hn2, hoff, hF3⟩; have HEQ := Lib.hid (wins_num ht.nodup HP.out.hl HTY3.out.2.2.1.more hn2); have HOF := Lib.hid (HOF.out.trans hoff HTY3.out.2.2.2); have HB4 : Hid (Below w.heap.size w w4) := HB2.out.trans (HOF.out.below hsw (fun b hb => by have := HFLO.out b hb; omega)); clear ht hE hn2 hoff hF3) | fail)
  all_goals
    go_wp2_with fail
    go_ret
    exact ⟨ret_bool HEQ.out, HB4.out⟩
end Go.Proofs.YtofmagiahmmmgaaGreatDoor
namespace Go.Proofs.YtofmagiahmmmgaaGreatDoor
open Go.RowKit
set_option linter.unusedVariables false
theorem l1In_b (n lo hi : Int) (w : World) : Calls Tryz.prog 87 #[.int .i64 n, .int .i64 lo, .int .i64 hi] w (BoolB w (inB n lo hi)) :=
  (l1In_any n lo hi w).mono fun e w' ⟨h1, h2⟩ => ⟨h1, by rw [← h2]; exact Below.refl _ _⟩
end Go.Proofs.YtofmagiahmmmgaaGreatDoor

namespace Go.Proofs.YtofmagiahmmmgaaGreatDoor
open Go.RowKit
set_option linter.unusedVariables false
set_option maxRecDepth 100000
def inR (n x : Int) : Bool := decide (0 ≤ x) && decide (x < n)
def okL (n : Int) (L : List Int) : Bool := L.all (inR n)
theorem okL_bad {n : Int} {L : List Int} {k : Nat} (hk : k < L.length) (h : inR n (L.getD k 0) = false) : okL n L = false := by
  unfold okL
  rw [List.all_eq_false]
  refine ⟨L[k], List.getElem_mem hk, ?_⟩
  rw [List.getD_eq_getElem?_getD, List.getElem?_eq_getElem hk] at h
  have h2 : inR n L[k] = false := h
  rw [h2]; simp
theorem okL_good {n : Int} {L : List Int} (h : ∀ j, j < L.length → inR n (L.getD j 0) = true) : okL n L = true := by
  unfold okL
  rw [List.all_eq_true]
  intro x hx
  obtain ⟨j, hj, rfl⟩ := List.mem_iff_getElem.1 hx
  have := h j hj
  rw [List.getD_eq_getElem?_getD, List.getElem?_eq_getElem hj] at this
  exact this
/-- Whether numbers are at most four elements of a valid structure. -/
def liB (n : Int) (S R : ByteArray) (L : List Int) : Bool := validB n S R && decide (L.length ≤ 4) && okL n L
def lsB (n : Int) (S R : ByteArray) (m : Int) (S2 R2 : ByteArray) (L M : List Int) : Bool := liB n S R L && liB m S2 R2 M && decide (L.length = M.length)
def gaB (n : Int) (S R : ByteArray) (m : Int) (S2 R2 : ByteArray) (L M : List Int) (K : Int) : Bool := lsB n S R m S2 R2 L M && inB K 0 3
/-- Whether the second player wins a game, if it is one. -/
def seB (n : Int) (S R : ByteArray) (m : Int) (S2 R2 : ByteArray) (L M : List Int) (K : Int) : Bool := gaB n S R m S2 R2 L M K && Gs.wins K.toNat (stOf n.toNat S R) (L.map Int.toNat) (stOf m.toNat S2 R2) (M.map Int.toNat)
/-- What a game's lists are. -/
structure GaOk (n : Int) (S R : ByteArray) (m : Int) (S2 R2 : ByteArray) (L M : List Int) (K : Int) (a b k : Nat) : Prop where
  en : n = (a : Int)
  em : m = (b : Int)
  ek : K = (k : Int)
  k3 : k ≤ 3
  va : validB a S R = true
  vb : validB b S2 R2 = true
  l4 : L.length ≤ 4
  lm : L.length = M.length
  la : ∀ x ∈ L, 0 ≤ x ∧ x < (a : Int)
  lb : ∀ x ∈ M, 0 ≤ x ∧ x < (b : Int)
theorem okL_mem {n : Int} {L : List Int} (h : okL n L = true) : ∀ x ∈ L, 0 ≤ x ∧ x < n := fun x hx => by
  have := List.all_eq_true.1 h x hx
  unfold inR at this
  rw [Bool.and_eq_true, decide_eq_true_iff, decide_eq_true_iff] at this
  exact this
theorem valid_natI {n : Int} {S R : ByteArray} (h : validB n S R = true) : ∃ m : Nat, n = (m : Int) := by
  have h0 := h
  unfold validB inB at h0
  simp at h0
  exact Int.eq_ofNat_of_zero_le (by omega)
theorem ga_ok {n : Int} {S R : ByteArray} {m : Int} {S2 R2 : ByteArray} {L M : List Int} {K : Int} (h : gaB n S R m S2 R2 L M K = true) : ∃ a b k, GaOk n S R m S2 R2 L M K a b k := by
  unfold gaB lsB liB at h
  simp only [Bool.and_eq_true, decide_eq_true_iff] at h
  obtain ⟨⟨⟨⟨⟨h1, h2⟩, h3⟩, ⟨⟨h4, h5⟩, h6⟩⟩, h7⟩, h8⟩ := h
  obtain ⟨a, rfl⟩ := valid_natI h1
  obtain ⟨b, rfl⟩ := valid_natI h4
  have h9 := inB_iff.1 h8
  obtain ⟨k, rfl⟩ := Int.eq_ofNat_of_zero_le h9.1
  exact ⟨a, b, k, rfl, rfl, rfl, by omega, h1, h4, h2, h7, okL_mem h3, okL_mem h6⟩
theorem nat_at {L : List Int} {a : Nat} (h : ∀ x ∈ L, 0 ≤ x ∧ x < (a : Int)) : ∀ j, j < (L.map Int.toNat).length → (L.map Int.toNat).getD j 0 < a := fun j hj => by
  rw [List.length_map] at hj
  have := h _ (List.getElem_mem hj)
  simp [hj]; omega
theorem nat_mem {L : List Int} {a : Nat} (h : ∀ x ∈ L, 0 ≤ x ∧ x < (a : Int)) : ∀ x ∈ L.map Int.toNat, x < a := fun x hx => by
  obtain ⟨y, hy, rfl⟩ := List.mem_map.1 hx
  have := h y hy
  omega
theorem elemI_any (n x : Int) (b : Nat) (w : World) (hc : w.cell? ⟨b, 0, none⟩ = some (.int .i64 n)) : Calls Tryz.prog 163 #[.int .i64 x, .pointer (some ⟨b, 0, none⟩)] w fun en w' => en = .returned (.bool (!inR n x)) ∧ w = w' := by
  obtain ⟨r, hr⟩ : ∃ r, (!inR n x) = r := ⟨_, rfl⟩
  rw [hr]
  have HR := Lib.hid hr
  clear hr
  by_cases h0 : x < 0
  · have HE : Hid (true = r) := by show _ = _; rw [← HR.out]; unfold inR; rw [decide_eq_false (by omega)]; rfl
    go_enter Tryz.func163, Tryz.ntmps163
    go_wp2_with fail
    go_ret
    exact ⟨ret_bool HE.out, rfl⟩
  · by_cases h1 : n ≤ x
    · have HE : Hid (true = r) := by show _ = _; rw [← HR.out]; unfold inR; rw [decide_eq_true (show 0 ≤ x by omega), decide_eq_false (show ¬ x < n by omega)]; rfl
      go_enter Tryz.func163, Tryz.ntmps163
      go_wp2_with fail
      go_ret
      exact ⟨ret_bool HE.out, rfl⟩
    · have HE : Hid (false = r) := by show _ = _; rw [← HR.out]; unfold inR; rw [decide_eq_true (show 0 ≤ x by omega), decide_eq_true (show x < n by omega)]; rfl
      go_enter Tryz.func163, Tryz.ntmps163
      go_wp2_with fail
      go_ret
      exact ⟨ret_bool HE.out, rfl⟩
theorem index_ints (n : Int) (b : Nat) (L : List Int) (v : Value) (w : World) (hv : IntsAt w v L) (hc : w.cell? ⟨b, 0, none⟩ = some (.int .i64 n)) :
    Calls Tryz.prog 234 #[v, .func (.func 163) #[] #[.pointer (some ⟨b, 0, none⟩)]] w fun en w' => (∃ z : Int, en = .returned (.int .i64 z) ∧ (0 ≤ z ↔ okL n L = false)) ∧ w = w' := by
  have HN := Lib.hid (fun x => elemI_any n x b w hc)
  obtain ⟨a, cap, rfl, l1, l2, l3⟩ := hv.view
  have HC := Lib.hid l3
  clear l3 hv hc
  unfold maxLen at l2
  go_enter Tryz.func234, Tryz.ntmps234
  go_wp2_with fail
  go_loopw [8, 5] (fun i _ wr => (∃ k : Nat, k ≤ L.length ∧ i = .int .i64 (k : Int) ∧ Hid (∀ j, j < k → inR n (L.getD j 0) = true)) ∧ wr = w) (fun i _ _ => L.length - (intOf i).toNat)
  case atStart => exact ⟨⟨0, by omega, rfl, fun j hj => by omega⟩, rfl⟩
  case round =>
    obtain ⟨⟨k, hk, rfl, HG⟩, hwr⟩ := hrel
    rw [hwr]; clear hwr
    by_cases hlt : k < L.length
    · obtain ⟨g, o, rfl, hg, hcc⟩ := HC.out (by omega)
      have d1 := hcc k hlt
      have HX := Lib.hid (HN.out (L.getD k 0))
      have hkI : (k : Int) < (L.length : Int) := by omega
      cases hb : inR n (L.getD k 0) with
      | false =>
        have HE := Lib.hid (okL_bad hlt hb)
        rw [hb] at HX
        clear hcc hb
        generalize L.getD k 0 = x at *
        go_wp2_with fail
        refine HX.out.mono ?_; rintro _ w1 ⟨rfl, hw1⟩; rw [← hw1]; clear hw1
        go_wp2_with fail
        go_ret
        exact ⟨⟨(k : Int), rfl, fun _ => HE.out, fun _ => by omega⟩, rfl⟩
      | true =>
        have HG2 : Hid (∀ j, j < k + 1 → inR n (L.getD j 0) = true) := fun j hj => by
          by_cases e : j = k
          · rw [e]; exact hb
          · exact HG.out j (by omega)
        rw [hb] at HX
        clear hcc hb
        generalize L.getD k 0 = x at *
        go_wp2_with fail
        refine HX.out.mono ?_; rintro _ w1 ⟨rfl, hw1⟩; rw [← hw1]; clear hw1
        go_wp2_with fail
        go_roundw
        case rel => exact ⟨⟨k + 1, by omega, by go_num, HG2.out⟩, trivial⟩
        case measure => simp [intOf]; omega
    · have HE : Hid (okL n L = true) := okL_good (fun j hj => HG.out j (by omega))
      go_wp2_with fail
      go_ret
      exact ⟨⟨-1, rfl, fun h => absurd h (by decide), fun h => by rw [HE.out] at h; cases h⟩, rfl⟩
theorem areElements_ints (n : Int) (S R : ByteArray) (L : List Int) (v : Value) (w : World) (hv : IntsAt w v L) : Calls Tryz.prog 99 #[strV n S R, v] w fun en w' => en = .returned (.bool (okL n L)) ∧ Below w.heap.size w w' := by
  have HB : Hid (SBlk (boxS w n S R) w.heap.size n S R ∧ Below w.heap.size w (boxS w n S R)) := ⟨boxS_SBlk _ _ _ _, boxS_below _ _ _ _⟩
  have HI := Lib.hid (index_ints n w.heap.size L v (boxS w n S R) (hv.below HB.out.2) HB.out.1.cells.1)
  obtain ⟨a, cap, rfl, l1, l2, l3⟩ := hv.view
  clear l3 hv
  unfold boxS at HI HB
  generalize okL n L = r at *
  unfold strV
  go_enter Tryz.func99, Tryz.ntmps99
  go_wp2_with fail
  go_enter Tryz.func159, Tryz.ntmps159
  go_wp2_with fail
  refine HI.out.mono ?_; rintro _ wz ⟨⟨z, rfl, hz⟩, hw⟩; rw [← hw]; clear hw
  cases r with
  | false =>
    have hz0 : 0 ≤ z := hz.2 rfl
    clear hz
    go_wp2_with fail
    go_ret
    exact ⟨ret_bool (by simp), HB.out.2⟩
  | true =>
    have hz0 : ¬ 0 ≤ z := fun h => by have := hz.1 h; cases this
    clear hz
    go_wp2_with fail
    go_ret
    exact ⟨ret_bool (by simp; omega), HB.out.2⟩
theorem isList_ints (n : Int) (S R : ByteArray) (L : List Int) (v : Value) (w : World) (hS : S.size ≤ 9223372036854775807) (hR : R.size ≤ 9223372036854775807) (hg : IntsAt w v L) : Calls Tryz.prog 59 #[strV n S R, v] w fun en w' => en = .returned (.bool (liB n S R L)) ∧ Below w.heap.size w w' := by
  have HIS := Lib.hid (fun w => isStructure_any n S R w hS hR)
  have HAE := Lib.hid (fun w' (hb : Below w.heap.size w w') => areElements_ints n S R L v w' (hg.below hb))
  obtain ⟨a, cap, rfl, _, _, _⟩ := hg.view
  have HB : Hid (SBlk (boxS w n S R) w.heap.size n S R ∧ Below w.heap.size w (boxS w n S R)) := ⟨boxS_SBlk _ _ _ _, boxS_below _ _ _ _⟩
  unfold boxS at HB
  clear hg
  unfold liB
  generalize validB n S R = r at *
  generalize okL n L = q at *
  unfold strV at HIS HAE
  unfold strV
  cases r with
  | false =>
    go_enter Tryz.func59, Tryz.ntmps59
    go_wp2_with fail
    refine (HIS.out _).mono ?_; rintro _ w1 ⟨rfl, hb1⟩
    have HB1 := Lib.hid (HB.out.2.trans (hb1.mono HB.out.2.size))
    clear hb1
    go_wp2_with fail
    go_ret
    exact ⟨ret_bool (by simp), HB1.out⟩
  | true =>
    by_cases h4 : L.length ≤ 4
    · have hlI : (L.length : Int) ≤ 4 := by omega
      go_enter Tryz.func59, Tryz.ntmps59
      go_wp2_with fail
      refine (HIS.out _).mono ?_; rintro _ w1 ⟨rfl, hb1⟩
      have HB1 : Hid (SBlk w1 w.heap.size n S R ∧ Below w.heap.size w w1) := ⟨HB.out.1.below hb1 HB.out.1.cells.2.2.2.2.2.2, HB.out.2.trans (hb1.mono HB.out.2.size)⟩
      clear hb1
      have s0 := HB1.out.1.cells.1
      have s1 := HB1.out.1.cells.2.1
      have s2 := HB1.out.1.cells.2.2.1
      go_wp2_with fail
      refine (HAE.out _ HB1.out.2).mono ?_; rintro _ w2 ⟨rfl, hb2⟩
      have HB2 := Lib.hid (HB1.out.2.trans (hb2.mono HB1.out.2.size))
      clear hb2 s0 s1 s2
      go_wp2_with fail
      go_ret
      exact ⟨ret_bool (by first | rfl | (simp; done) | (simp [h4]; done)), HB2.out⟩
    · have hlI : ¬ (L.length : Int) ≤ 4 := by omega
      go_enter Tryz.func59, Tryz.ntmps59
      go_wp2_with fail
      refine (HIS.out _).mono ?_; rintro _ w1 ⟨rfl, hb1⟩
      have HB1 := Lib.hid (HB.out.2.trans (hb1.mono HB.out.2.size))
      clear hb1
      go_wp2_with fail
      go_ret
      exact ⟨ret_bool (by first | rfl | (simp; done) | (simp [h4]; done)), HB1.out⟩
theorem areLists_ints (n : Int) (S R : ByteArray) (m : Int) (S2 R2 : ByteArray) (L M : List Int) (v u : Value) (w : World) (hS : S.size ≤ 9223372036854775807) (hR : R.size ≤ 9223372036854775807) (hS2 : S2.size ≤ 9223372036854775807) (hR2 : R2.size ≤ 9223372036854775807) (hg : IntsAt w v L) (hg2 : IntsAt w u M) :
    Calls Tryz.prog 29 #[strV n S R, v, strV m S2 R2, u] w fun en w' => en = .returned (.bool (lsB n S R m S2 R2 L M)) ∧ Below w.heap.size w w' := by
  have HT := Lib.hid (Bx2.new w n S R m S2 R2)
  unfold boxS at HT
  have HA := Lib.hid (fun w' (h : Below w.heap.size w w') => isList_ints n S R L v w' hS hR (hg.below h))
  have HB := Lib.hid (fun w' (h : Below w.heap.size w w') => isList_ints m S2 R2 M u w' hS2 hR2 (hg2.below h))
  obtain ⟨g, cap, rfl, _, _, _⟩ := hg.view
  obtain ⟨g2, cap2, rfl, _, _, _⟩ := hg2.view
  clear hg hg2
  unfold lsB
  generalize liB n S R L = r at *
  generalize liB m S2 R2 M = q at *
  unfold strV at HA HB
  obtain ⟨c0, c1, c2, f0, f1, f2, hl1⟩ := HT.out.a.cells
  unfold strV
  have hlm : ((L.length : Int) == (M.length : Int)) = decide (L.length = M.length) := by
    rw [Bool.eq_iff_iff, beq_iff_eq, decide_eq_true_iff]; omega
  cases r with
  | false =>
    go_enter Tryz.func29, Tryz.ntmps29
    go_wp2_with fail
    refine (HA.out _ HT.out.old).mono ?_; rintro e w1 ⟨rfl, hb⟩
    have HT3 := Lib.hid (HT.out.below hb); clear hb c0 c1 c2 f0 f1 f2 hl1
    go_wp2_with fail
    go_ret
    exact ⟨ret_bool (by simp), HT3.out.old⟩
  | true =>
    cases q with
    | false =>
      go_enter Tryz.func29, Tryz.ntmps29
      go_wp2_with fail
      refine (HA.out _ HT.out.old).mono ?_; rintro e w1 ⟨rfl, hb⟩
      have HT3 := Lib.hid (HT.out.below hb); clear hb c0 c1 c2 f0 f1 f2 hl1
      obtain ⟨d0, d1, d2, g0, g1, g2, hl2⟩ := HT3.out.b.cells
      go_wp2_with fail
      refine (HB.out _ HT3.out.old).mono ?_; rintro e w2 ⟨rfl, hb⟩
      have HT4 := Lib.hid (HT3.out.below hb); clear hb d0 d1 d2 g0 g1 g2 hl2
      go_wp2_with fail
      go_ret
      exact ⟨ret_bool (by simp), HT4.out.old⟩
    | true =>
      go_enter Tryz.func29, Tryz.ntmps29
      go_wp2_with fail
      refine (HA.out _ HT.out.old).mono ?_; rintro e w1 ⟨rfl, hb⟩
      have HT3 := Lib.hid (HT.out.below hb); clear hb c0 c1 c2 f0 f1 f2 hl1
      obtain ⟨d0, d1, d2, g0, g1, g2, hl2⟩ := HT3.out.b.cells
      go_wp2_with fail
      refine (HB.out _ HT3.out.old).mono ?_; rintro e w2 ⟨rfl, hb⟩
      have HT4 := Lib.hid (HT3.out.below hb); clear hb d0 d1 d2 g0 g1 g2 hl2
      go_wp2_with fail
      go_ret
      exact ⟨ret_bool (by simp), HT4.out.old⟩
theorem isGame_ints (n : Int) (S R : ByteArray) (m : Int) (S2 R2 : ByteArray) (L M : List Int) (v u : Value) (K : Int) (w : World) (hS : S.size ≤ 9223372036854775807) (hR : R.size ≤ 9223372036854775807) (hS2 : S2.size ≤ 9223372036854775807) (hR2 : R2.size ≤ 9223372036854775807) (hg : IntsAt w v L) (hg2 : IntsAt w u M) :
    Calls Tryz.prog 42 #[strV n S R, v, strV m S2 R2, u, .int .i64 K] w fun en w' => en = .returned (.bool (gaB n S R m S2 R2 L M K)) ∧ Below w.heap.size w w' := by
  have HT := Lib.hid (Bx2.new w n S R m S2 R2)
  unfold boxS at HT
  have HA := Lib.hid (fun w' (h : Below w.heap.size w w') => areLists_ints n S R m S2 R2 L M v u w' hS hR hS2 hR2 (hg.below h) (hg2.below h))
  obtain ⟨g, cap, rfl, _, _, _⟩ := hg.view
  obtain ⟨g2, cap2, rfl, _, _, _⟩ := hg2.view
  clear hg hg2
  unfold gaB
  generalize lsB n S R m S2 R2 L M = r at *
  unfold strV at HA
  obtain ⟨c0, c1, c2, f0, f1, f2, hl1⟩ := HT.out.a.cells
  obtain ⟨d0, d1, d2, g0, g1, g2, hl2⟩ := HT.out.b.cells
  unfold strV
  obtain ⟨q, hq⟩ : ∃ q, inB K 0 3 = q := ⟨_, rfl⟩
  have HQ := Lib.hid hq
  rw [hq]
  clear hq
  cases r with
  | false =>
    go_enter Tryz.func42, Tryz.ntmps42
    go_wp2_with fail
    refine (HA.out _ HT.out.old).mono ?_; rintro e w1 ⟨rfl, hb⟩
    have HT3 := Lib.hid (HT.out.below hb); clear hb c0 c1 c2 f0 f1 f2 hl1 d0 d1 d2 g0 g1 g2 hl2
    go_wp2_with fail
    go_ret
    exact ⟨ret_bool (by simp), HT3.out.old⟩
  | true =>
    by_cases h0 : 0 ≤ K
    · by_cases h3 : K ≤ 3
      · have HE : Hid (q = true) := by show _ = _; rw [← HQ.out]; exact inB_iff.2 ⟨h0, h3⟩
        go_enter Tryz.func42, Tryz.ntmps42
        go_wp2_with fail
        refine (HA.out _ HT.out.old).mono ?_; rintro e w1 ⟨rfl, hb⟩
        have HT3 := Lib.hid (HT.out.below hb); clear hb c0 c1 c2 f0 f1 f2 hl1 d0 d1 d2 g0 g1 g2 hl2
        go_wp2_with fail
        go_ret
        exact ⟨ret_bool (by first | (rw [HE.out]; done) | (rw [HE.out]; simp; done) | (rw [HE.out]; simp [h3]; done) | (rw [HE.out]; simp [h0, h3]; done)), HT3.out.old⟩
      · have HE : Hid (q = false) := by show _ = _; rw [← HQ.out, Bool.eq_false_iff]; intro h; exact h3 (inB_iff.1 h).2
        go_enter Tryz.func42, Tryz.ntmps42
        go_wp2_with fail
        refine (HA.out _ HT.out.old).mono ?_; rintro e w1 ⟨rfl, hb⟩
        have HT3 := Lib.hid (HT.out.below hb); clear hb c0 c1 c2 f0 f1 f2 hl1 d0 d1 d2 g0 g1 g2 hl2
        go_wp2_with fail
        go_ret
        exact ⟨ret_bool (by first | (rw [HE.out]; done) | (rw [HE.out]; simp; done) | (rw [HE.out]; simp [h3]; done) | (rw [HE.out]; simp [h0, h3]; done)), HT3.out.old⟩
    · have HE : Hid (q = false) := by show _ = _; rw [← HQ.out, Bool.eq_false_iff]; intro h; exact h0 (inB_iff.1 h).1
      go_enter Tryz.func42, Tryz.ntmps42
      go_wp2_with fail
      refine (HA.out _ HT.out.old).mono ?_; rintro e w1 ⟨rfl, hb⟩
      have HT3 := Lib.hid (HT.out.below hb); clear hb c0 c1 c2 f0 f1 f2 hl1 d0 d1 d2 g0 g1 g2 hl2
      go_wp2_with fail
      go_ret
      exact ⟨ret_bool (by first | (rw [HE.out]; done) | (rw [HE.out]; simp; done) | (rw [HE.out]; simp [h0]; done)), HT3.out.old⟩
theorem implSecond_ints (n : Int) (S R : ByteArray) (m : Int) (S2 R2 : ByteArray) (L M : List Int) (v u : Value) (K : Int) (w : World) (hS : S.size ≤ 9223372036854775807) (hR : R.size ≤ 9223372036854775807) (hS2 : S2.size ≤ 9223372036854775807) (hR2 : R2.size ≤ 9223372036854775807) (hg : IntsAt w v L) (hg2 : IntsAt w u M) :
    Calls Tryz.prog 21 #[strV n S R, v, strV m S2 R2, u, .int .i64 K] w fun en w' => en = .returned (.bool (seB n S R m S2 R2 L M K)) ∧ Below w.heap.size w w' := by
  unfold seB
  cases hga : gaB n S R m S2 R2 L M K with
  | true =>
    obtain ⟨a, b, k, o⟩ := ga_ok hga
    obtain rfl := o.en
    obtain rfl := o.em
    obtain rfl := o.ek
    rw [Bool.true_and]
    simp only [Int.toNat_natCast]
    exact SecondWins_all a S R b S2 R2 (L.map Int.toNat) (M.map Int.toNat) v u k w o.k3 o.va o.vb (by rw [List.length_map]; exact o.l4) (by rw [List.length_map, List.length_map]; exact o.lm) (nat_at o.la) (nat_at o.lb) (hg.nums (fun x hx => (o.la x hx).1)) (hg2.nums (fun x hx => (o.lb x hx).1))
  | false =>
    rw [Bool.false_and]
    have HT := Lib.hid (Bx2.new w n S R m S2 R2)
    unfold boxS at HT
    have HA := Lib.hid (fun w' (h : Below w.heap.size w w') => isGame_ints n S R m S2 R2 L M v u K w' hS hR hS2 hR2 (hg.below h) (hg2.below h))
    rw [hga] at HA
    obtain ⟨g, cap, rfl, _, _, _⟩ := hg.view
    obtain ⟨g2, cap2, rfl, _, _, _⟩ := hg2.view
    clear hg hg2 hga
    unfold strV at HA
    obtain ⟨c0, c1, c2, f0, f1, f2, hl1⟩ := HT.out.a.cells
    obtain ⟨d0, d1, d2, g0, g1, g2, hl2⟩ := HT.out.b.cells
    unfold strV
    go_enter Tryz.func21, Tryz.ntmps21
    go_wp2_with fail
    refine (HA.out _ HT.out.old).mono ?_; rintro e w1 ⟨rfl, hb⟩
    have HT3 := Lib.hid (HT.out.below hb); clear hb c0 c1 c2 f0 f1 f2 hl1 d0 d1 d2 g0 g1 g2 hl2
    go_wp2_with fail
    go_ret
    exact ⟨rfl, HT3.out.old⟩
end Go.Proofs.YtofmagiahmmmgaaGreatDoor

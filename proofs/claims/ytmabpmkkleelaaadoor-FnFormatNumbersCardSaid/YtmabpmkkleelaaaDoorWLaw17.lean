/- The walk of the law FnFormatNumbers: it returns true. Conditions: the bytes are readable; the table of powers of ten holds what it does. -/
import Derived.Test.YtmabpmkkleelaaaDoorFmtDraw
namespace Go.Proofs.YtmabpmkkleelaaaDoor
open Go.RowKit
set_option linter.unusedVariables false
set_option maxRecDepth 100000

/-- How many blanks there are among the first bytes. -/
def blk (l : List UInt8) (i : Nat) : Nat := ((l.take i).filter (fun b => b == 32)).length
theorem blk_zero (l : List UInt8) : blk l 0 = 0 := rfl
theorem blk_succ (l : List UInt8) (i : Nat) (h : i < l.length) : blk l (i + 1) = blk l i + (if l[i] == 32 then 1 else 0) := by
  unfold blk
  rw [List.take_succ_eq_append_getElem h, List.filter_append, List.length_append]
  cases hb : (l[i] == 32)
  · simp [hb]
  · simp [hb]
theorem blk_le (l : List UInt8) (i : Nat) : blk l i ≤ i := by
  unfold blk
  exact Nat.le_trans (List.length_filter_le _ _) (by rw [List.length_take]; omega)
theorem dec_no (u : Nat) : (Lib.decDigits u).filter (fun b => b == 32) = [] := by
  induction u using Nat.strongRecOn with
  | _ u ih =>
    rw [Lib.decDigits]
    split
    · rename_i h
      rcases (by omega : u = 0 ∨ u = 1 ∨ u = 2 ∨ u = 3 ∨ u = 4 ∨ u = 5 ∨ u = 6 ∨ u = 7 ∨ u = 8 ∨ u = 9) with rfl | rfl | rfl | rfl | rfl | rfl | rfl | rfl | rfl | rfl <;> rfl
    · rename_i h
      rw [List.filter_append, ih (u / 10) (by omega), List.nil_append]
      obtain ⟨r, hr⟩ : ∃ r, u % 10 = r := ⟨_, rfl⟩
      rw [hr]
      rcases (by omega : r = 0 ∨ r = 1 ∨ r = 2 ∨ r = 3 ∨ r = 4 ∨ r = 5 ∨ r = 6 ∨ r = 7 ∨ r = 8 ∨ r = 9) with rfl | rfl | rfl | rfl | rfl | rfl | rfl | rfl | rfl | rfl <;> rfl
theorem itoa_no (n : Int) : (Lib.itoa n).filter (fun b => b == 32) = [] := by
  unfold Lib.itoa
  split
  · rw [List.filter_cons_of_neg (by decide)]; exact dec_no _
  · exact dec_no _
theorem tail_blk (zs : List Int) : ((Lib.joinTail [32] (zs.map Lib.itoa)).filter (fun b => b == 32)).length = zs.length := by
  induction zs with
  | nil => rfl
  | cons z r ih =>
    have e : Lib.joinTail [32] ((z :: r).map Lib.itoa) = 32 :: (Lib.itoa z ++ Lib.joinTail [32] (r.map Lib.itoa)) := by
      unfold Lib.joinTail; simp
    rw [e, List.filter_cons_of_pos (by decide), List.filter_append, itoa_no, List.nil_append, List.length_cons, ih, List.length_cons]
theorem fmtB_data (zs : List Int) : (fmtB zs).data.toList = Lib.join (zs.map Lib.itoa) [32] := by unfold fmtB; simp
theorem fmtB_blk (z : Int) (r : List Int) : blk (fmtB (z :: r)).data.toList (fmtB (z :: r)).size = r.length := by
  have hs : (fmtB (z :: r)).size = (fmtB (z :: r)).data.toList.length := rfl
  unfold blk
  rw [hs, List.take_length, fmtB_data, List.map_cons, Lib.join_cons, List.filter_append, itoa_no, List.nil_append, tail_blk]
theorem fmtB_ends (z y : Int) (r : List Int) : (fmtB (z :: y :: r)).extract ((fmtB (z :: y :: r)).size - (fmtB (y :: r)).size) (fmtB (z :: y :: r)).size = fmtB (y :: r) ∧ (fmtB (y :: r)).size ≤ (fmtB (z :: y :: r)).size := by
  have e : fmtB (z :: y :: r) = itoS z ++ ⟨#[32]⟩ ++ fmtB (y :: r) := by
    apply ByteArray.ext
    rw [ByteArray.data_append, ByteArray.data_append]
    show (Lib.join ((z :: y :: r).map Lib.itoa) [32]).toArray = (Lib.itoa z).toArray ++ #[32] ++ (Lib.join ((y :: r).map Lib.itoa) [32]).toArray
    rw [List.map_cons, List.map_cons, Lib.join_cons, Lib.join_cons]
    simp [Lib.joinTail]
  rw [e, ByteArray.size_append]
  refine ⟨?_, by omega⟩
  rw [Nat.add_sub_cancel]
  apply ByteArray.ext
  rw [ByteArray.data_extract, ByteArray.data_append]
  have h1 : (itoS z ++ ⟨#[32]⟩).size = (itoS z ++ ⟨#[32]⟩ : ByteArray).data.size := rfl
  have h2 : (fmtB (y :: r)).size = (fmtB (y :: r)).data.size := rfl
  rw [h1, h2]
  have ha : ∀ (a b : Array UInt8), (a ++ b).extract a.size (a.size + b.size) = b := by
    intro a b
    rw [Array.extract_append]
    simp
  exact ha _ _
theorem Nums.view {B : Nat} {w : World} {v : Value} {L : List Int} (h : Nums B w v L) (hl : L.length ≤ 4) :
    ∃ g cap, v = .slice (some ⟨g, 0, none⟩) L.length cap ∧ L.length ≤ cap ∧ cap ≤ maxLen ∧ g < w.heap.size ∧ ∀ j (hj : j < L.length), w.cell? ⟨g, j, none⟩ = some (.int .i64 L[j]) := by
  obtain ⟨g, cap, h1, _, h3, h4, h5, h6⟩ := h.cells
  exact ⟨g, cap, h1, h4, h5, h3, h6⟩
theorem rowLen17 {k : IntKind} {w : World} {a : Option Addr} {len cap : Nat} {zs : List Int} (h : IsRow k w a len cap zs) : len ≤ maxLen := by
  rcases h with ⟨_, h, _⟩ | ⟨_, _, h1, h2, _⟩
  · rw [h]; decide
  · omega
set_option maxHeartbeats 4000000 in
theorem fnFormatNumbers_walk (a0 : Option Addr) (len0 cap0 : Nat) (z0 : List Int) (w : World) (w0 : IsRow .u8 w a0 len0 cap0 z0) (ht : Tab w) :
    Calls Tryd.prog 6 #[.slice a0 len0 cap0] w fun e w' => e = .returned (.bool true) ∧ Below w.heap.size w w' := by
  have m0 := rowLen17 w0
  unfold maxLen at m0
  have W0 := Lib.hid w0; clear w0
  have HT := Lib.hid ht; clear ht
  by_cases l0 : (len0 : Int) ≤ 1048576
  · go_enter Tryd.func6, Tryd.ntmps6
    go_wp2_with fail
    refine (DrawFormatNumbers_any _ _ _ _ _ W0.out).mono ?_; rintro e w1 ⟨ys, v, rfl, hy4, hsix, hn, hb⟩
    have HB1 := Lib.hid hb; clear hb
    have HF := Lib.hid hsix.fits
    obtain ⟨g, cap, rfl, c1, c2, c3, hc⟩ := hn.view hy4
    have HC := Lib.hid hc
    have hmx : maxLen = 9223372036854775807 := rfl
    clear hn hsix hc
    have HI : Hid (∀ w', Below w1.heap.size w1 w' → Calls Tryd.prog 37 #[.slice (some ⟨g, 0, none⟩) ys.length cap] w' fun e w'' => e = .returned (.string (fmtRes ys)) ∧ Below w'.heap.size w' w'') := fun w' hb => by
      unfold fmtRes
      by_cases h0 : ys.length = 0
      · rw [if_pos h0, h0]; exact implFmt_zero _ _ _
      · rw [if_neg h0]
        exact implFmt_any g 0 cap ys w' h0 (by omega) HF.out (HT.out.below (HB1.out.trans (hb.mono HB1.out.size)) (Nat.le_refl _)) c1 c2 (Nat.lt_of_lt_of_le c3 hb.size) (fun j hj => by
          rw [Nat.zero_add]; exact (hb.cell (p := ⟨g, j, none⟩) c3).trans (HC.out j hj))
    have HSP : Hid (∀ w', Below w1.heap.size w1 w' → Calls Tryd.prog 38 #[.slice (some ⟨g, 0, none⟩) ys.length cap] w' fun e w'' => e = .returned (.string (fmtRes ys)) ∧ Below w'.heap.size w' w'') := fun w' hb => by
      unfold fmtRes
      by_cases h0 : ys.length = 0
      · rw [if_pos h0, h0]; exact specFmt_zero _ _ _
      · rw [if_neg h0]
        exact specFmt_any g 0 cap ys w' h0 (by omega) HF.out c1 c2 (Nat.lt_of_lt_of_le c3 hb.size) (fun j hj => by
          rw [Nat.zero_add]; exact (hb.cell (p := ⟨g, j, none⟩) c3).trans (HC.out j hj))
    have HR : Hid (∀ z r, ys = z :: r → ∀ w', Below w1.heap.size w1 w' → Calls Tryd.prog 37 #[.slice (some ⟨g, 1, none⟩) r.length (cap - 1)] w' fun e w'' => e = .returned (.string (fmtRes r)) ∧ Below w'.heap.size w' w'') := fun z r hzr w' hb => by
      subst hzr
      unfold fmtRes
      by_cases h0 : r.length = 0
      · rw [if_pos h0, h0]; exact implFmt_zero _ _ _
      · rw [if_neg h0]
        have c1' : r.length + 1 ≤ cap := c1
        have hl4 : r.length + 1 ≤ 4 := hy4
        exact implFmt_any g 1 (cap - 1) r w' h0 (by omega) (fun z hz => HF.out z (List.mem_cons_of_mem _ hz)) (HT.out.below (HB1.out.trans (hb.mono HB1.out.size)) (Nat.le_refl _)) (by omega) (by omega) (Nat.lt_of_lt_of_le c3 hb.size) (fun j hj => by
          have := HC.out (j + 1) (by simp; exact hj)
          rw [Nat.add_comm 1 j]
          exact (hb.cell (p := ⟨g, j + 1, none⟩) c3).trans this)
    obtain ⟨F, hF⟩ : ∃ F, fmtRes ys = F := ⟨_, rfl⟩
    have hFz : F.size ≤ 100 := by
      rw [← hF]; unfold fmtRes
      split
      · decide
      · have := fmtB_size ys HF.out; omega
    rw [hF] at HI HSP
    have HFF := Lib.hid hF
    have HFL : Hid (F.data.toList.length = F.size) := rfl
    clear hF HC
    go_wp2_with fail
    refine (HI.out _ (Below.refl _ _)).mono ?_; rintro e w2 ⟨rfl, hb⟩
    have HW2 := Lib.hid hb
    go_wp2_with fail
    refine (HSP.out _ HW2.out).mono ?_; rintro e w3 ⟨rfl, hb⟩
    have HW3 := Lib.hid (HW2.out.trans (hb.mono HW2.out.size)); clear hb HI HSP HW2
    go_wp2_with fail
    go_loop [5, 6] (fun p q => ∃ i : Nat, i ≤ F.size ∧ q = .int .i64 (i : Int) ∧ p = .int .i64 ((blk F.data.toList i : Nat) : Int)) (fun _ q => F.size - (intOf q).toNat)
    case atStart => exact ⟨0, by omega, rfl, rfl⟩
    case round =>
      obtain ⟨i, hi, rfl, rfl⟩ := hrel
      by_cases hlt : i < F.size
      · have hltI : (i : Int) < (F.size : Int) := by omega
        have hltI2 : ¬ ((F.size : Int) ≤ (i : Int)) := by omega
        have HBS := Lib.hid (blk_succ F.data.toList i (by rw [HFL.out]; exact hlt))
        have HBE := blk_le F.data.toList i
        have HX : Hid (F.data.toList[i]'(by rw [HFL.out]; exact hlt) = F[i]) := rfl
        rw [HX.out] at HBS
        obtain ⟨ch, hch⟩ : ∃ c, F[i] = c := ⟨_, rfl⟩
        rw [hch] at HBS
        clear HX
        generalize blk F.data.toList i = bi at *
        by_cases hc32 : ch = 32
        · subst hc32
          have HB2 : Hid (blk F.data.toList (i + 1) = bi + 1) := HBS.out
          clear HBS
          go_wp2_with fail
          go_round
          case rel => exact ⟨i + 1, by omega, by go_num, by rw [HB2.out]; go_num⟩
          case measure => simp [intOf]; omega
        · have hcn : ¬ ((ch.toNat : Nat) : Int) = 32 := by
            intro h
            apply hc32
            apply UInt8.toNat_inj.1
            show ch.toNat = 32
            omega
          have HB2 : Hid (blk F.data.toList (i + 1) = bi) := by
            show _ = _
            rw [HBS.out, if_neg (by rw [beq_iff_eq]; exact hc32)]; rfl
          clear HBS
          go_wp2_with fail
          go_round
          case rel => exact ⟨i + 1, by omega, by go_num, by rw [HB2.out]⟩
          case measure => simp [intOf]; omega
      · have hltI : ¬ (i : Int) < (F.size : Int) := by omega
        obtain rfl : i = F.size := by omega
        match ys, hy4, HF, c1, HR, HFF with
        | [], _, _, _, _, HFF =>
          have hFe : F = ⟨#[45]⟩ := HFF.out.symm
          clear HFL
          subst hFe
          go_wp2_with fail
          go_ret
          exact ⟨rfl, HB1.out.trans (HW3.out.mono HB1.out.size)⟩
        | [z], _, HF, c1, HR, HFF =>
          have HRR := Lib.hid (HR.out z [] rfl _ HW3.out)
          have HE : Hid (fmtRes [] = ⟨#[45]⟩) := rfl
          rw [HE.out] at HRR
          have hbk : blk F.data.toList F.size = 0 := by rw [← HFF.out]; exact fmtB_blk z []
          clear HE HFF HFL
          generalize blk F.data.toList F.size = bk at *
          subst hbk
          go_wp2_with fail
          all_goals (refine (implFmt_zero _ _ _).mono ?_; rintro e w4 ⟨rfl, hb⟩; have HB4 := Lib.hid (HB1.out.trans ((HW3.out.trans (hb.mono HW3.out.size)).mono HB1.out.size)); clear hb)
          all_goals go_wp2_with fail
          all_goals go_ret
          all_goals exact ⟨ret_bool (by simp), HB4.out⟩
        | z :: y :: r, hy4, HF, c1, HR, HFF => 
          have HRR := Lib.hid (HR.out z (y :: r) rfl _ HW3.out)
          have hbk : blk F.data.toList F.size = (y :: r).length := by rw [← HFF.out]; exact fmtB_blk z (y :: r)
          obtain ⟨hx1, hx2⟩ := fmtB_ends z y r
          have he : fmtRes (z :: y :: r) = fmtB (z :: y :: r) := rfl
          have he2 : fmtRes (y :: r) = fmtB (y :: r) := rfl
          rw [he] at HFF
          rw [HFF.out] at hx1 hx2
          rw [he2] at HRR
          generalize fmtB (y :: r) = G at *
          obtain ⟨n, hn⟩ : ∃ n, r.length = n := ⟨_, rfl⟩
          rw [List.length_cons, hn] at hbk HRR
          rw [List.length_cons, List.length_cons, hn] at hy4 c1 ⊢
          clear HFL HFF HF HR he he2
          generalize blk F.data.toList F.size = bk at *
          subst hbk
          have hsb : ((F.size : Int) - (G.size : Int)).toNat = F.size - G.size := by omega
          have hsb0 : (0 : Int) ≤ (F.size : Int) - (G.size : Int) := by omega
          have hsb1 : (F.size : Int) - (G.size : Int) ≤ (F.size : Int) := by omega
          have HX1 := Lib.hid hx1
          have hnb : ¬ ((n : Int) + 1 + 1 = 1) := by omega
          have hnb1 : (1 : Int) < (n : Int) + 1 + 1 := by omega
          clear hx1
          go_wp2_with fail
          refine HRR.out.mono ?_; rintro e w4 ⟨rfl, hb⟩
          have HB4 := Lib.hid (HB1.out.trans ((HW3.out.trans (hb.mono HW3.out.size)).mono HB1.out.size)); clear hb
          have hx1 := HX1.out
          go_wp2_with fail
          go_ret
          exact ⟨rfl, HB4.out⟩
  · go_enter Tryd.func6, Tryd.ntmps6
    go_wp2_with fail
    go_ret
    exact ⟨rfl, Below.refl _ _⟩
end Go.Proofs.YtmabpmkkleelaaaDoor

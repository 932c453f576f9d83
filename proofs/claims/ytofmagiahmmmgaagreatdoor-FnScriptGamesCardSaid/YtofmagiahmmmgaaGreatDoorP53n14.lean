/- Contracts of the program's functions and what they compute: part 14. Conditions: those that each theorem states. -/
import Derived.Test.YtofmagiahmmmgaaGreatDoorP53n4
import Derived.Test.YtofmagiahmmmgaaGreatDoorP53n10
import Derived.Test.YtofmagiahmmmgaaGreatDoorP53n1
import Derived.StillTail
import Derived.Deep.Quiet
namespace Go.Proofs.YtofmagiahmmmgaaGreatDoor
open Go.RowKit
set_option linter.unusedVariables false
set_option maxRecDepth 100000
def pebR (n x : Int) : Bool := decide (-1 ≤ x) && decide (x < n)
def pebA (n : Int) (L : List Int) : Bool := L.all (pebR n)
def pebsB (n : Int) (L : List Int) : Bool := decide (1 ≤ L.length) && decide (L.length ≤ 3) && pebA n L
theorem pebA_bad {n : Int} {L : List Int} {k : Nat} (hk : k < L.length) (h : pebR n (L.getD k 0) = false) : pebA n L = false := by
  unfold pebA
  rw [List.all_eq_false]
  refine ⟨L[k], List.getElem_mem hk, ?_⟩
  rw [List.getD_eq_getElem?_getD, List.getElem?_eq_getElem hk] at h
  have h2 : pebR n L[k] = false := h
  rw [h2]; simp
theorem pebA_good {n : Int} {L : List Int} (h : ∀ j, j < L.length → pebR n (L.getD j 0) = true) : pebA n L = true := by
  unfold pebA
  rw [List.all_eq_true]
  intro x hx
  obtain ⟨j, hj, rfl⟩ := List.mem_iff_getElem.1 hx
  have := h j hj
  rw [List.getD_eq_getElem?_getD, List.getElem?_eq_getElem hj] at this
  exact this
theorem pebI_any (n x : Int) (b : Nat) (w : World) (hc : w.cell? ⟨b, 0, none⟩ = some (.int .i64 n)) : Calls Tryz.prog 160 #[.int .i64 x, .pointer (some ⟨b, 0, none⟩)] w fun en w' => en = .returned (.bool (!pebR n x)) ∧ w = w' := by
  obtain ⟨r, hr⟩ : ∃ r, (!pebR n x) = r := ⟨_, rfl⟩
  rw [hr]
  have HR := Lib.hid hr
  clear hr
  by_cases h0 : x < -1
  · have HE : Hid (true = r) := by show _ = _; rw [← HR.out]; unfold pebR; rw [decide_eq_false (by omega)]; rfl
    go_enter Tryz.func160, Tryz.ntmps160
    go_wp2_with fail
    go_ret
    exact ⟨ret_bool HE.out, rfl⟩
  · by_cases h1 : n ≤ x
    · have HE : Hid (true = r) := by show _ = _; rw [← HR.out]; unfold pebR; rw [decide_eq_true (show -1 ≤ x by omega), decide_eq_false (show ¬ x < n by omega)]; rfl
      go_enter Tryz.func160, Tryz.ntmps160
      go_wp2_with fail
      go_ret
      exact ⟨ret_bool HE.out, rfl⟩
    · have HE : Hid (false = r) := by show _ = _; rw [← HR.out]; unfold pebR; rw [decide_eq_true (show -1 ≤ x by omega), decide_eq_true (show x < n by omega)]; rfl
      go_enter Tryz.func160, Tryz.ntmps160
      go_wp2_with fail
      go_ret
      exact ⟨ret_bool HE.out, rfl⟩
theorem index_pebs (n : Int) (b : Nat) (L : List Int) (v : Value) (w : World) (hv : IntsAt w v L) (hc : w.cell? ⟨b, 0, none⟩ = some (.int .i64 n)) :
    Calls Tryz.prog 234 #[v, .func (.func 160) #[] #[.pointer (some ⟨b, 0, none⟩)]] w fun en w' => (∃ z : Int, en = .returned (.int .i64 z) ∧ (0 ≤ z ↔ pebA n L = false)) ∧ w = w' := by
  have HN := Lib.hid (fun x => pebI_any n x b w hc)
  obtain ⟨a, cap, rfl, l1, l2, l3⟩ := hv.view
  have HC := Lib.hid l3
  clear l3 hv hc
  unfold maxLen at l2
  go_enter Tryz.func234, Tryz.ntmps234
  go_wp2_with fail
  go_loopw [8, 5] (fun i _ wr => (∃ k : Nat, k ≤ L.length ∧ i = .int .i64 (k : Int) ∧ Hid (∀ j, j < k → pebR n (L.getD j 0) = true)) ∧ wr = w) (fun i _ _ => L.length - (intOf i).toNat)
  case atStart => exact ⟨⟨0, by omega, rfl, fun j hj => by omega⟩, rfl⟩
  case round =>
    obtain ⟨⟨k, hk, rfl, HG⟩, hwr⟩ := hrel
    rw [hwr]; clear hwr
    by_cases hlt : k < L.length
    · obtain ⟨g, o, rfl, hg, hcc⟩ := HC.out (by omega)
      have d1 := hcc k hlt
      have HX := Lib.hid (HN.out (L.getD k 0))
      have hkI : (k : Int) < (L.length : Int) := by omega
      cases hb : pebR n (L.getD k 0) with
      | false =>
        have HE := Lib.hid (pebA_bad hlt hb)
        rw [hb] at HX
        clear hcc hb
        generalize L.getD k 0 = x at *
        go_wp2_with fail
        refine HX.out.mono ?_; rintro _ w1 ⟨rfl, hw1⟩; rw [← hw1]; clear hw1
        go_wp2_with fail
        go_ret
        exact ⟨⟨(k : Int), rfl, fun _ => HE.out, fun _ => by omega⟩, rfl⟩
      | true =>
        have HG2 : Hid (∀ j, j < k + 1 → pebR n (L.getD j 0) = true) := fun j hj => by
          by_cases e : j = k
          · rw [e]; exact hb
          · exact HG.out j (by omega)
        rw [hb] at HX
        clear hcc hb
        generalize L.getD k 0 = x at *
        go_wp2_with fail
        refine HX.out.mono ?_; rintro _ w1 ⟨rfl, hw1⟩; rw [← hw1]; clear hw1
        go_wp2_with fail
        go_roundw
        case rel => exact ⟨⟨k + 1, by omega, by go_num, HG2.out⟩, trivial⟩
        case measure => simp [intOf]; omega
    · have HE : Hid (pebA n L = true) := pebA_good (fun j hj => HG.out j (by omega))
      go_wp2_with fail
      go_ret
      exact ⟨⟨-1, rfl, fun h => absurd h (by decide), fun h => by rw [HE.out] at h; cases h⟩, rfl⟩
theorem containsPebs_any (n : Int) (b : Nat) (L : List Int) (v : Value) (w : World) (hv : IntsAt w v L) (hc : w.cell? ⟨b, 0, none⟩ = some (.int .i64 n)) :
    Calls Tryz.prog 159 #[v, .func (.func 160) #[] #[.pointer (some ⟨b, 0, none⟩)]] w fun en w' => en = .returned (.bool (!pebA n L)) ∧ w' = w := by
  have HI := Lib.hid (index_pebs n b L v w hv hc)
  obtain ⟨a, cap, rfl, l1, l2, l3⟩ := hv.view
  clear l3 hv hc
  generalize pebA n L = r at *
  go_enter Tryz.func159, Tryz.ntmps159
  go_wp2_with fail
  refine HI.out.mono ?_; rintro _ wz ⟨⟨z, rfl, hz⟩, hw⟩; rw [← hw]; clear hw
  cases r with
  | false =>
    have hz0 : 0 ≤ z := hz.2 rfl
    clear hz
    go_wp2_with fail
    go_ret
    exact ⟨ret_bool (by simp), rfl⟩
  | true =>
    have hz0 : ¬ 0 ≤ z := fun h => by have := hz.1 h; cases this
    clear hz
    go_wp2_with fail
    go_ret
    exact ⟨ret_bool (by simp; omega), rfl⟩
theorem arePebbles_any (n : Int) (S R : ByteArray) (L : List Int) (v : Value) (w : World) (hv : IntsAt w v L) : Calls Tryz.prog 96 #[strV n S R, v] w fun en w' => en = .returned (.bool (pebsB n L)) ∧ Below w.heap.size w w' := by
  have HB : Hid (SBlk (boxS w n S R) w.heap.size n S R ∧ Below w.heap.size w (boxS w n S R)) := ⟨boxS_SBlk _ _ _ _, boxS_below _ _ _ _⟩
  have HI := Lib.hid (containsPebs_any n w.heap.size L v (boxS w n S R) (hv.below HB.out.2) HB.out.1.cells.1)
  obtain ⟨a, cap, rfl, l1, l2, l3⟩ := hv.view
  clear l3 hv
  unfold boxS at HI HB
  unfold pebsB
  generalize pebA n L = r at *
  unfold strV
  by_cases h1 : 1 ≤ L.length
  · by_cases h3 : L.length ≤ 3
    · have h1I : (1 : Int) ≤ (L.length : Int) := by omega
      have h3I : (L.length : Int) ≤ 3 := by omega
      have HE : Hid ((decide (1 ≤ L.length) && decide (L.length ≤ 3) && r) = r) := by show _ = _; rw [decide_eq_true h1, decide_eq_true h3]; rfl
      rw [HE.out]
      go_enter Tryz.func96, Tryz.ntmps96
      go_wp2_with fail
      refine HI.out.mono ?_; rintro _ wz ⟨rfl, hw⟩; rw [hw]; clear hw
      cases r
      all_goals
        go_wp2_with fail
        go_ret
        exact ⟨rfl, HB.out.2⟩
    · have h1I : (1 : Int) ≤ (L.length : Int) := by omega
      have h3I : ¬ (L.length : Int) ≤ 3 := by omega
      have HE : Hid ((decide (1 ≤ L.length) && decide (L.length ≤ 3) && r) = false) := by show _ = _; rw [decide_eq_true h1, decide_eq_false h3]; rfl
      rw [HE.out]
      go_enter Tryz.func96, Tryz.ntmps96
      go_wp2_with fail
      go_ret
      exact ⟨rfl, HB.out.2⟩
  · have h1I : ¬ (1 : Int) ≤ (L.length : Int) := by omega
    have HE : Hid ((decide (1 ≤ L.length) && decide (L.length ≤ 3) && r) = false) := by show _ = _; rw [decide_eq_false h1]; rfl
    rw [HE.out]
    go_enter Tryz.func96, Tryz.ntmps96
    go_wp2_with fail
    go_ret
    exact ⟨rfl, HB.out.2⟩
/-- Whether two lists are beside at the same places. -/
def sideB (L M : List Int) : Bool := (List.range L.length).all fun j => decide (L.getD j 0 < 0) == decide (M.getD j 0 < 0)
def pebRdB (n : Int) (S R : ByteArray) (L : List Int) (m : Int) (S2 R2 : ByteArray) (M : List Int) : Bool := validB n S R && (validB m S2 R2 && (pebsB n L && (pebsB m M && (decide (L.length = M.length) && sideB L M))))
theorem side_bad {L M : List Int} {k : Nat} (hk : k < L.length) (h : decide (L.getD k 0 < 0) ≠ decide (M.getD k 0 < 0)) : sideB L M = false := by
  unfold sideB
  rw [List.all_eq_false]
  exact ⟨k, List.mem_range.2 hk, by simpa using h⟩
theorem side_good {L M : List Int} (h : ∀ j, j < L.length → decide (L.getD j 0 < 0) = decide (M.getD j 0 < 0)) : sideB L M = true := by
  unfold sideB
  rw [List.all_eq_true]
  intro j hj
  rw [h j (List.mem_range.1 hj)]
  simp
theorem ready_rdy {n m : Nat} {S R S2 R2 : ByteArray} {L M : List Int} (h : pebRdB n S R L m S2 R2 M = true) : validB n S R = true ∧ validB m S2 R2 = true ∧ Rdy n m L M ∧ 1 ≤ L.length ∧ L.length ≤ 3 := by
  unfold pebRdB pebsB pebA at h
  simp only [Bool.and_eq_true, decide_eq_true_iff, List.all_eq_true] at h
  obtain ⟨h1, h2, ⟨⟨h3, h4⟩, h5⟩, ⟨⟨h6, h7⟩, h8⟩, h9, h10⟩ := h
  refine ⟨h1, h2, ⟨h9, fun x hx => ?_, fun x hx => ?_, fun j => ?_⟩, h3, h4⟩
  · have := h5 x hx
    unfold pebR at this
    simpa using this
  · have := h8 x hx
    unfold pebR at this
    simpa using this
  · by_cases hj : j < L.length
    · unfold sideB at h10
      rw [List.all_eq_true] at h10
      have := h10 j (List.mem_range.2 hj)
      simpa using this
    · rw [List.getD_eq_getElem?_getD, List.getElem?_eq_none (by omega), List.getD_eq_getElem?_getD, List.getElem?_eq_none (by omega)]
/-- Two boxed structures of any sizes. -/
structure Bxp (w wr : World) (n : Int) (S R : ByteArray) (m : Int) (S2 R2 : ByteArray) : Prop where
  a : SBlk wr w.heap.size n S R
  b : SBlk wr (w.heap.size + 1) m S2 R2
  old : Below w.heap.size w wr
theorem Bxp.below {w wr w' : World} {n : Int} {S R : ByteArray} {m : Int} {S2 R2 : ByteArray} (h : Bxp w wr n S R m S2 R2) (hb : Below wr.heap.size wr w') : Bxp w w' n S R m S2 R2 := by
  have h1 := h.b.cells.2.2.2.2.2.2
  exact ⟨h.a.below hb (by omega), h.b.below hb h1, h.old.trans (hb.mono (by omega))⟩
theorem Bxp.new (w : World) (n : Int) (S R : ByteArray) (m : Int) (S2 R2 : ByteArray) : Bxp w (boxS (boxS w n S R) m S2 R2) n S R m S2 R2 := by
  refine ⟨(boxS_SBlk w n S R).below (boxS_below (boxS w n S R) m S2 R2) (by rw [boxS_size]; omega), ?_, (boxS_below w n S R).trans ((boxS_below _ _ _ _).mono (by rw [boxS_size]; omega))⟩
  have := boxS_SBlk (boxS w n S R) m S2 R2
  rw [boxS_size] at this
  exact this
set_option maxHeartbeats 2000000 in
theorem areReady_any (n : Int) (S R : ByteArray) (m : Int) (S2 R2 : ByteArray) (L M : List Int) (v u : Value) (w : World) (hS : S.size ≤ 9223372036854775807) (hR : R.size ≤ 9223372036854775807) (hS2 : S2.size ≤ 9223372036854775807) (hR2 : R2.size ≤ 9223372036854775807) (hg : IntsAt w v L) (hg2 : IntsAt w u M) :
    Calls Tryz.prog 55 #[strV n S R, v, strV m S2 R2, u] w fun en w' => en = .returned (.bool (pebRdB n S R L m S2 R2 M)) ∧ Below w.heap.size w w' := by
  have HT := Lib.hid (Bxp.new w n S R m S2 R2)
  unfold boxS at HT
  have HI1 := Lib.hid (fun w => isStructure_any n S R w hS hR)
  have HI2 := Lib.hid (fun w => isStructure_any m S2 R2 w hS2 hR2)
  have HA := Lib.hid (fun w' (h : Below w.heap.size w w') => arePebbles_any n S R L v w' (hg.below h))
  have HB := Lib.hid (fun w' (h : Below w.heap.size w w') => arePebbles_any m S2 R2 M u w' (hg2.below h))
  obtain ⟨a1, ca, rfl, la1, la2, hva⟩ := hg.view
  obtain ⟨b1, cb, rfl, lb1, lb2, hvb⟩ := hg2.view
  unfold maxLen at la2 lb2
  have HVA := Lib.hid hva
  have HVB := Lib.hid hvb
  clear hg hg2 hva hvb
  have HSB := Lib.hid (fun k hk h => side_bad (L := L) (M := M) (k := k) hk h)
  have HSG := Lib.hid (fun h => side_good (L := L) (M := M) h)
  unfold pebRdB
  generalize validB n S R = r1 at *
  generalize validB m S2 R2 = r2 at *
  generalize pebsB n L = r3 at *
  generalize pebsB m M = r4 at *
  generalize sideB L M = r5 at *
  unfold strV at HI1 HI2 HA HB
  obtain ⟨c0, c1, c2, f0, f1, f2, hl1⟩ := HT.out.a.cells
  unfold strV
  have hlm : ((L.length : Int) == (M.length : Int)) = decide (L.length = M.length) := by
    rw [Bool.eq_iff_iff, beq_iff_eq, decide_eq_true_iff]; omega
  cases r1 with
  | false =>
    go_enter Tryz.func55, Tryz.ntmps55
    go_wp2_with fail
    refine (HI1.out _).mono ?_; rintro e w1 ⟨rfl, hb⟩
    have HT3 := Lib.hid (HT.out.below hb); clear hb c0 c1 c2 f0 f1 f2 hl1
    go_wp2_with fail
    go_ret
    exact ⟨rfl, HT3.out.old⟩
  | true =>
    cases r2 with
    | false =>
      go_enter Tryz.func55, Tryz.ntmps55
      go_wp2_with fail
      refine (HI1.out _).mono ?_; rintro e w1 ⟨rfl, hb⟩
      have HT3 := Lib.hid (HT.out.below hb); clear hb c0 c1 c2 f0 f1 f2 hl1
      obtain ⟨d0, d1, d2, _, _, _, _⟩ := HT3.out.b.cells
      go_wp2_with fail
      refine (HI2.out _).mono ?_; rintro e w2 ⟨rfl, hb⟩
      have HT4 := Lib.hid (HT3.out.below hb); clear hb d0 d1 d2
      go_wp2_with fail
      go_ret
      exact ⟨rfl, HT4.out.old⟩
    | true =>
      cases r3 with
      | false =>
        go_enter Tryz.func55, Tryz.ntmps55
        go_wp2_with fail
        refine (HI1.out _).mono ?_; rintro e w1 ⟨rfl, hb⟩
        have HT3 := Lib.hid (HT.out.below hb); clear hb c0 c1 c2 f0 f1 f2 hl1
        obtain ⟨d0, d1, d2, _, _, _, _⟩ := HT3.out.b.cells
        go_wp2_with fail
        refine (HI2.out _).mono ?_; rintro e w2 ⟨rfl, hb⟩
        have HT4 := Lib.hid (HT3.out.below hb); clear hb d0 d1 d2
        obtain ⟨d0, d1, d2, _, _, _, _⟩ := HT4.out.a.cells
        go_wp2_with fail
        refine (HA.out _ HT4.out.old).mono ?_; rintro e w3 ⟨rfl, hb⟩
        have HT5 := Lib.hid (HT4.out.below hb); clear hb d0 d1 d2
        go_wp2_with fail
        go_ret
        exact ⟨rfl, HT5.out.old⟩
      | true =>
        go_enter Tryz.func55, Tryz.ntmps55
        go_wp2_with fail
        refine (HI1.out _).mono ?_; rintro e w1 ⟨rfl, hb⟩
        have HT3 := Lib.hid (HT.out.below hb); clear hb c0 c1 c2 f0 f1 f2 hl1
        obtain ⟨d0, d1, d2, _, _, _, _⟩ := HT3.out.b.cells
        go_wp2_with fail
        refine (HI2.out _).mono ?_; rintro e w2 ⟨rfl, hb⟩
        have HT4 := Lib.hid (HT3.out.below hb); clear hb d0 d1 d2
        obtain ⟨d0, d1, d2, _, _, _, _⟩ := HT4.out.a.cells
        go_wp2_with fail
        refine (HA.out _ HT4.out.old).mono ?_; rintro e w3 ⟨rfl, hb⟩
        have HT5 := Lib.hid (HT4.out.below hb); clear hb d0 d1 d2
        obtain ⟨d0, d1, d2, _, _, _, _⟩ := HT5.out.b.cells
        go_wp2_with fail
        refine (HB.out _ HT5.out.old).mono ?_; rintro e w4 ⟨rfl, hb⟩
        have HT6 := Lib.hid (HT5.out.below hb); clear hb d0 d1 d2
        cases r4 with
        | false =>
          go_wp2_with fail
          go_ret
          exact ⟨rfl, HT6.out.old⟩
        | true =>
          by_cases hlml : L.length = M.length
          · have hle : ((L.length : Int) != (M.length : Int)) = false := by simp; omega
            go_wp2_with fail
            go_loopw [40, 9, 10] (fun q _ _ wr => ∃ (k : Nat), k ≤ L.length ∧ q = .int .i64 (k : Int) ∧ Hid (∀ j, j < k → decide (L.getD j 0 < 0) = decide (M.getD j 0 < 0)) ∧ Hid (Below w.heap.size w wr)) (fun q _ _ _ => L.length - (intOf q).toNat)
            case atStart => exact ⟨0, by omega, rfl, fun j hj => by omega, HT6.out.old⟩
            case round =>
              clear HT6 HT5 HT4 HT3
              obtain ⟨k, hk, rfl, HK, HO⟩ := hrel
              by_cases hlt : k < L.length
              · have hkI : (k : Int) < (L.length : Int) := by omega
                have hkI2 : (k : Int) < (M.length : Int) := by omega
                obtain ⟨ga, oa, rfl, hga, hca⟩ := HVA.out (by omega)
                obtain ⟨gb, ob, rfl, hgb, hcb⟩ := HVB.out (by omega)
                have d1 := (HO.out.cell (p := ⟨ga, oa + k, none⟩) hga).trans (hca k hlt)
                have d2 := (HO.out.cell (p := ⟨gb, ob + k, none⟩) hgb).trans (hcb k (by omega))
                have HSK := Lib.hid (HSB.out k hlt)
                obtain ⟨x, hx⟩ : ∃ x, L.getD k 0 = x := ⟨_, rfl⟩
                obtain ⟨y, hy⟩ : ∃ x, M.getD k 0 = x := ⟨_, rfl⟩
                rw [hx] at d1 HSK
                rw [hy] at d2 HSK
                have HXY : Hid (L.getD k 0 = x ∧ M.getD k 0 = y) := ⟨hx, hy⟩
                clear hx hy hca hcb
                by_cases hx0 : x < 0
                · by_cases hy0 : y < 0
                  · go_wp2_with fail
                    go_roundw
                    case rel =>
                      refine ⟨k + 1, by omega, by go_num, fun j hj => ?_, HO⟩
                      by_cases e : j = k
                      · rw [e, HXY.out.1, HXY.out.2, decide_eq_true hx0, decide_eq_true hy0]
                      · exact HK.out j (by omega)
                    case measure => simp [intOf]; omega
                  · have HE : Hid (r5 = false) := HSK.out (by rw [decide_eq_true hx0, decide_eq_false hy0]; decide)
                    go_wp2_with fail
                    go_ret
                    exact ⟨ret_bool (by rw [HE.out]; try simp [hlml]), HO.out⟩
                · by_cases hy0 : y < 0
                  · have HE : Hid (r5 = false) := HSK.out (by rw [decide_eq_false hx0, decide_eq_true hy0]; decide)
                    go_wp2_with fail
                    go_ret
                    exact ⟨ret_bool (by rw [HE.out]; try simp [hlml]), HO.out⟩
                  · go_wp2_with fail
                    go_roundw
                    case rel =>
                      refine ⟨k + 1, by omega, by go_num, fun j hj => ?_, HO⟩
                      by_cases e : j = k
                      · rw [e, HXY.out.1, HXY.out.2, decide_eq_false hx0, decide_eq_false hy0]
                      · exact HK.out j (by omega)
                    case measure => simp [intOf]; omega
              · have HE : Hid (r5 = true) := HSG.out (fun j hj => HK.out j (by omega))
                go_wp2_with fail
                go_ret
                exact ⟨ret_bool (by rw [HE.out]; try simp [hlml]), HO.out⟩
          · have hle : ((L.length : Int) != (M.length : Int)) = true := by simp; omega
            go_wp2_with fail
            go_ret
            exact ⟨ret_bool (by simp [hlml]), HT6.out.old⟩
end Go.Proofs.YtofmagiahmmmgaaGreatDoor

namespace Go.Proofs.YtofmagiahmmmgaaGreatDoor
open Go.RowKit
set_option linter.unusedVariables false
section
variable {P : Program} {ops : Array Oper} {md : Region.Mode} {C : World → Prop}
/-- Whatever order the first operations take: f of them, then L. -/
def headQ (P : Program) (md : Region.Mode) (ops : Array Oper) (C : World → Prop) (n : Nat) (L : Array Bool → Act → Prop) : Nat → Array Bool → Act → Prop
  | 0, done, a => L done a
  | f + 1, done, a => Region.ready md ops done ≠ [] ∧ ∀ i ∈ Region.ready md ops done, i < n ∧ qOp P ops C i (headQ P md ops C n L f (done.setIfInBounds i true)) a
theorem headQ_any {n g : Nat} {L : Array Bool → Act → Prop} {R : Exit → Act → World → Prop} (hL : ∀ done a w, C w → L done a → wpAny P md ops R g done a w) : ∀ (f : Nat) (done : Array Bool) (a : Act) (w : World), C w → headQ P md ops C n L f done a → wpAny P md ops R (f + g) done a w := by
  intro f
  induction f with
  | zero => intro done a w hw h; rw [Nat.zero_add]; exact hL _ _ _ hw h
  | succ f ih =>
    intro done a w hw h
    rw [Nat.succ_add]
    refine ⟨fun h0 => absurd h0 h.1, fun i hi => ?_⟩
    exact wpOp_of_qOp hw (fun a' w' hw' h' => ih _ a' w' hw' h') (h.2 i hi).2
theorem headQ_first {n i : Nat} {oi : Oper} {v : Value} {L : Array Bool → Act → Prop} (hi : ops[i]? = some oi) (hsel : Region.noSelect ops = true)
    (hs : Region.sinkB md ops n = true) (hc : Region.chainB md ops n = true) (hn : n < ops.size) (hin : i < n) (hL : ∀ done a, L done a → ∀ j ∈ Region.ready md ops done, n ≤ j) :
    ∀ (f : Nat) (done : Array Bool) (a : Act), HeadInv md ops n done →
      (∀ j oj, ops[j]? = some oj → j ≠ i → done.getD j true = false → (∀ e ∈ oj.after, Region.binds md e = true → e.on ≠ i) → oi.apart ops oj = true) →
      i ∈ Region.ready md ops done → YieldsIn P ops C oi v a → headQ P md ops C n L f (done.setIfInBounds i true) (a.put oi.dst v) → headQ P md ops C n L (f + 1) done a := by
  have sel := Region.noSelect_spec hsel
  intro f
  induction f with
  | zero =>
    intro done a inv _ hr hy H
    have hun := (mem_ready.1 hr).1
    have low : ∀ j ∈ Region.ready md ops done, j < n := fun j hj => Nat.lt_of_not_le fun h => tail_waits hs hc hn inv _ i rfl hin hun j h hj
    refine ⟨List.ne_nil_of_mem hr, fun j hj => ⟨low j hj, ?_⟩⟩
    rcases Nat.decEq j i with hji | hji
    · exact absurd (hL _ _ H j (ready_mono hj hji)) (Nat.not_le_of_lt (low j hj))
    · subst hji; exact hy.qOp hi H
  | succ f ih =>
    intro done a inv hfree hr hy H
    have hun := (mem_ready.1 hr).1
    have low : ∀ j ∈ Region.ready md ops done, j < n := fun j hj => Nat.lt_of_not_le fun h => tail_waits hs hc hn inv _ i rfl hin hun j h hj
    refine ⟨List.ne_nil_of_mem hr, fun j hj => ⟨low j hj, ?_⟩⟩
    rcases Nat.decEq j i with hji | hji
    · have h1 := (H.2 j (ready_mono hj hji)).2
      obtain ⟨hjun, oj, hoj, hall⟩ := mem_ready.1 hj
      have away : ∀ e ∈ oj.after, Region.binds md e = true → e.on ≠ i := by
        rintro e he hb rfl
        have h2 := hall e he hb
        rw [getD_both hun] at h2
        cases h2
      refine qOp_mono (fun a' h3 => ih (done.setIfInBounds j true) a' (inv.set hj (low j hj)) (fun k ok hk hki hku hno => hfree k ok hk hki ?_ hno) (ready_mono hr (Ne.symm hji)) h3.1 ?_) (qOp_put hoj (hfree j oj hoj hji hjun away) (fun cs b => sel i oi cs b hi) (fun cs b => sel j oj cs b hoj) hy h1)
      · rcases Nat.decEq j k with hjk | hjk
        · rw [getD_set_ne true hjk] at hku; exact hku
        · subst hjk; exact hjun
      · rw [Array.setIfInBounds_comm _ _ hji]; exact h3.2
    · subst hji; exact hy.qOp hi H
theorem headQ_lex {n g : Nat} {Lq : Act → Prop} (hsel : Region.noSelect ops = true) (hs : Region.sinkB md ops n = true) (hc : Region.chainB md ops n = true) (hn : n < ops.size) :
    ∀ (l : List Oper) (k : Nat) (done : Array Bool) (a : Act), (∀ j, j < l.length → l[j]? = ops[k + j]?) → k + l.length = n → HeadInv md ops n done →
      Region.lexHead md ops g l.length k done = true → wpQuiet P ops C Lq l a → headQ P md ops C n (fun d a' => Region.seqB md ops g n d = true ∧ Lq a') l.length done a := by
  intro l
  induction l with
  | nil =>
    intro k done a _ hk _ hB h
    obtain rfl : k = n := by simpa using hk
    exact ⟨hB, h⟩
  | cons o l ih =>
    intro k done a hl hk inv hB h
    have h0 : ops[k]? = some o := by simpa using (hl 0 (by simp)).symm
    simp only [List.length_cons] at hk
    simp only [List.length_cons, Region.lexHead, Bool.and_eq_true] at hB
    have hkn : k < n := by omega
    have hr : k ∈ Region.ready md ops done := by simpa using hB.1.1
    have hq : qOp P ops C k (wpQuiet P ops C Lq l) a := by unfold qOp; simp only [h0]; exact h
    obtain ⟨v, hy, hK⟩ := yieldsIn_of_qOp h0 hq
    refine headQ_first h0 hsel hs hc hn hkn (fun d a' h' => seqB_ready h'.1) l.length done a inv (Region.free_spec h0 hB.1.2) hr hy (ih (k + 1) _ _ (fun j hj => ?_) (by omega) (inv.set hr hkn) hB.2 hK)
    have := hl (j + 1) (by simp; omega)
    simpa [Nat.add_assoc, Nat.add_comm 1 j] using this
theorem wp_region_quiet_tail {id : Nat} {Q : Exit → Act → World → Prop} {a : Act} {w : World} {l : List Oper} (n : Nat) (hm : P.follows .mixedOrders = true) (hB : Region.lexTailB .any l.toArray n = true) (h0 : C { w with drawn := w.drawn + 1 })
    (h : wpQuiet P l.toArray C (fun a' => ∀ w', C w' → wpList P l.toArray Q (l.drop n) a' w') (l.take n) a) : (Code.region id l.toArray true).wp P Q a w := by
  simp only [Region.lexTailB, Bool.and_eq_true, decide_eq_true_eq] at hB
  obtain ⟨⟨⟨⟨hsel, hn⟩, hs⟩, hc⟩, hlex⟩ := hB
  have hn' : n < l.length := by simpa using hn
  have ht : (l.take n).length = n := by rw [List.length_take]; omega
  have hd : (l.drop n).length = l.toArray.size - n := by rw [List.length_drop]; simp
  have none : ∀ j, (Array.replicate l.toArray.size false).getD j false = false := fun j => getD_replicate_false _ _
  have inv : HeadInv .any l.toArray n (Array.replicate l.toArray.size false) := ⟨by simp, (fun j oj _ hj => by rw [none] at hj; cases hj), fun t _ hts => getD_in (by simpa using hts) (none t)⟩
  have H := headQ_lex (md := .any) (g := l.toArray.size - n) hsel hs hc hn (l.take n) 0 _ a (fun j hj => by rw [ht] at hj; simp [hj]) (by rw [ht]; omega) inv (by rw [ht]; exact hlex) h
  refine wp_region_any hm ?_
  have K := headQ_any (R := Q) (g := l.toArray.size - n) (fun d a' w' hw' hL => by
    have := wpAny_of_seq (md := .any) (Q' := Q) (l.drop n) n d a' w' (fun j => by simp [List.getElem?_drop]) (by rw [hd]; exact hL.1) (hL.2 w' hw')
    rwa [hd] at this) _ _ _ _ h0 H
  rw [ht, show n + (l.toArray.size - n) = l.toArray.size by omega] at K
  exact K
theorem quiet_imp {K K' : Act → Prop} (h : ∀ a, K a → K' a) : ∀ (l : List Oper) (a : Act), wpQuiet P ops C K l a → wpQuiet P ops C K' l a := by
  intro l
  induction l with
  | nil => intro a hk; exact h a hk
  | cons o l ih =>
    intro a hk
    unfold wpQuiet at hk ⊢
    split
    · rename_i hw; rw [if_pos hw] at hk; exact Oper.quiet_mono ih hk
    · rename_i hw; rw [if_neg hw] at hk; exact ih _ hk
end
/-- The class of the worlds since w. -/
theorem wp_region_since_tail {P : Program} {id : Nat} {Q : Exit → Act → World → Prop} {a : Act} {w : World} {l : List Oper} (n : Nat) (hm : P.follows .mixedOrders = true) (hB : Region.lexTailB .any l.toArray n = true)
    (h : wpQuiet P l.toArray (fun w' => ∃ s : Since w, w' = s.w) (fun a' => ∀ w', Below w.heap.size w w' → wpList P l.toArray Q (l.drop n) a' w') (l.take n) a) : (Code.region id l.toArray true).wp P Q a w := by
  refine wp_region_quiet_tail (C := fun w' => ∃ s : Since w, w' = s.w) n hm hB ⟨⟨{ w with drawn := w.drawn + 1 }, ⟨rfl, rfl, rfl, Nat.le_refl _, fun _ _ => rfl⟩⟩, rfl⟩ ?_
  exact quiet_imp (fun a' h' w' ⟨s, hs⟩ => h' w' (by rw [hs]; exact s.below)) _ _ h
end Go.Proofs.YtofmagiahmmmgaaGreatDoor

/- The program's arePebbles and areReady, for any numbers. Conditions: the structures' texts are not long. -/
import Derived.Test.YtnhlhjehocngcaaDoorPebSt
import Derived.Test.YtnhlhjehocngcaaDoorValid
namespace Go.Proofs.YtnhlhjehocngcaaDoor
open Go.RowKit
set_option linter.unusedVariables false
set_option maxRecDepth 100000

def pebR (n x : Int) : Bool := decide (-1 ≤ x) && decide (x < n)
def pebA (n : Int) (L : List Int) : Bool := L.all (pebR n)
def pebsB (n : Int) (L : List Int) : Bool := decide (1 ≤ L.length) && decide (L.length ≤ 3) && pebA n L
theorem pebA_bad {n : Int} {L : List Int} {k : Nat} (hk : k < L.length) (h : pebR n (L.getD k 0) = false) : pebA n L = false := by
  unfold pebA
  rw [List.all_eq_false]
  refine ⟨L[k], List.getElem_mem hk, ?_⟩
  rw [List.getD_eq_getElem?_getD, List.getElem?_eq_getElem hk] at h
  have h2 : pebR n L[k] = false := h
  rw [h2]; simp
theorem pebA_good {n : Int} {L : List Int} (h : ∀ j, j < L.length → pebR n (L.getD j 0) = true) : pebA n L = true := by
  unfold pebA
  rw [List.all_eq_true]
  intro x hx
  obtain ⟨j, hj, rfl⟩ := List.mem_iff_getElem.1 hx
  have := h j hj
  rw [List.getD_eq_getElem?_getD, List.getElem?_eq_getElem hj] at this
  exact this
theorem pebI_any (n x : Int) (b : Nat) (w : World) (hc : w.cell? ⟨b, 0, none⟩ = some (.int .i64 n)) : Calls Tryd.prog 110 #[.int .i64 x, .pointer (some ⟨b, 0, none⟩)] w fun en w' => en = .returned (.bool (!pebR n x)) ∧ w = w' := by
  obtain ⟨r, hr⟩ : ∃ r, (!pebR n x) = r := ⟨_, rfl⟩
  rw [hr]
  have HR := Lib.hid hr
  clear hr
  by_cases h0 : x < -1
  · have HE : Hid (true = r) := by show _ = _; rw [← HR.out]; unfold pebR; rw [decide_eq_false (by omega)]; rfl
    go_enter Tryd.func110, Tryd.ntmps110
    go_wp2_with fail
    go_ret
    exact ⟨ret_bool HE.out, rfl⟩
  · by_cases h1 : n ≤ x
    · have HE : Hid (true = r) := by show _ = _; rw [← HR.out]; unfold pebR; rw [decide_eq_true (show -1 ≤ x by omega), decide_eq_false (show ¬ x < n by omega)]; rfl
      go_enter Tryd.func110, Tryd.ntmps110
      go_wp2_with fail
      go_ret
      exact ⟨ret_bool HE.out, rfl⟩
    · have HE : Hid (false = r) := by show _ = _; rw [← HR.out]; unfold pebR; rw [decide_eq_true (show -1 ≤ x by omega), decide_eq_true (show x < n by omega)]; rfl
      go_enter Tryd.func110, Tryd.ntmps110
      go_wp2_with fail
      go_ret
      exact ⟨ret_bool HE.out, rfl⟩
theorem index_pebs (n : Int) (b : Nat) (L : List Int) (v : Value) (w : World) (hv : IntsAt w v L) (hc : w.cell? ⟨b, 0, none⟩ = some (.int .i64 n)) :
    Calls Tryd.prog 122 #[v, .func (.func 110) #[] #[.pointer (some ⟨b, 0, none⟩)]] w fun en w' => (∃ z : Int, en = .returned (.int .i64 z) ∧ (0 ≤ z ↔ pebA n L = false)) ∧ w = w' := by
  have HN := Lib.hid (fun x => pebI_any n x b w hc)
  obtain ⟨a, cap, rfl, l1, l2, l3⟩ := hv.view
  have HC := Lib.hid l3
  clear l3 hv hc
  unfold maxLen at l2
  go_enter Tryd.func122, Tryd.ntmps122
  go_wp2_with fail
  go_loopw [8, 5] (fun i _ wr => (∃ k : Nat, k ≤ L.length ∧ i = .int .i64 (k : Int) ∧ Hid (∀ j, j < k → pebR n (L.getD j 0) = true)) ∧ wr = w) (fun i _ _ => L.length - (intOf i).toNat)
  case atStart => exact ⟨⟨0, by omega, rfl, fun j hj => by omega⟩, rfl⟩
  case round =>
    obtain ⟨⟨k, hk, rfl, HG⟩, hwr⟩ := hrel
    rw [hwr]; clear hwr
    by_cases hlt : k < L.length
    · obtain ⟨g, o, rfl, hg, hcc⟩ := HC.out (by omega)
      have d1 := hcc k hlt
      have HX := Lib.hid (HN.out (L.getD k 0))
      have hkI : (k : Int) < (L.length : Int) := by omega
      cases hb : pebR n (L.getD k 0) with
      | false =>
        have HE := Lib.hid (pebA_bad hlt hb)
        rw [hb] at HX
        clear hcc hb
        generalize L.getD k 0 = x at *
        go_wp2_with fail
        refine HX.out.mono ?_; rintro _ w1 ⟨rfl, hw1⟩; rw [← hw1]; clear hw1
        go_wp2_with fail
        go_ret
        exact ⟨⟨(k : Int), rfl, fun _ => HE.out, fun _ => by omega⟩, rfl⟩
      | true =>
        have HG2 : Hid (∀ j, j < k + 1 → pebR n (L.getD j 0) = true) := fun j hj => by
          by_cases e : j = k
          · rw [e]; exact hb
          · exact HG.out j (by omega)
        rw [hb] at HX
        clear hcc hb
        generalize L.getD k 0 = x at *
        go_wp2_with fail
        refine HX.out.mono ?_; rintro _ w1 ⟨rfl, hw1⟩; rw [← hw1]; clear hw1
        go_wp2_with fail
        go_roundw
        case rel => exact ⟨⟨k + 1, by omega, by go_num, HG2.out⟩, trivial⟩
        case measure => simp [intOf]; omega
    · have HE : Hid (pebA n L = true) := pebA_good (fun j hj => HG.out j (by omega))
      go_wp2_with fail
      go_ret
      exact ⟨⟨-1, rfl, fun h => absurd h (by decide), fun h => by rw [HE.out] at h; cases h⟩, rfl⟩
theorem containsPebs_any (n : Int) (b : Nat) (L : List Int) (v : Value) (w : World) (hv : IntsAt w v L) (hc : w.cell? ⟨b, 0, none⟩ = some (.int .i64 n)) :
    Calls Tryd.prog 109 #[v, .func (.func 110) #[] #[.pointer (some ⟨b, 0, none⟩)]] w fun en w' => en = .returned (.bool (!pebA n L)) ∧ w' = w := by
  have HI := Lib.hid (index_pebs n b L v w hv hc)
  obtain ⟨a, cap, rfl, l1, l2, l3⟩ := hv.view
  clear l3 hv hc
  generalize pebA n L = r at *
  go_enter Tryd.func109, Tryd.ntmps109
  go_wp2_with fail
  refine HI.out.mono ?_; rintro _ wz ⟨⟨z, rfl, hz⟩, hw⟩; rw [← hw]; clear hw
  cases r with
  | false =>
    have hz0 : 0 ≤ z := hz.2 rfl
    clear hz
    go_wp2_with fail
    go_ret
    exact ⟨ret_bool (by simp), rfl⟩
  | true =>
    have hz0 : ¬ 0 ≤ z := fun h => by have := hz.1 h; cases this
    clear hz
    go_wp2_with fail
    go_ret
    exact ⟨ret_bool (by simp; omega), rfl⟩
theorem arePebbles_any (n : Int) (S R : ByteArray) (L : List Int) (v : Value) (w : World) (hv : IntsAt w v L) : Calls Tryd.prog 79 #[strV n S R, v] w fun en w' => en = .returned (.bool (pebsB n L)) ∧ Below w.heap.size w w' := by
  have HB : Hid (SBlk (boxS w n S R) w.heap.size n S R ∧ Below w.heap.size w (boxS w n S R)) := ⟨boxS_SBlk _ _ _ _, boxS_below _ _ _ _⟩
  have HI := Lib.hid (containsPebs_any n w.heap.size L v (boxS w n S R) (hv.below HB.out.2) HB.out.1.cells.1)
  obtain ⟨a, cap, rfl, l1, l2, l3⟩ := hv.view
  clear l3 hv
  unfold boxS at HI HB
  unfold pebsB
  generalize pebA n L = r at *
  unfold strV
  by_cases h1 : 1 ≤ L.length
  · by_cases h3 : L.length ≤ 3
    · have h1I : (1 : Int) ≤ (L.length : Int) := by omega
      have h3I : (L.length : Int) ≤ 3 := by omega
      have HE : Hid ((decide (1 ≤ L.length) && decide (L.length ≤ 3) && r) = r) := by show _ = _; rw [decide_eq_true h1, decide_eq_true h3]; rfl
      rw [HE.out]
      go_enter Tryd.func79, Tryd.ntmps79
      go_wp2_with fail
      refine HI.out.mono ?_; rintro _ wz ⟨rfl, hw⟩; rw [hw]; clear hw
      cases r
      all_goals
        go_wp2_with fail
        go_ret
        exact ⟨rfl, HB.out.2⟩
    · have h1I : (1 : Int) ≤ (L.length : Int) := by omega
      have h3I : ¬ (L.length : Int) ≤ 3 := by omega
      have HE : Hid ((decide (1 ≤ L.length) && decide (L.length ≤ 3) && r) = false) := by show _ = _; rw [decide_eq_true h1, decide_eq_false h3]; rfl
      rw [HE.out]
      go_enter Tryd.func79, Tryd.ntmps79
      go_wp2_with fail
      go_ret
      exact ⟨rfl, HB.out.2⟩
  · have h1I : ¬ (1 : Int) ≤ (L.length : Int) := by omega
    have HE : Hid ((decide (1 ≤ L.length) && decide (L.length ≤ 3) && r) = false) := by show _ = _; rw [decide_eq_false h1]; rfl
    rw [HE.out]
    go_enter Tryd.func79, Tryd.ntmps79
    go_wp2_with fail
    go_ret
    exact ⟨rfl, HB.out.2⟩
/-- Whether two lists are beside at the same places. -/
def sideB (L M : List Int) : Bool := (List.range L.length).all fun j => decide (L.getD j 0 < 0) == decide (M.getD j 0 < 0)
def pebRdB (n : Int) (S R : ByteArray) (L : List Int) (m : Int) (S2 R2 : ByteArray) (M : List Int) : Bool := validB n S R && (validB m S2 R2 && (pebsB n L && (pebsB m M && (decide (L.length = M.length) && sideB L M))))
theorem side_bad {L M : List Int} {k : Nat} (hk : k < L.length) (h : decide (L.getD k 0 < 0) ≠ decide (M.getD k 0 < 0)) : sideB L M = false := by
  unfold sideB
  rw [List.all_eq_false]
  exact ⟨k, List.mem_range.2 hk, by simpa using h⟩
theorem side_good {L M : List Int} (h : ∀ j, j < L.length → decide (L.getD j 0 < 0) = decide (M.getD j 0 < 0)) : sideB L M = true := by
  unfold sideB
  rw [List.all_eq_true]
  intro j hj
  rw [h j (List.mem_range.1 hj)]
  simp
theorem ready_rdy {n m : Nat} {S R S2 R2 : ByteArray} {L M : List Int} (h : pebRdB n S R L m S2 R2 M = true) : validB n S R = true ∧ validB m S2 R2 = true ∧ Rdy n m L M ∧ 1 ≤ L.length ∧ L.length ≤ 3 := by
  unfold pebRdB pebsB pebA at h
  simp only [Bool.and_eq_true, decide_eq_true_iff, List.all_eq_true] at h
  obtain ⟨h1, h2, ⟨⟨h3, h4⟩, h5⟩, ⟨⟨h6, h7⟩, h8⟩, h9, h10⟩ := h
  refine ⟨h1, h2, ⟨h9, fun x hx => ?_, fun x hx => ?_, fun j => ?_⟩, h3, h4⟩
  · have := h5 x hx
    unfold pebR at this
    simpa using this
  · have := h8 x hx
    unfold pebR at this
    simpa using this
  · by_cases hj : j < L.length
    · unfold sideB at h10
      rw [List.all_eq_true] at h10
      have := h10 j (List.mem_range.2 hj)
      simpa using this
    · rw [List.getD_eq_getElem?_getD, List.getElem?_eq_none (by omega), List.getD_eq_getElem?_getD, List.getElem?_eq_none (by omega)]
/-- Two boxed structures of any sizes. -/
structure Bxp (w wr : World) (n : Int) (S R : ByteArray) (m : Int) (S2 R2 : ByteArray) : Prop where
  a : SBlk wr w.heap.size n S R
  b : SBlk wr (w.heap.size + 1) m S2 R2
  old : Below w.heap.size w wr
theorem Bxp.below {w wr w' : World} {n : Int} {S R : ByteArray} {m : Int} {S2 R2 : ByteArray} (h : Bxp w wr n S R m S2 R2) (hb : Below wr.heap.size wr w') : Bxp w w' n S R m S2 R2 := by
  have h1 := h.b.cells.2.2.2.2.2.2
  exact ⟨h.a.below hb (by omega), h.b.below hb h1, h.old.trans (hb.mono (by omega))⟩
theorem Bxp.new (w : World) (n : Int) (S R : ByteArray) (m : Int) (S2 R2 : ByteArray) : Bxp w (boxS (boxS w n S R) m S2 R2) n S R m S2 R2 := by
  refine ⟨(boxS_SBlk w n S R).below (boxS_below (boxS w n S R) m S2 R2) (by rw [boxS_size]; omega), ?_, (boxS_below w n S R).trans ((boxS_below _ _ _ _).mono (by rw [boxS_size]; omega))⟩
  have := boxS_SBlk (boxS w n S R) m S2 R2
  rw [boxS_size] at this
  exact this
set_option maxHeartbeats 2000000 in
theorem areReady_any (n : Int) (S R : ByteArray) (m : Int) (S2 R2 : ByteArray) (L M : List Int) (v u : Value) (w : World) (hS : S.size ≤ 9223372036854775807) (hR : R.size ≤ 9223372036854775807) (hS2 : S2.size ≤ 9223372036854775807) (hR2 : R2.size ≤ 9223372036854775807) (hg : IntsAt w v L) (hg2 : IntsAt w u M) :
    Calls Tryd.prog 59 #[strV n S R, v, strV m S2 R2, u] w fun en w' => en = .returned (.bool (pebRdB n S R L m S2 R2 M)) ∧ Below w.heap.size w w' := by
  have HT := Lib.hid (Bxp.new w n S R m S2 R2)
  unfold boxS at HT
  have HI1 := Lib.hid (fun w => isStructure_any n S R w hS hR)
  have HI2 := Lib.hid (fun w => isStructure_any m S2 R2 w hS2 hR2)
  have HA := Lib.hid (fun w' (h : Below w.heap.size w w') => arePebbles_any n S R L v w' (hg.below h))
  have HB := Lib.hid (fun w' (h : Below w.heap.size w w') => arePebbles_any m S2 R2 M u w' (hg2.below h))
  obtain ⟨a1, ca, rfl, la1, la2, hva⟩ := hg.view
  obtain ⟨b1, cb, rfl, lb1, lb2, hvb⟩ := hg2.view
  unfold maxLen at la2 lb2
  have HVA := Lib.hid hva
  have HVB := Lib.hid hvb
  clear hg hg2 hva hvb
  have HSB := Lib.hid (fun k hk h => side_bad (L := L) (M := M) (k := k) hk h)
  have HSG := Lib.hid (fun h => side_good (L := L) (M := M) h)
  unfold pebRdB
  generalize validB n S R = r1 at *
  generalize validB m S2 R2 = r2 at *
  generalize pebsB n L = r3 at *
  generalize pebsB m M = r4 at *
  generalize sideB L M = r5 at *
  unfold strV at HI1 HI2 HA HB
  obtain ⟨c0, c1, c2, f0, f1, f2, hl1⟩ := HT.out.a.cells
  unfold strV
  have hlm : ((L.length : Int) == (M.length : Int)) = decide (L.length = M.length) := by
    rw [Bool.eq_iff_iff, beq_iff_eq, decide_eq_true_iff]; omega
  cases r1 with
  | false =>
    go_enter Tryd.func59, Tryd.ntmps59
    go_wp2_with fail
    refine (HI1.out _).mono ?_; rintro e w1 ⟨rfl, hb⟩
    have HT3 := Lib.hid (HT.out.below hb); clear hb c0 c1 c2 f0 f1 f2 hl1
    go_wp2_with fail
    go_ret
    exact ⟨rfl, HT3.out.old⟩
  | true =>
    cases r2 with
    | false =>
      go_enter Tryd.func59, Tryd.ntmps59
      go_wp2_with fail
      refine (HI1.out _).mono ?_; rintro e w1 ⟨rfl, hb⟩
      have HT3 := Lib.hid (HT.out.below hb); clear hb c0 c1 c2 f0 f1 f2 hl1
      obtain ⟨d0, d1, d2, _, _, _, _⟩ := HT3.out.b.cells
      go_wp2_with fail
      refine (HI2.out _).mono ?_; rintro e w2 ⟨rfl, hb⟩
      have HT4 := Lib.hid (HT3.out.below hb); clear hb d0 d1 d2
      go_wp2_with fail
      go_ret
      exact ⟨rfl, HT4.out.old⟩
    | true =>
      cases r3 with
      | false =>
        go_enter Tryd.func59, Tryd.ntmps59
        go_wp2_with fail
        refine (HI1.out _).mono ?_; rintro e w1 ⟨rfl, hb⟩
        have HT3 := Lib.hid (HT.out.below hb); clear hb c0 c1 c2 f0 f1 f2 hl1
        obtain ⟨d0, d1, d2, _, _, _, _⟩ := HT3.out.b.cells
        go_wp2_with fail
        refine (HI2.out _).mono ?_; rintro e w2 ⟨rfl, hb⟩
        have HT4 := Lib.hid (HT3.out.below hb); clear hb d0 d1 d2
        obtain ⟨d0, d1, d2, _, _, _, _⟩ := HT4.out.a.cells
        go_wp2_with fail
        refine (HA.out _ HT4.out.old).mono ?_; rintro e w3 ⟨rfl, hb⟩
        have HT5 := Lib.hid (HT4.out.below hb); clear hb d0 d1 d2
        go_wp2_with fail
        go_ret
        exact ⟨rfl, HT5.out.old⟩
      | true =>
        go_enter Tryd.func59, Tryd.ntmps59
        go_wp2_with fail
        refine (HI1.out _).mono ?_; rintro e w1 ⟨rfl, hb⟩
        have HT3 := Lib.hid (HT.out.below hb); clear hb c0 c1 c2 f0 f1 f2 hl1
        obtain ⟨d0, d1, d2, _, _, _, _⟩ := HT3.out.b.cells
        go_wp2_with fail
        refine (HI2.out _).mono ?_; rintro e w2 ⟨rfl, hb⟩
        have HT4 := Lib.hid (HT3.out.below hb); clear hb d0 d1 d2
        obtain ⟨d0, d1, d2, _, _, _, _⟩ := HT4.out.a.cells
        go_wp2_with fail
        refine (HA.out _ HT4.out.old).mono ?_; rintro e w3 ⟨rfl, hb⟩
        have HT5 := Lib.hid (HT4.out.below hb); clear hb d0 d1 d2
        obtain ⟨d0, d1, d2, _, _, _, _⟩ := HT5.out.b.cells
        go_wp2_with fail
        refine (HB.out _ HT5.out.old).mono ?_; rintro e w4 ⟨rfl, hb⟩
        have HT6 := Lib.hid (HT5.out.below hb); clear hb d0 d1 d2
        cases r4 with
        | false =>
          go_wp2_with fail
          go_ret
          exact ⟨rfl, HT6.out.old⟩
        | true =>
          by_cases hlml : L.length = M.length
          · have hle : ((L.length : Int) != (M.length : Int)) = false := by simp; omega
            go_wp2_with fail
            go_loopw [40, 9, 10] (fun q _ _ wr => ∃ (k : Nat), k ≤ L.length ∧ q = .int .i64 (k : Int) ∧ Hid (∀ j, j < k → decide (L.getD j 0 < 0) = decide (M.getD j 0 < 0)) ∧ Hid (Below w.heap.size w wr)) (fun q _ _ _ => L.length - (intOf q).toNat)
            case atStart => exact ⟨0, by omega, rfl, fun j hj => by omega, HT6.out.old⟩
            case round =>
              clear HT6 HT5 HT4 HT3
              obtain ⟨k, hk, rfl, HK, HO⟩ := hrel
              by_cases hlt : k < L.length
              · have hkI : (k : Int) < (L.length : Int) := by omega
                have hkI2 : (k : Int) < (M.length : Int) := by omega
                obtain ⟨ga, oa, rfl, hga, hca⟩ := HVA.out (by omega)
                obtain ⟨gb, ob, rfl, hgb, hcb⟩ := HVB.out (by omega)
                have d1 := (HO.out.cell (p := ⟨ga, oa + k, none⟩) hga).trans (hca k hlt)
                have d2 := (HO.out.cell (p := ⟨gb, ob + k, none⟩) hgb).trans (hcb k (by omega))
                have HSK := Lib.hid (HSB.out k hlt)
                obtain ⟨x, hx⟩ : ∃ x, L.getD k 0 = x := ⟨_, rfl⟩
                obtain ⟨y, hy⟩ : ∃ x, M.getD k 0 = x := ⟨_, rfl⟩
                rw [hx] at d1 HSK
                rw [hy] at d2 HSK
                have HXY : Hid (L.getD k 0 = x ∧ M.getD k 0 = y) := ⟨hx, hy⟩
                clear hx hy hca hcb
                by_cases hx0 : x < 0
                · by_cases hy0 : y < 0
                  · go_wp2_with fail
                    go_roundw
                    case rel =>
                      refine ⟨k + 1, by omega, by go_num, fun j hj => ?_, HO⟩
                      by_cases e : j = k
                      · rw [e, HXY.out.1, HXY.out.2, decide_eq_true hx0, decide_eq_true hy0]
                      · exact HK.out j (by omega)
                    case measure => simp [intOf]; omega
                  · have HE : Hid (r5 = false) := HSK.out (by rw [decide_eq_true hx0, decide_eq_false hy0]; decide)
                    go_wp2_with fail
                    go_ret
                    exact ⟨ret_bool (by rw [HE.out]; try simp [hlml]), HO.out⟩
                · by_cases hy0 : y < 0
                  · have HE : Hid (r5 = false) := HSK.out (by rw [decide_eq_false hx0, decide_eq_true hy0]; decide)
                    go_wp2_with fail
                    go_ret
                    exact ⟨ret_bool (by rw [HE.out]; try simp [hlml]), HO.out⟩
                  · go_wp2_with fail
                    go_roundw
                    case rel =>
                      refine ⟨k + 1, by omega, by go_num, fun j hj => ?_, HO⟩
                      by_cases e : j = k
                      · rw [e, HXY.out.1, HXY.out.2, decide_eq_false hx0, decide_eq_false hy0]
                      · exact HK.out j (by omega)
                    case measure => simp [intOf]; omega
              · have HE : Hid (r5 = true) := HSG.out (fun j hj => HK.out j (by omega))
                go_wp2_with fail
                go_ret
                exact ⟨ret_bool (by rw [HE.out]; try simp [hlml]), HO.out⟩
          · have hle : ((L.length : Int) != (M.length : Int)) = true := by simp; omega
            go_wp2_with fail
            go_ret
            exact ⟨ret_bool (by simp [hlml]), HT6.out.old⟩
end Go.Proofs.YtnhlhjehocngcaaDoor

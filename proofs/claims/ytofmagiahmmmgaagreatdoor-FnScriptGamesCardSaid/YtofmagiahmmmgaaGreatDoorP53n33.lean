/- Contracts of the program's functions and what they compute: part 33. Conditions: those that each theorem states. -/
import Derived.Test.YtofmagiahmmmgaaGreatDoorP53n9
import Derived.Test.YtofmagiahmmmgaaGreatDoorP53n29
namespace Go.Proofs.YtofmagiahmmmgaaGreatDoor
open Go.RowKit
set_option linter.unusedVariables false
set_option maxRecDepth 100000
/-- What l1Shuffle leaves. -/
def Shuf (b K n : Nat) (w : World) (e : Ending) (w' : World) : Prop :=
  ∃ v L, e = .returned v ∧ L.length = n ∧ (∀ z ∈ L, z < n) ∧ NumsAt w' v L ∧ RdB w' b (K + n) ∧ w.grownBy w' (some b)
theorem nums_lo {w : World} {g cap k : Nat} {L : List Nat} (h1 : L.length ≤ cap) (h2 : cap ≤ maxLen) (hg : g < w.heap.size) (hc : ∀ j, j < L.length → w.cell? ⟨g, j, none⟩ = some (.int .i64 ((L.getD j 0 : Nat) : Int))) (hk : k ≤ L.length) : NumsAt w (.slice (some ⟨g, 0, none⟩) k cap) (L.take k) := by
  have hl : (L.take k).length = k := by rw [List.length_take]; omega
  refine .inr ⟨g, 0, cap, by rw [hl], by omega, h2, hg, fun j hj => ?_⟩
  rw [hl] at hj
  rw [Nat.zero_add, hc j (by omega)]
  have : (L.take k).getD j 0 = L.getD j 0 := by simp [hj]
  rw [this]
theorem nums_hi {w : World} {g cap k : Nat} {L : List Nat} (h1 : L.length ≤ cap) (h2 : cap ≤ maxLen) (hg : g < w.heap.size) (hc : ∀ j, j < L.length → w.cell? ⟨g, j, none⟩ = some (.int .i64 ((L.getD j 0 : Nat) : Int))) (hk : k ≤ L.length) : NumsAt w (.slice (some ⟨g, k, none⟩) (L.length - k) (cap - k)) (L.drop k) := by
  refine .inr ⟨g, k, cap - k, by rw [List.length_drop], by rw [List.length_drop]; omega, by omega, hg, fun j hj => ?_⟩
  rw [List.length_drop] at hj
  rw [hc (k + j) (by omega)]
  have : (L.drop k).getD j 0 = L.getD (k + j) 0 := by simp [List.getElem?_drop]
  rw [this]
theorem nums_hi0 {w : World} {g : Nat} (hg : g < w.heap.size) : NumsAt w (.slice (some ⟨g, 0, none⟩) 0 0) [] := .inr ⟨g, 0, 0, rfl, by simp, by decide, hg, fun j hj => absurd hj (Nat.not_lt_zero _)⟩
set_option maxHeartbeats 4000000 in
theorem l1Shuffle_any (w : World) (b K n : Nat) (h : RdB w b K) (hk : K < 1000000000000) (hn : n ≤ 8) :
    Calls Tryz.prog 37 #[.pointer (some ⟨b, 0, none⟩), .int .i64 (n : Int)] w (Shuf b K n w) := by
  have H := Lib.hid h
  have hbw := h.block
  have HBW := Lib.hid hbw
  clear h hbw
  have H0 : Hid (Own w.heap.size (w.alloc (.cells #[] 3)) (.slice (some ⟨w.heap.size, 0, none⟩) 0 0) []) := Own.lit0 _ w (Nat.le_refl _)
  go_enter Tryz.func37, Tryz.ntmps37
  go_wp2_with fail
  go_loopw [5, 6] (fun p q wr => ∃ i : Nat, i ≤ n ∧ q = .int .i64 (i : Int) ∧ ∃ L : List Nat, Hid (L.length = i ∧ (∀ z ∈ L, z < n) ∧ Own w.heap.size wr p L ∧ RdB wr b (K + i) ∧ w.grownBy wr (some b))) (fun _ q _ => n - (intOf q).toNat)
  case atStart => exact ⟨0, by omega, rfl, [], rfl, (fun z hz => by cases hz), H0.out, H.out.grown (grown_alloc w _), (grown_alloc w _).but _⟩
  case round =>
    clear H0
    obtain ⟨i, hi, rfl, L, HL⟩ := hrel
    by_cases hlt : i < n
    · have hltI : (i : Int) < (n : Int) := by omega
      obtain ⟨g, cap, rfl, hBg, hg, hc1, hc2, hc⟩ := HL.out.2.2.1.cells
      have hll : L.length = i := HL.out.1
      have HLL := Lib.hid hll
      rw [hll]
      rw [hll] at hc1
      have HC := Lib.hid hc
      clear hc hll
      unfold maxLen at hc2
      go_wp2_with fail
      refine (pickB _ b (K + i) _ HL.out.2.2.2.1 (by omega) (by omega) (by omega)).mono ?_; rintro e w4 ⟨kz, rfl, k0, k1, hr, hgr⟩
      obtain ⟨k, rfl⟩ := Int.eq_ofNat_of_zero_le k0
      have hki : k ≤ i := by omega
      have HR4 := Lib.hid hr
      have HG4 := Lib.hid (HL.out.2.2.2.2.trans hgr)
      have hgb : g ≠ b := by have := HBW.out; omega
      have HG := Lib.hid (show g < w4.heap.size from Nat.lt_of_lt_of_le hg hgr.size)
      have HC4 : Hid (∀ j, j < L.length → w4.cell? ⟨g, j, none⟩ = some (.int .i64 ((L.getD j 0 : Nat) : Int))) := fun j hj => hgr.cell (HC.out j hj) (by intro e; injection e with e; exact hgb e)
      clear hr hgr k0 k1
      have hcm : cap ≤ maxLen := hc2
      have HNT : Hid (NumsAt w4 (.slice (some ⟨g, 0, none⟩) k cap) (L.take k)) := nums_lo (by rw [HLL.out]; exact hc1) hcm HG.out HC4.out (by rw [HLL.out]; exact hki)
      have HL1 : Hid (Hid (([] ++ L.take k).length + [i].length ≤ 2000000)) := by have := HLL.out; show _ ≤ _; simp; omega
      have HL2 : Hid (Hid (([] ++ L.take k ++ [i]).length + (L.drop k).length ≤ 2000000)) := by have := HLL.out; show _ ≤ _; simp; omega
      have HL0 : Hid (Hid (([] : List Nat).length + (L.take k).length ≤ 2000000)) := by have := HLL.out; show _ ≤ _; simp; omega
      have HFIN : Hid (([] ++ L.take k ++ [i] ++ L.drop k).length = i + 1 ∧ ∀ z ∈ [] ++ L.take k ++ [i] ++ L.drop k, z < n) := by
        refine ⟨by have := HLL.out; simp; omega, fun z hz => ?_⟩
        simp only [List.nil_append, List.mem_append, List.mem_singleton] at hz
        rcases hz with (hz | hz) | hz
        · exact HL.out.2.1 z (List.mem_of_mem_take hz)
        · omega
        · exact HL.out.2.1 z (List.mem_of_mem_drop hz)
      have s1 : (0 : Int) ≤ (k : Int) := by omega
      have s2 : (k : Int) ≤ (cap : Int) := by omega
      have s3 : (k : Int) ≤ (i : Int) := by omega
      have s4 : k ≤ cap := by omega
      have hwL := HG4.out.size
      by_cases hck : cap = k
      · have hik : i = k := by omega
        have HND : Hid (NumsAt w4 (.slice (some ⟨g, 0, none⟩) 0 0) (L.drop k)) := by rw [List.drop_eq_nil_of_le (by rw [HLL.out]; omega)]; exact nums_hi0 HG.out
        subst hik
        have hck2 : i = cap := hck.symm
        subst hck2
        clear hck
        go_wp2_with fail
        go_region_law ((first | (refine step_ownAll (w := ((w4.alloc (.cells #[] 3)).alloc (.cells #[.int .i64 (i : Int)] 3)).drew) (show Own w4.heap.size ((w4.alloc (.cells #[] 3)).alloc (.cells #[.int .i64 (i : Int)] 3)).drew (.slice (some ⟨w4.heap.size, 0, none⟩) 0 0) [] from (Own.lit w4.heap.size w4.drew w4.heap.size (by simp) (by simp)).alloc (.cells #[.int .i64 (i : Int)] 3)) (show NumsAt ((w4.alloc (.cells #[] 3)).alloc (.cells #[.int .i64 (i : Int)] 3)).drew (.slice (some ⟨g, 0, none⟩) i i) (L.take i) from HNT.out.below (below2 w4 (.cells #[] 3) (.cells #[.int .i64 (i : Int)] 3))) HL0.out rfl (.tmp 19) (.tmp 22) rfl rfl rfl ?_; intro v1 w1 ho hg; have HO1 := Lib.hid ho; have HB1 := Lib.hid (grown_up (below2 w4 (.cells #[] 3) (.cells #[.int .i64 (i : Int)] 3)) hg (by simp) (Nat.le_refl _)); have HN1 : Hid (NumsAt w1 (.slice (some ⟨w4.heap.size + 1, 0, none⟩) 1 1) [i]) := ((show NumsAt ((w4.alloc (.cells #[] 3)).alloc (.cells #[.int .i64 (i : Int)] 3)).drew (.slice (some ⟨w4.heap.size + 1, 0, none⟩) 1 1) [i] from NumsAt.one' (w4.drew.alloc (.cells #[] 3)) i (w4.heap.size + 1) (by simp)).kept (fun k hk hl => hg.block k hl (by have e : _ = k := Option.some.inj hk; subst e; simp [Value.ownBlock])) hg.size); clear ho hg) | (refine step_ownAll (w := ((w4.alloc (.cells #[] 3)).drew.alloc (.cells #[.int .i64 (i : Int)] 3))) (show Own w4.heap.size ((w4.alloc (.cells #[] 3)).drew.alloc (.cells #[.int .i64 (i : Int)] 3)) (.slice (some ⟨w4.heap.size, 0, none⟩) 0 0) [] from (Own.lit w4.heap.size w4.drew w4.heap.size (by simp) (by simp)).alloc (.cells #[.int .i64 (i : Int)] 3)) (show NumsAt ((w4.alloc (.cells #[] 3)).drew.alloc (.cells #[.int .i64 (i : Int)] 3)) (.slice (some ⟨g, 0, none⟩) i i) (L.take i) from HNT.out.below (below2 w4 (.cells #[] 3) (.cells #[.int .i64 (i : Int)] 3))) HL0.out rfl (.tmp 19) (.tmp 22) rfl rfl rfl ?_; intro v1 w1 ho hg; have HO1 := Lib.hid ho; have HB1 := Lib.hid (grown_up (below2 w4 (.cells #[] 3) (.cells #[.int .i64 (i : Int)] 3)) hg (by simp) (Nat.le_refl _)); have HN1 : Hid (NumsAt w1 (.slice (some ⟨w4.heap.size + 1, 0, none⟩) 1 1) [i]) := ((show NumsAt ((w4.alloc (.cells #[] 3)).drew.alloc (.cells #[.int .i64 (i : Int)] 3)) (.slice (some ⟨w4.heap.size + 1, 0, none⟩) 1 1) [i] from NumsAt.one' (w4.drew.alloc (.cells #[] 3)) i (w4.heap.size + 1) (by simp)).kept (fun k hk hl => hg.block k hl (by have e : _ = k := Option.some.inj hk; subst e; simp [Value.ownBlock])) hg.size); clear ho hg) | (refine step_ownAll (w := ((w4.alloc (.cells #[.int .i64 (i : Int)] 3)).alloc (.cells #[] 3)).drew) (show Own w4.heap.size ((w4.alloc (.cells #[.int .i64 (i : Int)] 3)).alloc (.cells #[] 3)).drew (.slice (some ⟨w4.heap.size + 1, 0, none⟩) 0 0) [] from Own.lit w4.heap.size (w4.drew.alloc (.cells #[.int .i64 (i : Int)] 3)) (w4.heap.size + 1) (by simp) (by simp)) (show NumsAt ((w4.alloc (.cells #[.int .i64 (i : Int)] 3)).alloc (.cells #[] 3)).drew (.slice (some ⟨g, 0, none⟩) i i) (L.take i) from HNT.out.below (below2 w4 (.cells #[.int .i64 (i : Int)] 3) (.cells #[] 3))) HL0.out rfl (.tmp 19) (.tmp 22) rfl rfl rfl ?_; intro v1 w1 ho hg; have HO1 := Lib.hid ho; have HB1 := Lib.hid (grown_up (below2 w4 (.cells #[.int .i64 (i : Int)] 3) (.cells #[] 3)) hg (by simp) (Nat.le_refl _)); have HN1 : Hid (NumsAt w1 (.slice (some ⟨w4.heap.size, 0, none⟩) 1 1) [i]) := ((show NumsAt ((w4.alloc (.cells #[.int .i64 (i : Int)] 3)).alloc (.cells #[] 3)).drew (.slice (some ⟨w4.heap.size, 0, none⟩) 1 1) [i] from (NumsAt.one' w4.drew i w4.heap.size (by simp)).below ((Below.refl _ _).alloc (Nat.le_refl _) (.cells #[] 3))).kept (fun k hk hl => hg.block k hl (by have e : _ = k := Option.some.inj hk; subst e; simp [Value.ownBlock])) hg.size); clear ho hg) | (refine step_ownAll (w := ((w4.alloc (.cells #[.int .i64 (i : Int)] 3)).drew.alloc (.cells #[] 3))) (show Own w4.heap.size ((w4.alloc (.cells #[.int .i64 (i : Int)] 3)).drew.alloc (.cells #[] 3)) (.slice (some ⟨w4.heap.size + 1, 0, none⟩) 0 0) [] from Own.lit w4.heap.size (w4.drew.alloc (.cells #[.int .i64 (i : Int)] 3)) (w4.heap.size + 1) (by simp) (by simp)) (show NumsAt ((w4.alloc (.cells #[.int .i64 (i : Int)] 3)).drew.alloc (.cells #[] 3)) (.slice (some ⟨g, 0, none⟩) i i) (L.take i) from HNT.out.below (below2 w4 (.cells #[.int .i64 (i : Int)] 3) (.cells #[] 3))) HL0.out rfl (.tmp 19) (.tmp 22) rfl rfl rfl ?_; intro v1 w1 ho hg; have HO1 := Lib.hid ho; have HB1 := Lib.hid (grown_up (below2 w4 (.cells #[.int .i64 (i : Int)] 3) (.cells #[] 3)) hg (by simp) (Nat.le_refl _)); have HN1 : Hid (NumsAt w1 (.slice (some ⟨w4.heap.size, 0, none⟩) 1 1) [i]) := ((show NumsAt ((w4.alloc (.cells #[.int .i64 (i : Int)] 3)).drew.alloc (.cells #[] 3)) (.slice (some ⟨w4.heap.size, 0, none⟩) 1 1) [i] from (NumsAt.one' w4.drew i w4.heap.size (by simp)).below ((Below.refl _ _).alloc (Nat.le_refl _) (.cells #[] 3))).kept (fun k hk hl => hg.block k hl (by have e : _ = k := Option.some.inj hk; subst e; simp [Value.ownBlock])) hg.size); clear ho hg) | (refine step_ownAll (w := (w4.alloc (.cells #[] 3)).drew) (show Own w4.heap.size ((w4.alloc (.cells #[] 3)).drew) (.slice (some ⟨w4.heap.size, 0, none⟩) 0 0) [] from Own.lit w4.heap.size w4.drew w4.heap.size (by simp) (by simp)) (show NumsAt ((w4.alloc (.cells #[] 3)).drew) (.slice (some ⟨g, 0, none⟩) i i) (L.take i) from HNT.out.below (below1 w4 (.cells #[] 3))) HL0.out rfl (.tmp 19) (.tmp 22) rfl rfl rfl ?_; intro v1 w1 ho hg; have HO1 := Lib.hid ho; have HB1 := Lib.hid (grown_up (below1 w4 (.cells #[] 3)) hg (by simp) (Nat.le_refl _)); clear ho hg) | (refine step_ownAll (w := w1.alloc (.cells #[.int .i64 (i : Int)] 3)) (HO1.out.alloc _) (NumsAt.one w1 i) HL1.out rfl (.tmp 23) (.tmp 25) rfl rfl rfl ?_; intro v2 w2 ho hg; have HO2 := Lib.hid ho; have HB2 := Lib.hid ((HB1.out.alloc HB1.out.size _).grown hg (by have := HB1.out.size; simp; omega) (fun k hk => (HO1.out.own.lt k hk).1)); clear ho hg) | (refine step_ownAll (w := w1) HO1.out HN1.out HL1.out rfl (.tmp 23) (.tmp 25) rfl rfl rfl ?_; intro v2 w2 ho hg; have HO2 := Lib.hid ho; have HB2 := Lib.hid (HB1.out.grown hg HB1.out.size (fun k hk => (HO1.out.own.lt k hk).1)); clear ho hg) | (refine step_ownAll (w := w2) HO2.out (HND.out.below HB2.out) HL2.out rfl (.tmp 26) (.tmp 29) rfl rfl rfl ?_; intro v3 w3 ho hg; have HO3 := Lib.hid ho; have HB3 := Lib.hid (HB2.out.grown hg HB2.out.size (fun k hk => (HO2.out.own.lt k hk).1)); clear ho hg)))
        all_goals
          have HR3 := Lib.hid (HR4.out.grown (below_grown HB3.out))
          have HG3 := Lib.hid (HG4.out.trans (below_grown HB3.out))
          go_wp2_with fail
          go_roundw
          case rel => exact ⟨i + 1, by omega, by go_num, _, HFIN.out.1, HFIN.out.2, HO3.out.mono hwL, HR3.out, HG3.out⟩
          case measure => simp [intOf]; omega
      · have s5 : ¬ cap = k := hck
        have s6 : ¬ (cap : Int) = (k : Int) := by omega
        have HND : Hid (NumsAt w4 (.slice (some ⟨g, k, none⟩) (i - k) (cap - k)) (L.drop k)) := by have := nums_hi (k := k) (by rw [HLL.out]; exact hc1) hcm HG.out HC4.out (by rw [HLL.out]; exact hki); rw [HLL.out] at this; exact this
        go_wp2_with fail
        go_region_law ((first | (refine step_ownAll (w := ((w4.alloc (.cells #[] 3)).alloc (.cells #[.int .i64 (i : Int)] 3)).drew) (show Own w4.heap.size ((w4.alloc (.cells #[] 3)).alloc (.cells #[.int .i64 (i : Int)] 3)).drew (.slice (some ⟨w4.heap.size, 0, none⟩) 0 0) [] from (Own.lit w4.heap.size w4.drew w4.heap.size (by simp) (by simp)).alloc (.cells #[.int .i64 (i : Int)] 3)) (show NumsAt ((w4.alloc (.cells #[] 3)).alloc (.cells #[.int .i64 (i : Int)] 3)).drew (.slice (some ⟨g, 0, none⟩) k cap) (L.take k) from HNT.out.below (below2 w4 (.cells #[] 3) (.cells #[.int .i64 (i : Int)] 3))) HL0.out rfl (.tmp 19) (.tmp 22) rfl rfl rfl ?_; intro v1 w1 ho hg; have HO1 := Lib.hid ho; have HB1 := Lib.hid (grown_up (below2 w4 (.cells #[] 3) (.cells #[.int .i64 (i : Int)] 3)) hg (by simp) (Nat.le_refl _)); have HN1 : Hid (NumsAt w1 (.slice (some ⟨w4.heap.size + 1, 0, none⟩) 1 1) [i]) := ((show NumsAt ((w4.alloc (.cells #[] 3)).alloc (.cells #[.int .i64 (i : Int)] 3)).drew (.slice (some ⟨w4.heap.size + 1, 0, none⟩) 1 1) [i] from NumsAt.one' (w4.drew.alloc (.cells #[] 3)) i (w4.heap.size + 1) (by simp)).kept (fun k hk hl => hg.block k hl (by have e : _ = k := Option.some.inj hk; subst e; simp [Value.ownBlock])) hg.size); clear ho hg) | (refine step_ownAll (w := ((w4.alloc (.cells #[] 3)).drew.alloc (.cells #[.int .i64 (i : Int)] 3))) (show Own w4.heap.size ((w4.alloc (.cells #[] 3)).drew.alloc (.cells #[.int .i64 (i : Int)] 3)) (.slice (some ⟨w4.heap.size, 0, none⟩) 0 0) [] from (Own.lit w4.heap.size w4.drew w4.heap.size (by simp) (by simp)).alloc (.cells #[.int .i64 (i : Int)] 3)) (show NumsAt ((w4.alloc (.cells #[] 3)).drew.alloc (.cells #[.int .i64 (i : Int)] 3)) (.slice (some ⟨g, 0, none⟩) k cap) (L.take k) from HNT.out.below (below2 w4 (.cells #[] 3) (.cells #[.int .i64 (i : Int)] 3))) HL0.out rfl (.tmp 19) (.tmp 22) rfl rfl rfl ?_; intro v1 w1 ho hg; have HO1 := Lib.hid ho; have HB1 := Lib.hid (grown_up (below2 w4 (.cells #[] 3) (.cells #[.int .i64 (i : Int)] 3)) hg (by simp) (Nat.le_refl _)); have HN1 : Hid (NumsAt w1 (.slice (some ⟨w4.heap.size + 1, 0, none⟩) 1 1) [i]) := ((show NumsAt ((w4.alloc (.cells #[] 3)).drew.alloc (.cells #[.int .i64 (i : Int)] 3)) (.slice (some ⟨w4.heap.size + 1, 0, none⟩) 1 1) [i] from NumsAt.one' (w4.drew.alloc (.cells #[] 3)) i (w4.heap.size + 1) (by simp)).kept (fun k hk hl => hg.block k hl (by have e : _ = k := Option.some.inj hk; subst e; simp [Value.ownBlock])) hg.size); clear ho hg) | (refine step_ownAll (w := ((w4.alloc (.cells #[.int .i64 (i : Int)] 3)).alloc (.cells #[] 3)).drew) (show Own w4.heap.size ((w4.alloc (.cells #[.int .i64 (i : Int)] 3)).alloc (.cells #[] 3)).drew (.slice (some ⟨w4.heap.size + 1, 0, none⟩) 0 0) [] from Own.lit w4.heap.size (w4.drew.alloc (.cells #[.int .i64 (i : Int)] 3)) (w4.heap.size + 1) (by simp) (by simp)) (show NumsAt ((w4.alloc (.cells #[.int .i64 (i : Int)] 3)).alloc (.cells #[] 3)).drew (.slice (some ⟨g, 0, none⟩) k cap) (L.take k) from HNT.out.below (below2 w4 (.cells #[.int .i64 (i : Int)] 3) (.cells #[] 3))) HL0.out rfl (.tmp 19) (.tmp 22) rfl rfl rfl ?_; intro v1 w1 ho hg; have HO1 := Lib.hid ho; have HB1 := Lib.hid (grown_up (below2 w4 (.cells #[.int .i64 (i : Int)] 3) (.cells #[] 3)) hg (by simp) (Nat.le_refl _)); have HN1 : Hid (NumsAt w1 (.slice (some ⟨w4.heap.size, 0, none⟩) 1 1) [i]) := ((show NumsAt ((w4.alloc (.cells #[.int .i64 (i : Int)] 3)).alloc (.cells #[] 3)).drew (.slice (some ⟨w4.heap.size, 0, none⟩) 1 1) [i] from (NumsAt.one' w4.drew i w4.heap.size (by simp)).below ((Below.refl _ _).alloc (Nat.le_refl _) (.cells #[] 3))).kept (fun k hk hl => hg.block k hl (by have e : _ = k := Option.some.inj hk; subst e; simp [Value.ownBlock])) hg.size); clear ho hg) | (refine step_ownAll (w := ((w4.alloc (.cells #[.int .i64 (i : Int)] 3)).drew.alloc (.cells #[] 3))) (show Own w4.heap.size ((w4.alloc (.cells #[.int .i64 (i : Int)] 3)).drew.alloc (.cells #[] 3)) (.slice (some ⟨w4.heap.size + 1, 0, none⟩) 0 0) [] from Own.lit w4.heap.size (w4.drew.alloc (.cells #[.int .i64 (i : Int)] 3)) (w4.heap.size + 1) (by simp) (by simp)) (show NumsAt ((w4.alloc (.cells #[.int .i64 (i : Int)] 3)).drew.alloc (.cells #[] 3)) (.slice (some ⟨g, 0, none⟩) k cap) (L.take k) from HNT.out.below (below2 w4 (.cells #[.int .i64 (i : Int)] 3) (.cells #[] 3))) HL0.out rfl (.tmp 19) (.tmp 22) rfl rfl rfl ?_; intro v1 w1 ho hg; have HO1 := Lib.hid ho; have HB1 := Lib.hid (grown_up (below2 w4 (.cells #[.int .i64 (i : Int)] 3) (.cells #[] 3)) hg (by simp) (Nat.le_refl _)); have HN1 : Hid (NumsAt w1 (.slice (some ⟨w4.heap.size, 0, none⟩) 1 1) [i]) := ((show NumsAt ((w4.alloc (.cells #[.int .i64 (i : Int)] 3)).drew.alloc (.cells #[] 3)) (.slice (some ⟨w4.heap.size, 0, none⟩) 1 1) [i] from (NumsAt.one' w4.drew i w4.heap.size (by simp)).below ((Below.refl _ _).alloc (Nat.le_refl _) (.cells #[] 3))).kept (fun k hk hl => hg.block k hl (by have e : _ = k := Option.some.inj hk; subst e; simp [Value.ownBlock])) hg.size); clear ho hg) | (refine step_ownAll (w := (w4.alloc (.cells #[] 3)).drew) (show Own w4.heap.size ((w4.alloc (.cells #[] 3)).drew) (.slice (some ⟨w4.heap.size, 0, none⟩) 0 0) [] from Own.lit w4.heap.size w4.drew w4.heap.size (by simp) (by simp)) (show NumsAt ((w4.alloc (.cells #[] 3)).drew) (.slice (some ⟨g, 0, none⟩) k cap) (L.take k) from HNT.out.below (below1 w4 (.cells #[] 3))) HL0.out rfl (.tmp 19) (.tmp 22) rfl rfl rfl ?_; intro v1 w1 ho hg; have HO1 := Lib.hid ho; have HB1 := Lib.hid (grown_up (below1 w4 (.cells #[] 3)) hg (by simp) (Nat.le_refl _)); clear ho hg) | (refine step_ownAll (w := w1.alloc (.cells #[.int .i64 (i : Int)] 3)) (HO1.out.alloc _) (NumsAt.one w1 i) HL1.out rfl (.tmp 23) (.tmp 25) rfl rfl rfl ?_; intro v2 w2 ho hg; have HO2 := Lib.hid ho; have HB2 := Lib.hid ((HB1.out.alloc HB1.out.size _).grown hg (by have := HB1.out.size; simp; omega) (fun k hk => (HO1.out.own.lt k hk).1)); clear ho hg) | (refine step_ownAll (w := w1) HO1.out HN1.out HL1.out rfl (.tmp 23) (.tmp 25) rfl rfl rfl ?_; intro v2 w2 ho hg; have HO2 := Lib.hid ho; have HB2 := Lib.hid (HB1.out.grown hg HB1.out.size (fun k hk => (HO1.out.own.lt k hk).1)); clear ho hg) | (refine step_ownAll (w := w2) HO2.out (HND.out.below HB2.out) HL2.out rfl (.tmp 26) (.tmp 29) rfl rfl rfl ?_; intro v3 w3 ho hg; have HO3 := Lib.hid ho; have HB3 := Lib.hid (HB2.out.grown hg HB2.out.size (fun k hk => (HO2.out.own.lt k hk).1)); clear ho hg)))
        all_goals
          have HR3 := Lib.hid (HR4.out.grown (below_grown HB3.out))
          have HG3 := Lib.hid (HG4.out.trans (below_grown HB3.out))
          go_wp2_with fail
          go_roundw
          case rel => exact ⟨i + 1, by omega, by go_num, _, HFIN.out.1, HFIN.out.2, HO3.out.mono hwL, HR3.out, HG3.out⟩
          case measure => simp [intOf]; omega
    · have hltI : ¬ (i : Int) < (n : Int) := by omega
      have hin : i = n := by omega
      subst hin
      obtain ⟨L1, L2, L3, L4, L5⟩ := HL.out
      have HP : Hid (∀ v, Own w.heap.size wr v L → Shuf b K i w (.returned v) wr) := fun v hv => ⟨_, L, rfl, L1, L2, hv.nums, L4, L5⟩
      have HP2 := Lib.hid (HP.out _ L3)
      clear HP
      clear HL L1 L2 L3 L4 L5
      go_wp2_with fail
      go_ret
      exact HP2.out
end Go.Proofs.YtofmagiahmmmgaaGreatDoor

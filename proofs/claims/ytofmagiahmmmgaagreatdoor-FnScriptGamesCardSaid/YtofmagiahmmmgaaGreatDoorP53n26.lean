/- Contracts of the program's functions and what they compute: part 26. Conditions: those that each theorem states. -/
import Derived.Test.YtofmagiahmmmgaaGreatDoorP53n25
namespace Go.Proofs.YtofmagiahmmmgaaGreatDoor
open Go.RowKit
set_option linter.unusedVariables false
set_option maxRecDepth 100000
/-- The texts of what can be so of two elements. -/
def ftI (i k : Nat) : List ByteArray := [⟨#[61]⟩ ++ vnB k ++ vnB i, ⟨#[69]⟩ ++ vnB k ++ vnB i, ⟨#[69]⟩ ++ vnB i ++ vnB k]
def ftIs (i : Nat) : Nat → List ByteArray
  | 0 => []
  | k + 1 => ftIs i k ++ ftI i k
def ftO : Nat → List ByteArray
  | 0 => []
  | i + 1 => ftO i ++ [⟨#[80]⟩ ++ vnB i, ⟨#[69]⟩ ++ vnB i ++ vnB i] ++ ftIs i i
/-- Whether it is so. -/
def fbI (a : Gs.St) (L : List Nat) (i k : Nat) : List Bool := [decide (L.getD i 0 = L.getD k 0), a.r (L.getD k 0) (L.getD i 0), a.r (L.getD i 0) (L.getD k 0)]
def fbIs (a : Gs.St) (L : List Nat) (i : Nat) : Nat → List Bool
  | 0 => []
  | k + 1 => fbIs a L i k ++ fbI a L i k
def fbO (a : Gs.St) (L : List Nat) : Nat → List Bool
  | 0 => []
  | i + 1 => fbO a L i ++ [a.s (L.getD i 0), a.r (L.getD i 0) (L.getD i 0)] ++ fbIs a L i i
theorem ftIs_len (i : Nat) : ∀ k, (ftIs i k).length = 3 * k
  | 0 => rfl
  | k + 1 => by rw [ftIs, List.length_append, ftIs_len i k]; show _ + 3 = _; omega
theorem fbIs_len (a : Gs.St) (L : List Nat) (i : Nat) : ∀ k, (fbIs a L i k).length = 3 * k
  | 0 => rfl
  | k + 1 => by rw [fbIs, List.length_append, fbIs_len a L i k]; show _ + 3 = _; omega
theorem ftO_len : ∀ i, i ≤ 4 → (ftO i).length ≤ 14 * i
  | 0, _ => Nat.le_refl _
  | i + 1, h => by
    have := ftO_len i (by omega)
    rw [ftO, List.length_append, List.length_append, ftIs_len]
    show _ + 2 + _ ≤ _
    omega
theorem fbO_len (a : Gs.St) (L : List Nat) : ∀ i, (fbO a L i).length = (ftO i).length
  | 0 => rfl
  | i + 1 => by
    rw [ftO, fbO, List.length_append, List.length_append, List.length_append, List.length_append, ftIs_len, fbIs_len, fbO_len a L i]
    rfl
set_option maxHeartbeats 4000000 in
theorem factsOf_any (n : Nat) (S R : ByteArray) (L : List Nat) (v : Value) (w : World) (hn : n ≤ 8) (hS : S.size = n) (hR : R.size = n * n) (hl : L.length ≤ 3) (hL : ∀ j, j < L.length → L.getD j 0 < n) (hv : NumsAt w v L) :
    Calls Tryz.prog 93 #[strV n S R, v] w fun e w' => (∃ v1 v2, e = .returned (.tuple #[v1, v2]) ∧ TextsAt w' v1 (ftO L.length) ∧ OwnL w.heap.size w' v2 (fbO (stOf n S R) L L.length)) ∧ Below w.heap.size w w' := by
  have HIS := Lib.hid (fun x w (hx : x < n) => inSet_b n S R x w (by omega) (by omega))
  have HIR := Lib.hid (fun x y w (hx : x < n) (hy : y < n) => inRel_b n S R x y w hx hy hn hR)
  have HNM : Hid (∀ (i : Nat) (w : World), i < 4 → Calls Tryz.prog 52 #[.int .i64 (i : Int)] w fun e w' => e = .returned (.string (vnB i)) ∧ w = w') := fun i w h => nameOf_any i w h
  have HB := Lib.hid (boxS_SBlk w n S R)
  have HBo := Lib.hid (boxS_below w n S R)
  have hbs : (boxS w n S R).heap.size = w.heap.size + 1 := by simp [boxS]
  have HBS := Lib.hid hbs
  have HLT := Lib.hid hL
  obtain ⟨a, cap, rfl, h1, h2, h3⟩ := hv.view
  have HV := Lib.hid h3
  obtain ⟨W0, hW0⟩ : ∃ W0, boxS w n S R = W0 := ⟨_, rfl⟩
  rw [hW0] at HB HBo HBS
  have HW0 := Lib.hid hW0
  unfold boxS at HW0
  unfold maxLen at h2
  clear hW0 h3 hv hL hbs
  unfold strV at HIS HIR
  have HBat : Hid (∀ W, Below W0.heap.size W0 W → SBlk W w.heap.size n S R) := fun W h => HB.out.below h HB.out.cells.2.2.2.2.2.2
  have HFA := Lib.hid (fun p T B s c w h hT hB => fact_any W0 p T B s c w h hT hB)
  obtain ⟨p, hp⟩ : ∃ p, w.heap.size + 1 + 1 + 1 = p := ⟨_, rfl⟩
  have HP0 : Hid (Fx W0 ((((W0.alloc (.cells #[] 9)).alloc (.cells #[] 4)).alloc (.cells #[.slice (some ⟨w.heap.size + 1, 0, none⟩) 0 0] 59)).alloc (.cells #[.slice (some ⟨w.heap.size + 1 + 1, 0, none⟩) 0 0] 54)) p [] []) := by
    have e1 := HBS.out
    have e2 : (W0.alloc (.cells #[] 9)).heap.size = w.heap.size + 1 + 1 := by simp [e1]
    have e3 : ((W0.alloc (.cells #[] 9)).alloc (.cells #[] 4)).heap.size = p := by simp [e1, ← hp]
    have e4 : (((W0.alloc (.cells #[] 9)).alloc (.cells #[] 4)).alloc (.cells #[.slice (some ⟨w.heap.size + 1, 0, none⟩) 0 0] 59)).heap.size = p + 1 := by simp [e1, ← hp]
    refine ⟨⟨_, (((OwnS.lit W0.heap.size W0 (w.heap.size + 1) e1 (Nat.le_refl _)).alloc _).alloc _).alloc _, ?_⟩, ⟨.slice (some ⟨w.heap.size + 1 + 1, 0, none⟩) 0 0, ?_, ?_⟩, ?_, by omega⟩
    · have := (Boxed.new ((W0.alloc (.cells #[] 9)).alloc (.cells #[] 4)) 59 (.slice (some ⟨w.heap.size + 1, 0, none⟩) 0 0)).alloc (.cells #[.slice (some ⟨w.heap.size + 1 + 1, 0, none⟩) 0 0] 54)
      rw [e3] at this
      exact this
    · have := OwnL.lit0 W0.heap.size (W0.alloc (.cells #[] 9)) (by simp)
      rw [e2] at this
      exact (this.below ((Below.refl _ _).alloc (Nat.le_refl _) _)).below ((Below.refl _ _).alloc (Nat.le_refl _) _)
    · have := Boxed.new (((W0.alloc (.cells #[] 9)).alloc (.cells #[] 4)).alloc (.cells #[.slice (some ⟨w.heap.size + 1, 0, none⟩) 0 0] 59)) 54 (.slice (some ⟨w.heap.size + 1 + 1, 0, none⟩) 0 0)
      rw [e4] at this
      exact this
    · exact ((((Below.refl _ _).alloc (Nat.le_refl _) _).alloc (by simp) _).alloc (by simp; omega) _).alloc (by simp; omega) _
  unfold strV
  go_enter Tryz.func93, Tryz.ntmps93
  go_upto_region 2 with fail
  rw [HW0.out]
  clear HW0 HBS hp HB
  go_wp2_with fail
  go_loopw [20, 9, 10, 11, 12, 13, 14] (fun q _ _ _ _ _ _ wr => ∃ i : Nat, i ≤ L.length ∧ q = .int .i64 (i : Int) ∧ Hid (Fx W0 wr p (ftO i) (fbO (stOf n S R) L i))) (fun q _ _ _ _ _ _ _ => L.length - (intOf q).toNat)
  case atStart => exact ⟨0, by omega, rfl, HP0⟩
  case round =>
    clear HP0
    obtain ⟨i, hi, rfl, HP⟩ := hrel
    by_cases hlt : i < L.length
    · obtain ⟨g, o, rfl, hg, hc⟩ := HV.out (by omega)
      have hiI : (i : Int) < (L.length : Int) := by omega
      have hi4 : (i : Int) < 4 := by omega
      have hil := ftO_len i (by omega)
      have HT1 : Hid ((ftO i).length ≤ 42) := by show _ ≤ _; omega
      have HB1 : Hid ((fbO (stOf n S R) L i).length ≤ 42) := by show _ ≤ _; rw [fbO_len]; exact HT1.out
      have HGL : Hid (∀ W, Below W0.heap.size W0 W → ∀ j, j < L.length → W.cell? ⟨g, o + j, none⟩ = some (.int .i64 ((L.getD j 0 : Nat) : Int))) := fun W h j hj => ((HBo.out.trans (h.mono HBo.out.size)).cell (p := ⟨g, o + j, none⟩) hg).trans (hc j hj)
      have e1 := HGL.out wr HP.out.old i hlt
      have hx := HLT.out i hlt
      have HLX : Hid (L.getD i 0 = L.getD i 0) := rfl
      obtain ⟨x, hxe⟩ : ∃ x, L.getD i 0 = x := ⟨_, rfl⟩
      have HXE := Lib.hid hxe
      rw [hxe] at e1 hx
      clear hc hil HLX hxe
      go_wp2_with fail
      refine (HNM.out i _ (by omega)).mono ?_; rintro e w1 ⟨rfl, hw1⟩; rw [← hw1]; clear hw1 w1
      obtain ⟨vi, hvi⟩ : ∃ vi, vnB i = vi := ⟨_, rfl⟩
      have HVI := Lib.hid hvi
      have HVS : Hid (vi.size = 1) := by rw [← hvi]; rfl
      rw [hvi]
      clear hvi
      have hz1 : ¬ 9223372036854775807 < (⟨#[80]⟩ : ByteArray).size + vi.size := by show ¬ _ < 1 + vi.size; have := HVS.out; omega
      have hz2 : ¬ 9223372036854775807 < (⟨#[69]⟩ : ByteArray).size + vi.size := by show ¬ _ < 1 + vi.size; have := HVS.out; omega
      have hz3 : ¬ 9223372036854775807 < (⟨#[69]⟩ ++ vi : ByteArray).size + vi.size := by rw [ByteArray.size_append]; show ¬ _ < 1 + vi.size + vi.size; have := HVS.out; omega
      obtain ⟨s0, s1, s2, _, _, _, _⟩ := (HBat.out wr HP.out.old).cells
      go_wp2_with fail
      refine (HIS.out x _ hx).mono ?_; rintro e w2 ⟨rfl, hb⟩
      have HP1 := Lib.hid (HP.out.below hb)
      clear hb s0 s1 s2 e1 HP
      go_wp2_with fail
      refine (HFA.out p _ _ _ _ w2 HP1.out (by have := HT1.out; omega) (by have := HB1.out; omega)).mono ?_; rintro e w3 ⟨rfl, hf⟩
      have HP2 := Lib.hid hf
      clear hf HP1
      obtain ⟨s0, s1, s2, _, _, _, _⟩ := (HBat.out w3 HP2.out.old).cells
      go_wp2_with fail
      refine (HIR.out x x _ hx hx).mono ?_; rintro e w4 ⟨rfl, hb⟩
      have HP3 := Lib.hid (HP2.out.below hb)
      clear hb s0 s1 s2 HP2
      go_wp2_with fail
      refine (HFA.out p _ _ _ _ w4 HP3.out (by have := HT1.out; simp; omega) (by have := HB1.out; simp; omega)).mono ?_; rintro e w5 ⟨rfl, hf⟩
      have HP4 : Hid (Fx W0 w5 p (ftO i ++ [⟨#[80]⟩ ++ vnB i, ⟨#[69]⟩ ++ vnB i ++ vnB i] ++ ftIs i 0) (fbO (stOf n S R) L i ++ [(stOf n S R).s (L.getD i 0), (stOf n S R).r (L.getD i 0) (L.getD i 0)] ++ fbIs (stOf n S R) L i 0)) := by
        rw [HVI.out, HXE.out]
        show Fx W0 w5 p (ftO i ++ [⟨#[80]⟩ ++ vi, ⟨#[69]⟩ ++ vi ++ vi] ++ []) (fbO (stOf n S R) L i ++ [oneAt S x, relAt n R x x] ++ [])
        simpa using hf
      clear hf HP3
      have hicI : (i : Int) ≤ (cap : Int) := by omega
      go_wp2_with fail
      go_loopw [50, 12, 13, 14] (fun q _ _ _ wr => ∃ k : Nat, k ≤ i ∧ q = .int .i64 (k : Int) ∧ Hid (Fx W0 wr p (ftO i ++ [⟨#[80]⟩ ++ vnB i, ⟨#[69]⟩ ++ vnB i ++ vnB i] ++ ftIs i k) (fbO (stOf n S R) L i ++ [(stOf n S R).s (L.getD i 0), (stOf n S R).r (L.getD i 0) (L.getD i 0)] ++ fbIs (stOf n S R) L i k))) (fun q _ _ _ _ => i - (intOf q).toNat)
      case atStart => exact ⟨0, by omega, rfl, HP4.out⟩
      case round =>
        clear HP4
        obtain ⟨k, hk, rfl, HP⟩ := hrel
        by_cases hlt2 : k < i
        · have hkI : (k : Int) < (i : Int) := by omega
          have hk4 : (k : Int) < 4 := by omega
          have e1 := HGL.out wr HP.out.old k (by omega)
          have hy := HLT.out k (by omega)
          obtain ⟨y, hye⟩ : ∃ y, L.getD k 0 = y := ⟨_, rfl⟩
          have HYE := Lib.hid hye
          rw [hye] at e1 hy
          clear hye
          obtain ⟨T, hT⟩ : ∃ T, ftO i ++ [⟨#[80]⟩ ++ vnB i, ⟨#[69]⟩ ++ vnB i ++ vnB i] ++ ftIs i k = T := ⟨_, rfl⟩
          obtain ⟨B, hB⟩ : ∃ B, fbO (stOf n S R) L i ++ [(stOf n S R).s (L.getD i 0), (stOf n S R).r (L.getD i 0) (L.getD i 0)] ++ fbIs (stOf n S R) L i k = B := ⟨_, rfl⟩
          have HTL : Hid (T.length ≤ 100) := by show _ ≤ _; rw [← hT, List.length_append, List.length_append, ftIs_len]; have := HT1.out; simp; omega
          have HBL : Hid (B.length ≤ 100) := by show _ ≤ _; rw [← hB, List.length_append, List.length_append, fbIs_len]; have := HB1.out; simp; omega
          have HTE := Lib.hid hT
          have HBE := Lib.hid hB
          rw [hT, hB] at HP
          clear hT hB
          go_wp2_with fail
          refine (HNM.out k _ (by omega)).mono ?_; rintro e w1 ⟨rfl, hw1⟩; rw [← hw1]; clear hw1 w1
          obtain ⟨vk, hvk⟩ : ∃ vk, vnB k = vk := ⟨_, rfl⟩
          have HVK := Lib.hid hvk
          have HKS : Hid (vk.size = 1) := by rw [← hvk]; rfl
          rw [hvk]
          clear hvk
          have hz4 : ¬ 9223372036854775807 < (⟨#[61]⟩ : ByteArray).size + vk.size := by show ¬ _ < 1 + vk.size; have := HKS.out; omega
          have hz5 : ¬ 9223372036854775807 < (⟨#[69]⟩ : ByteArray).size + vk.size := by show ¬ _ < 1 + vk.size; have := HKS.out; omega
          have hz6 : ¬ 9223372036854775807 < (⟨#[61]⟩ ++ vk : ByteArray).size + vi.size := by rw [ByteArray.size_append]; show ¬ _ < 1 + vk.size + vi.size; have := HVS.out; have := HKS.out; omega
          have hz7 : ¬ 9223372036854775807 < (⟨#[69]⟩ ++ vk : ByteArray).size + vi.size := by rw [ByteArray.size_append]; show ¬ _ < 1 + vk.size + vi.size; have := HVS.out; have := HKS.out; omega
          have hz8 : ¬ 9223372036854775807 < (⟨#[69]⟩ ++ vi : ByteArray).size + vk.size := by rw [ByteArray.size_append]; show ¬ _ < 1 + vi.size + vk.size; have := HVS.out; have := HKS.out; omega
          go_wp2_with fail
          refine (HFA.out p _ _ _ _ _ HP.out (by have := HTL.out; omega) (by have := HBL.out; omega)).mono ?_; rintro e w3 ⟨rfl, hf⟩
          have HP2 := Lib.hid hf
          clear hf HP
          obtain ⟨s0, s1, s2, _, _, _, _⟩ := (HBat.out w3 HP2.out.old).cells
          go_wp2_with fail
          refine (HIR.out y x _ hy hx).mono ?_; rintro e w4 ⟨rfl, hb⟩
          have HP3 := Lib.hid (HP2.out.below hb)
          clear hb s0 s1 s2 HP2
          go_wp2_with fail
          refine (HFA.out p _ _ _ _ w4 HP3.out (by have := HTL.out; simp; omega) (by have := HBL.out; simp; omega)).mono ?_; rintro e w5 ⟨rfl, hf⟩
          have HP4 := Lib.hid hf
          clear hf HP3
          obtain ⟨s0, s1, s2, _, _, _, _⟩ := (HBat.out w5 HP4.out.old).cells
          go_wp2_with fail
          refine (HIR.out x y _ hx hy).mono ?_; rintro e w6 ⟨rfl, hb⟩
          have HP5 := Lib.hid (HP4.out.below hb)
          clear hb s0 s1 s2 HP4
          go_wp2_with fail
          refine (HFA.out p _ _ _ _ w6 HP5.out (by have := HTL.out; simp; omega) (by have := HBL.out; simp; omega)).mono ?_; rintro e w7 ⟨rfl, hf⟩
          have HP6 : Hid (Fx W0 w7 p (ftO i ++ [⟨#[80]⟩ ++ vnB i, ⟨#[69]⟩ ++ vnB i ++ vnB i] ++ ftIs i (k + 1)) (fbO (stOf n S R) L i ++ [(stOf n S R).s (L.getD i 0), (stOf n S R).r (L.getD i 0) (L.getD i 0)] ++ fbIs (stOf n S R) L i (k + 1))) := by
            have e2 : ftO i ++ [⟨#[80]⟩ ++ vnB i, ⟨#[69]⟩ ++ vnB i ++ vnB i] ++ ftIs i (k + 1) = T ++ ftI i k := by rw [← HTE.out, ftIs, ← List.append_assoc]
            have e3 : fbO (stOf n S R) L i ++ [(stOf n S R).s (L.getD i 0), (stOf n S R).r (L.getD i 0) (L.getD i 0)] ++ fbIs (stOf n S R) L i (k + 1) = B ++ fbI (stOf n S R) L i k := by rw [← HBE.out, fbIs, ← List.append_assoc]
            show Fx _ _ _ _ _
            have e4 : ((x : Int) == (y : Int)) = decide (x = y) := by
              rw [Bool.eq_iff_iff, beq_iff_eq, decide_eq_true_eq]
              omega
            rw [e2, e3, ftI, fbI, HVI.out, HVK.out, HXE.out, HYE.out, ← e4]
            show Fx W0 w7 p _ (B ++ [(x : Int) == (y : Int), relAt n R y x, relAt n R x y])
            simpa using hf
          clear hf HP5
          go_wp2_with fail
          go_roundw
          case rel => exact ⟨k + 1, by omega, by go_num, HP6.out⟩
          case measure => simp [intOf]; omega
        · obtain rfl : k = i := by omega
          go_wp2_with fail
          go_roundw
          case rel => exact ⟨k + 1, by omega, by go_num, HP.out⟩
          case measure => simp [intOf]; omega
    · obtain rfl : i = L.length := by omega
      obtain ⟨⟨v1, ht, bt⟩, ⟨v2, hb, bb⟩, _, _⟩ := HP.out
      have HT := Lib.hid ht
      have HB := Lib.hid hb
      have d1 := bt.cell
      have d2 := bb.cell
      clear ht hb bt bb
      go_wp2_with fail
      have f0 := fun s => Since.cell d1 s
      have f1 := fun s => Since.cell d2 s
      refine wp_region_since (by kernel_rfl) (by kernel_rfl) ?_
      repeat (go_big_quiet_step (fail))
      refine wpQuiet_nil ?_
      intro w1 hb1
      have HO := HBo.out.trans (HP.out.old.mono HBo.out.size)
      have HO1 := HO.trans (hb1.mono HO.size)
      go_wp2_with fail
      go_ret2
      exact ⟨⟨v1, v2, rfl, (HT.out.below hb1).texts, (HB.out.below hb1).monoL HBo.out.size⟩, HO1⟩
end Go.Proofs.YtofmagiahmmmgaaGreatDoor

namespace Go.Proofs.YtofmagiahmmmgaaGreatDoor
open Go.RowKit
set_option linter.unusedVariables false
set_option maxRecDepth 100000
def ffO (a : Gs.St) (la : List Nat) (b : Gs.St) (lb : List Nat) (j : Nat) : Option ByteArray :=
  if (fbO a la la.length).getD j false != (fbO b lb lb.length).getD j false then some (sgB ((ftO la.length).getD j ByteArray.empty) ((fbO a la la.length).getD j false)) else none
/-- The first fact that is so of the one and not of the other. -/
def ffB (a : Gs.St) (la : List Nat) (b : Gs.St) (lb : List Nat) : ByteArray := (fsO (ffO a la b lb) (ftO la.length).length).getD ByteArray.empty
theorem vnB_size (i : Nat) : (vnB i).size = 1 := rfl
theorem ftIs_size {i : Nat} {f : ByteArray} : ∀ {k : Nat}, f ∈ ftIs i k → f.size ≤ 3
  | 0, h => by cases h
  | k + 1, h => by
    rw [ftIs] at h
    rcases List.mem_append.1 h with h | h
    · exact ftIs_size h
    · unfold ftI at h
      rcases List.mem_cons.1 h with rfl | h
      · rw [ByteArray.size_append, ByteArray.size_append, vnB_size, vnB_size]; decide
      rcases List.mem_cons.1 h with rfl | h
      · rw [ByteArray.size_append, ByteArray.size_append, vnB_size, vnB_size]; decide
      rcases List.mem_cons.1 h with rfl | h
      · rw [ByteArray.size_append, ByteArray.size_append, vnB_size, vnB_size]; decide
      · cases h
theorem ftO_size {f : ByteArray} : ∀ {i : Nat}, f ∈ ftO i → f.size ≤ 3
  | 0, h => by cases h
  | i + 1, h => by
    rw [ftO] at h
    rcases List.mem_append.1 h with h | h
    · rcases List.mem_append.1 h with h | h
      · exact ftO_size h
      · rcases List.mem_cons.1 h with rfl | h
        · rw [ByteArray.size_append, vnB_size]; decide
        rcases List.mem_cons.1 h with rfl | h
        · rw [ByteArray.size_append, ByteArray.size_append, vnB_size]; decide
        · cases h
    · exact ftIs_size h
theorem ftO_at (i j : Nat) : ((ftO i).getD j ByteArray.empty).size ≤ 3 := by
  rw [List.getD_eq_getElem?_getD]
  cases h : (ftO i)[j]? with
  | none => exact Nat.zero_le _
  | some f => exact ftO_size (List.mem_of_getElem? h)
theorem ffB_size (a : Gs.St) (la : List Nat) (b : Gs.St) (lb : List Nat) : (ffB a la b lb).size ≤ 4 := by
  unfold ffB
  cases h : fsO (ffO a la b lb) (ftO la.length).length with
  | none => exact Nat.zero_le _
  | some s =>
    obtain ⟨j, _, hj, _⟩ := fsO_some h
    unfold ffO at hj
    split at hj
    · injection hj with hj
      subst hj
      have := ftO_at la.length j
      have := sgB_size ((ftO la.length).getD j ByteArray.empty) ((fbO a la la.length).getD j false)
      show (sgB _ _).size ≤ 4
      omega
    · cases hj
/-- What factsOf leaves. -/
def FactsP (T : List ByteArray) (A : List Bool) (w : World) (e : Ending) (w' : World) : Prop :=
  (∃ v1 v2, e = .returned (.tuple #[v1, v2]) ∧ TextsAt w' v1 T ∧ OwnL w.heap.size w' v2 A) ∧ Below w.heap.size w w'
set_option maxHeartbeats 2000000 in
theorem firstFact_core (n : Nat) (S R : ByteArray) (m : Nat) (S2 R2 : ByteArray) (a2 a4 : Option Addr) (q1 q2 q3 q4 : Nat) (w : World) (T : List ByteArray) (A B : List Bool) (F : Nat → Option ByteArray) (N : Nat)
    (HN : Hid (T.length = N)) (HA : Hid (A.length = N)) (HB : Hid (B.length = N)) (hN : N ≤ 42) (HTS : Hid (∀ j, (T.getD j ByteArray.empty).size ≤ 3))
    (HF1 : Hid (∀ w', Below w.heap.size w w' → Calls Tryz.prog 93 #[strV n S R, .slice a2 q1 q2] w' (FactsP T A w')))
    (HF2 : Hid (∀ w', Below w.heap.size w w' → Calls Tryz.prog 93 #[strV m S2 R2, .slice a4 q3 q4] w' (FactsP T B w')))
    (HFE : Hid (∀ j, F j = if A.getD j false != B.getD j false then some (sgB (T.getD j ByteArray.empty) (A.getD j false)) else none)) :
    Calls Tryz.prog 48 #[strV n S R, .slice a2 q1 q2, strV m S2 R2, .slice a4 q3 q4] w fun e w' => e = .returned (.string ((fsO F N).getD ByteArray.empty)) ∧ Below w.heap.size w w' := by
  have HT := Lib.hid (Two.new w n S R m S2 R2)
  unfold boxS at HT
  have HSG := Lib.hid (fun s is w hs => signed_any s is w hs)
  unfold strV at HF1 HF2
  obtain ⟨c0, c1, c2, f0, f1, f2, hl1⟩ := HT.out.a.cells
  unfold strV
  go_enter Tryz.func48, Tryz.ntmps48
  go_wp2_with fail
  refine (HF1.out _ HT.out.old).mono ?_; rintro e w1 ⟨⟨v1, v2, rfl, ht1, hb1⟩, hb⟩
  have HT3 := Lib.hid (HT.out.below hb); clear hb c0 c1 c2 f0 f1 f2 hl1
  have HX1 := Lib.hid ht1
  have HX2 := Lib.hid hb1
  clear ht1 hb1
  obtain ⟨d0, d1, d2, g0, g1, g2, hl2⟩ := HT3.out.b.cells
  go_wp2_with fail
  refine (HF2.out _ HT3.out.old).mono ?_; rintro e w2 ⟨⟨x1, x2, rfl, ht1, hb1⟩, hb⟩
  have HT4 := Lib.hid (HT3.out.below hb)
  have HX3 := Lib.hid (HX1.out.below hb)
  have HX4 := Lib.hid (HX2.out.below hb)
  have HX5 := Lib.hid hb1
  clear hb d0 d1 d2 g0 g1 g2 hl2 ht1 hb1 HX1 HX2 HT3 HF1 HF2
  obtain ⟨at', ct, hv1, t1, t2, t3⟩ := HX3.out.view
  have HTC := Lib.hid t3
  unfold maxLen at t2
  rw [HN.out] at hv1 t1
  subst hv1
  clear t3
  go_wp2_with fail
  go_loopw [29, 13, 14] (fun q _ _ wr => ∃ j : Nat, j ≤ N ∧ q = .int .i64 (j : Int) ∧ Hid (fsO F j = none) ∧ Hid (Below w2.heap.size w2 wr)) (fun q _ _ _ => N - (intOf q).toNat)
  case atStart => exact ⟨0, by omega, rfl, rfl, Below.refl _ _⟩
  case round =>
    obtain ⟨j, hj, rfl, HNO, HBW⟩ := hrel
    have HT6 := Lib.hid (HT4.out.below HBW.out)
    by_cases hlt : j < N
    · have hjI : (j : Int) < (N : Int) := by omega
      obtain ⟨gt, ot, rfl, kt, hct⟩ := HTC.out (by rw [HN.out]; omega)
      obtain ⟨ga, qa, hva, _, ka, qa1, qa2, hca, _⟩ := HX4.out.cells (by rw [HA.out]; omega)
      obtain ⟨gb, qb, hvb, _, kb, qb1, qb2, hcb, _⟩ := HX5.out.cells (by rw [HB.out]; omega)
      have e0 := (HBW.out.cell (p := ⟨gt, ot + j, none⟩) kt).trans (hct j (by rw [HN.out]; omega))
      have e1 := (HBW.out.cell (p := ⟨ga, j, none⟩) ka).trans (hca j (by rw [HA.out]; omega))
      have e2 := (HBW.out.cell (p := ⟨gb, j, none⟩) kb).trans (hcb j (by rw [HB.out]; omega))
      rw [HA.out] at hva qa1
      rw [HB.out] at hvb qb1
      subst hva
      subst hvb
      unfold maxLen at qa2 qb2
      have HFJ := Lib.hid (HFE.out j)
      have hsz := HTS.out j
      have HCA := Lib.hid hca
      clear hct hca hcb
      obtain ⟨x, hx⟩ : ∃ x, T.getD j ByteArray.empty = x := ⟨_, rfl⟩
      obtain ⟨c, hc⟩ : ∃ c, A.getD j false = c := ⟨_, rfl⟩
      obtain ⟨d, hd⟩ : ∃ d, B.getD j false = d := ⟨_, rfl⟩
      rw [hx] at e0 hsz HFJ
      rw [hc] at e1 HFJ
      have HC1 : Hid (w2.cell? ⟨ga, j, none⟩ = some (.bool c)) := by rw [← hc]; exact HCA.out j (by rw [HA.out]; omega)
      rw [hd] at e2 HFJ
      clear hx hc hd
      have HFY := Lib.hid (fun s (h : F j = some s) => fsO_yes HNO.out h hlt)
      have HFN := Lib.hid (fun (h : F j = none) => fsO_no HNO.out h)
      go_wp2_with fail
      have f0 := fun s => Since.cell e0 s
      have f1 := fun s => Since.cell e1 s
      have f2 := fun s => Since.cell e2 s
      refine wp_region_since (by kernel_rfl) (by kernel_rfl) ?_
      repeat (go_big_quiet_step (fail))
      refine wpQuiet_nil ?_
      intro w3 hb3
      have HBW3 := Lib.hid (HBW.out.trans (hb3.mono HBW.out.size))
      have HT5 := Lib.hid (HT6.out.below hb3)
      clear e0 e1 e2 hb3 f0 f1 f2
      by_cases hcd : c = d
      · subst hcd
        have HN2 := Lib.hid (HFN.out (by rw [HFJ.out]; cases c <;> rfl))
        have hcc : (!c == c) = false := by cases c <;> rfl
        have hcc2 : (c != c) = false := by cases c <;> rfl
        rw [hcc]
        clear HFJ HFY HFN
        go_wp2_with fail
        go_roundw
        case rel => exact ⟨j + 1, by omega, by go_num, HN2, HBW3⟩
        case measure => simp [intOf]; omega
      · have hne : (c != d) = true := by revert hcd; cases c <;> cases d <;> decide
        have HR : Hid (fsO F N = some (sgB x c)) := HFY.out _ (by rw [HFJ.out, if_pos hne])
        have hcc : (!c == d) = true := by revert hcd; cases c <;> cases d <;> decide
        rw [hcc]
        have e1 := (HBW3.out.cell (p := ⟨ga, j, none⟩) ka).trans HC1.out
        clear HFJ HFY HFN
        go_wp2_with fail
        refine (HSG.out x c _ (by omega)).mono ?_; rintro e w5 ⟨rfl, hw5⟩; rw [hw5]; clear hw5
        go_wp2_with fail
        go_ret
        exact ⟨by rw [HR.out]; rfl, HT5.out.old⟩
    · obtain rfl : j = N := by omega
      go_wp2_with fail
      go_ret
      exact ⟨by rw [HNO.out]; rfl, HT6.out.old⟩
theorem firstFact_any (n : Nat) (S R : ByteArray) (m : Nat) (S2 R2 : ByteArray) (va vb : Value) (la lb : List Nat) (w : World) (hs1 : Szs n S R) (hs2 : Szs m S2 R2) (hl : la.length = lb.length) (hl3 : la.length ≤ 3)
    (ha : ∀ j, j < la.length → la.getD j 0 < n) (hb : ∀ j, j < lb.length → lb.getD j 0 < m) (hva : NumsAt w va la) (hvb : NumsAt w vb lb) :
    Calls Tryz.prog 48 #[strV n S R, va, strV m S2 R2, vb] w fun e w' => e = .returned (.string (ffB (stOf n S R) la (stOf m S2 R2) lb)) ∧ Below w.heap.size w w' := by
  have HF1 := Lib.hid (fun w' (h : Below w.heap.size w w') => factsOf_any n S R la va w' hs1.n8 hs1.s hs1.r hl3 ha (hva.below h))
  have HF2 := Lib.hid (fun w' (h : Below w.heap.size w w') => factsOf_any m S2 R2 lb vb w' hs2.n8 hs2.s hs2.r (by omega) hb (hvb.below h))
  have hTL := ftO_len la.length (by omega)
  rw [← hl] at HF2
  have hFE : ∀ j, ffO (stOf n S R) la (stOf m S2 R2) lb j = if (fbO (stOf n S R) la la.length).getD j false != (fbO (stOf m S2 R2) lb la.length).getD j false then some (sgB ((ftO la.length).getD j ByteArray.empty) ((fbO (stOf n S R) la la.length).getD j false)) else none := fun j => by
    unfold ffO
    rw [hl]
  obtain ⟨a, cap, rfl, _, _, _⟩ := hva.view
  obtain ⟨a2, cap2, rfl, _, _, _⟩ := hvb.view
  exact firstFact_core n S R m S2 R2 a a2 _ _ _ _ w (ftO la.length) (fbO (stOf n S R) la la.length) (fbO (stOf m S2 R2) lb la.length) (ffO (stOf n S R) la (stOf m S2 R2) lb) (ftO la.length).length rfl (fbO_len _ _ _) (fbO_len _ _ _) (by omega) (fun j => ftO_at _ j) HF1.out HF2.out hFE
end Go.Proofs.YtofmagiahmmmgaaGreatDoor

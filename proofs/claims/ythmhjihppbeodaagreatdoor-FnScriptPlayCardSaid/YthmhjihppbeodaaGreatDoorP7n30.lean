/- Contracts of the program's functions and what they compute: part 30. Conditions: those that each theorem states. -/
import Derived.Test.YthmhjihppbeodaaGreatDoorP7n14
import Derived.Test.YthmhjihppbeodaaGreatDoorP7n29
namespace Go.Proofs.YthmhjihppbeodaaGreatDoor
set_option linter.unusedVariables false
set_option maxRecDepth 100000
theorem getD_snoc_lt (l : List Nat) (x i : Nat) (h : i < l.length) : (l ++ [x]).getD i 0 = l[i] := by simp [List.getD_eq_getElem?_getD, List.getElem?_append_left h, h]
theorem getD_snoc_last (l : List Nat) (x : Nat) : (l ++ [x]).getD l.length 0 = x := by simp [List.getD_eq_getElem?_getD]
theorem fits_is {a b : Gs.St} {la lb : List Nat} {x y n : Nat} (hn : la.length = n) (hm : lb.length = n) : Gs.fitsL a (la ++ [x]) b (lb ++ [y]) n = Gs.still a la b lb x y := by
  rw [Bool.eq_iff_iff, Gs.fitsL_iff, Gs.still_iff]
  have ex : (la ++ [x]).getD n 0 = x := by rw [← hn]; exact getD_snoc_last la x
  have ey : (lb ++ [y]).getD n 0 = y := by rw [← hm]; exact getD_snoc_last lb y
  rw [ex, ey]
  constructor
  · rintro ⟨h1, h2⟩
    have h3 := h2 n (Nat.le_refl _)
    rw [ex, ey] at h3
    refine ⟨h1, h3.2.1, fun p hp => ?_⟩
    obtain ⟨i, hi, rfl⟩ := List.mem_iff_getElem.1 hp
    rw [List.length_zip] at hi
    have h4 := h2 i (by omega)
    rw [getD_snoc_lt la x i (by omega), getD_snoc_lt lb y i (by omega)] at h4
    rw [List.getElem_zip]
    exact ⟨by have := decide_eq_decide.1 h4.1; exact this, h4.2.1, h4.2.2⟩
  · rintro ⟨h1, h2, h3⟩
    refine ⟨h1, fun i hi => ?_⟩
    by_cases hin : i = n
    · subst hin
      rw [ex, ey]
      exact ⟨by simp, h2, h2⟩
    · have hl : i < la.length := by omega
      have hm2 : i < lb.length := by omega
      rw [getD_snoc_lt la x i hl, getD_snoc_lt lb y i hm2]
      have h4 := h3 (la[i], lb[i]) (List.mem_iff_getElem.2 ⟨i, by rw [List.length_zip]; omega, by rw [List.getElem_zip]⟩)
      exact ⟨decide_eq_decide.2 h4.1, h4.2.1, h4.2.2⟩
end Go.Proofs.YthmhjihppbeodaaGreatDoor

namespace Go.Proofs.YthmhjihppbeodaaGreatDoor
open Go.RowKit
set_option linter.unusedVariables false
set_option maxRecDepth 100000
theorem getD_all {L : List Nat} {n : Nat} (h : ∀ z ∈ L, z < n) : ∀ j, j < L.length → L.getD j 0 < n := fun j hj => h _ (by simp [hj])
set_option maxHeartbeats 2000000 in
theorem l5Best_any (n : Nat) (S R : ByteArray) (m : Nat) (S2 R2 : ByteArray) (va vb : Value) (la lb : List Nat) (k x : Nat) (w : World) (hp : Pos n S R m S2 R2 la lb (k + 1)) (hk : k ≤ 3) (hx : x < n) (hva : NumsAt w va la) (hvb : NumsAt w vb lb) (hs : Gs.same (stOf n S R) la (stOf m S2 R2) lb = true) :
    Calls Tryz.prog 26 #[strV n S R, va, strV m S2 R2, vb, .int .i64 ((k : Int) + 1), .int .i64 (x : Int)] w fun e w' => e = .returned (.int .i64 (repI (bestB (stOf n S R) la (stOf m S2 R2) lb k x))) ∧ Below w.heap.size w w' := by
  have HP := Lib.hid hp
  have HX := Lib.hid hx
  have HT := Lib.hid (Two.new w n S R m S2 R2)
  unfold boxS at HT
  have HVA := Lib.hid hva; have HVB := Lib.hid hvb
  have HRP := Lib.hid (fun w' (h : Below w.heap.size w w') => l5Reply_any n S R m S2 R2 va vb la lb k x w' hp hk hx (hva.below h) (hvb.below h))
  have hBB : bestB (stOf n S R) la (stOf m S2 R2) lb k x = (winR (stOf n S R) la (stOf m S2 R2) lb k x).or (fitPl (stOf n S R) la (stOf m S2 R2) lb x) := by
    unfold bestB
    rw [reply_wins hp.hl hs]
    rfl
  obtain ⟨RES, hRES⟩ : ∃ r, bestB (stOf n S R) la (stOf m S2 R2) lb k x = r := ⟨_, rfl⟩
  rw [hRES] at hBB ⊢
  have HBB := Lib.hid hBB
  have HLA : Hid (la.length ≤ 1000 ∧ lb.length ≤ 1000) := by have h1 := hp.hl8; have h2 := hp.hl; exact ⟨by omega, by omega⟩
  have HWA : Hid (∀ W, Below w.heap.size w W → Calls Tryz.prog 27 #[va, .int .i64 (x : Int)] W (NewNums W (la ++ [x]))) := fun W hW => l4With_any va la x W (HVA.out.below hW) HLA.out.1
  have HWB : Hid (∀ (y : Nat) W, Below w.heap.size w W → Calls Tryz.prog 27 #[vb, .int .i64 (y : Int)] W (NewNums W (lb ++ [y]))) := fun y W hW => l4With_any vb lb y W (HVB.out.below hW) HLA.out.2
  have hft : ∀ (y : Nat) (W : World) (v1 v2 : Value), y < m → NumsAt W v1 (la ++ [x]) → NumsAt W v2 (lb ++ [y]) → Calls Tryz.prog 50 #[strV n S R, v1, strV m S2 R2, v2] W fun e w' => e = .returned (.bool (Gs.still (stOf n S R) la (stOf m S2 R2) lb x y)) ∧ Below W.heap.size W w' := by
    intro y W v1 v2 hy h1 h2
    have h := l1Fits_any n S R m S2 R2 v1 v2 (la ++ [x]) (lb ++ [y]) la.length W HP.out.hS HP.out.hR HP.out.hn HP.out.hS2 HP.out.hR2 HP.out.hm h1 h2 (by simp) (by simp [HP.out.hl]) (by have := HP.out.hl8; omega) (getD_all (mem_snoc HP.out.ha HX.out)) (getD_all (mem_snoc HP.out.hb hy))
    rw [fits_is rfl HP.out.hl.symm] at h
    exact h
  have hm8 := hp.hm
  obtain ⟨K, hK⟩ : ∃ K : Int, (k : Int) + 1 = K := ⟨_, rfl⟩
  rw [hK] at HRP ⊢
  clear hp hva hvb hK hRES hBB hs hx
  unfold strV at HRP hft
  have HFT := Lib.hid hft
  clear hft
  unfold strV
  obtain ⟨a0, a1, a2, _, _, _, _⟩ := HT.out.a.cells
  obtain ⟨b0, b1, b2, _, _, _, _⟩ := HT.out.b.cells
  go_enter Tryz.func26, Tryz.ntmps26
  go_wp2_with fail
  refine (HRP.out _ HT.out.old).mono ?_; rintro e w1 ⟨rfl, hb⟩
  have HT1 := Lib.hid (HT.out.below hb)
  clear hb HT a0 a1 a2 b0 b1 b2
  cases hw : winR (stOf n S R) la (stOf m S2 R2) lb k x with
  | some y0 =>
    have HE : Hid (RES = some y0) := by have := HBB.out; rw [hw] at this; exact this
    clear hw HBB
    obtain ⟨b0, b1, b2, _, _, _, _⟩ := HT1.out.b.cells
    have hneg : ¬ ((y0 : Int) < 0) := by omega
    unfold repI
    go_wp2_with fail
    go_loopw [14] (fun i wr => i = .int .i64 0 ∧ Hid (Two w wr n S R m S2 R2)) (fun _ _ => 0)
    case atStart => exact ⟨rfl, HT1.out⟩
    case round =>
      obtain ⟨rfl, HT2⟩ := hrel
      go_wp2_with fail
      go_ret
      exact ⟨by rw [HE.out]; rfl, HT2.out.old⟩
  | none =>
    have HFI : Hid (RES = fitPl (stOf n S R) la (stOf m S2 R2) lb x) := by have := HBB.out; rw [hw] at this; exact this
    clear hw HBB
    obtain ⟨b0, b1, b2, _, _, _, _⟩ := HT1.out.b.cells
    unfold repI
    go_wp2_with fail
    go_loopw [14] (fun i wr => ∃ y : Nat, y ≤ m ∧ i = .int .i64 (y : Int) ∧ Hid (Two w wr n S R m S2 R2) ∧ Hid (∀ z, z < y → Gs.still (stOf n S R) la (stOf m S2 R2) lb x z = false)) (fun i _ => m - (intOf i).toNat)
    case atStart => exact ⟨0, by omega, rfl, HT1.out, fun z hz => absurd hz (Nat.not_lt_zero z)⟩
    case round =>
      clear b0 b1 b2 HT1
      obtain ⟨y, hy, rfl, HT2, HZ⟩ := hrel
      obtain ⟨b0, b1, b2, _, _, _, _⟩ := HT2.out.b.cells
      obtain ⟨a0, a1, a2, _, _, _, _⟩ := HT2.out.a.cells
      by_cases hlt : y < m
      · have hltI : (y : Int) < (m : Int) := by omega
        have KS : Hid (∀ w' : World, Below wr.heap.size wr w' → (w'.cell? ⟨w.heap.size, 0, none⟩ = some (.int .i64 n) ∧ w'.cell? ⟨w.heap.size, 1, none⟩ = some (.string S) ∧ w'.cell? ⟨w.heap.size, 2, none⟩ = some (.string R) ∧ w'.cell? ⟨w.heap.size + 1, 0, none⟩ = some (.int .i64 m) ∧ w'.cell? ⟨w.heap.size + 1, 1, none⟩ = some (.string S2) ∧ w'.cell? ⟨w.heap.size + 1, 2, none⟩ = some (.string R2))) := by
          intro w' h
          obtain ⟨p0, p1, p2, _, _, _, _⟩ := (HT2.out.below h).a.cells
          obtain ⟨r0, r1, r2, _, _, _, _⟩ := (HT2.out.below h).b.cells
          exact ⟨p0, p1, p2, r0, r1, r2⟩
        have HLW := Lib.hid (fun h => HFI.out.trans (find_at (p := fun z => Gs.still (stOf n S R) la (stOf m S2 R2) lb x z) hlt HZ.out h))
        obtain ⟨c, hc⟩ : ∃ c, Gs.still (stOf n S R) la (stOf m S2 R2) lb x y = c := ⟨_, rfl⟩
        have HFY := Lib.hid (fun W v1 v2 => HFT.out y W v1 v2 hlt)
        rw [hc] at HLW HFY
        have HC := Lib.hid hc
        clear hc
        go_upto_region 5 with fail
        go_region_held3 (fun w' => w'.cell? ⟨w.heap.size, 0, none⟩ = some (.int .i64 n) ∧ w'.cell? ⟨w.heap.size, 1, none⟩ = some (.string S) ∧ w'.cell? ⟨w.heap.size, 2, none⟩ = some (.string R) ∧ w'.cell? ⟨w.heap.size + 1, 0, none⟩ = some (.int .i64 m) ∧ w'.cell? ⟨w.heap.size + 1, 1, none⟩ = some (.string S2) ∧ w'.cell? ⟨w.heap.size + 1, 2, none⟩ = some (.string R2))
          (first | exact KS.out _ HOB.out | go_keep)
          (first
          | ((with_reducible refine (HWA.out _ (HT2.out.old.trans ((Below.refl wr.heap.size wr).drew.mono HT2.out.old.size))).mono ?_); rintro e w5 ⟨v1, rfl, ho, hb⟩; have HOB := Lib.hid ((Below.refl wr.heap.size wr).drew.trans (hb.mono (Nat.le_refl _))); have HN5 := Lib.hid ho.nums; clear ho hb)
          | ((with_reducible refine (HWB.out y _ (HT2.out.old.trans (HOB.out.mono HT2.out.old.size))).mono ?_); rintro e w6 ⟨v2, rfl, ho, hb⟩; have HN5 := Lib.hid (HN5.out.below (hb.mono (Nat.le_refl _))); have HOB := Lib.hid (HOB.out.trans (hb.mono HOB.out.size)); have HN6 := Lib.hid ho.nums; clear ho hb)
          | ((with_reducible refine (HFY.out _ v1 v2 HN5.out HN6.out).mono ?_); rintro e w7 ⟨rfl, hb⟩; have HOB := Lib.hid (HOB.out.trans (hb.mono HOB.out.size)); clear hb)
          | fail)
        all_goals
          have HT7 := Lib.hid (HT2.out.below HOB.out)
          clear a0 a1 a2 b0 b1 b2 KS
          obtain ⟨b0, b1, b2, _, _, _, _⟩ := HT7.out.b.cells
          cases c
          · clear HLW
            go_wp2_with fail
            go_roundw
            case rel =>
              refine ⟨y + 1, by omega, by go_num, HT7.out, fun z hz => ?_⟩
              by_cases hzy : z = y
              · rw [hzy]; exact HC.out
              · exact HZ.out z (by omega)
            case measure => simp [intOf]; omega
          · have HE : Hid (RES = some y) := HLW.out rfl
            clear HLW
            go_wp2_with fail
            go_ret
            exact ⟨by rw [HE.out]; rfl, HT7.out.old⟩
      · have hltI : ¬ (y : Int) < (m : Int) := by omega
        have HE : Hid (RES = none) := HFI.out.trans (by
          unfold fitPl
          rw [List.find?_eq_none]
          intro z hz
          have hz : z < m := List.mem_range.1 hz
          simp [HZ.out z (by omega)])
        clear HZ
        go_wp2_with fail
        go_ret
        exact ⟨by rw [HE.out]; rfl, HT2.out.old⟩
end Go.Proofs.YthmhjihppbeodaaGreatDoor

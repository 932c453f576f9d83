/- Contracts of the program's functions and what they compute: part 33. Conditions: those that each theorem states. -/
import Derived.Test.YthmhjihppbeodaaGreatDoorP7n17
import Derived.Test.YthmhjihppbeodaaGreatDoorP7n30
import Derived.Test.YthmhjihppbeodaaGreatDoorP7n32
namespace Go.Proofs.YthmhjihppbeodaaGreatDoor
open Go.RowKit
set_option linter.unusedVariables false
set_option maxRecDepth 100000
/-- Two boxed structures, two lists in memory, and the moves. -/
structure PsG (w : World) (g : Nat) (n : Nat) (S R : ByteArray) (m : Nat) (S2 R2 : ByteArray) (M : List ByteArray) (v u : Value) (A B : List Nat) (wr : World) : Prop where
  two : Two w wr n S R m S2 R2
  a : NumsAt wr v A
  b : NumsAt wr u B
  hi : g < wr.heap.size
  mv : ∀ (j : Nat) (h : j < M.length), wr.cell? ⟨g, j, none⟩ = some (.string M[j])
section
variable {w wr w' : World} {g n : Nat} {S R : ByteArray} {m : Nat} {S2 R2 : ByteArray} {M : List ByteArray} {v u v' u' : Value} {A B A' B' : List Nat}
theorem PsG.below (h : PsG w g n S R m S2 R2 M v u A B wr) (hb : Below wr.heap.size wr w') : PsG w g n S R m S2 R2 M v u A B w' :=
  ⟨h.two.below hb, h.a.below hb, h.b.below hb, Nat.lt_of_lt_of_le h.hi hb.size, fun j hj => (hb.cell (p := ⟨g, j, none⟩) h.hi).trans (h.mv j hj)⟩
theorem PsG.turn (h : PsG w g n S R m S2 R2 M v u A B wr) (ha : NumsAt wr v' A') (hb : NumsAt wr u' B') : PsG w g n S R m S2 R2 M v' u' A' B' wr := ⟨h.two, ha, hb, h.hi, h.mv⟩
end
set_option maxHeartbeats 2000000 in
theorem specPlay_any (n : Nat) (S R : ByteArray) (m : Nat) (S2 R2 s : ByteArray) (w : World) (hv : validB n S R = true) (hu : validB m S2 R2 = true) (hok : okMs n m s = true) (hs : s.size ≤ 900) (A0 B0 : List Nat) (c0 : Bool)
    (hE : playP (stOf n S R) (stOf m S2 R2) (mvsOf s) [] [] = (A0, B0, c0)) :
    Calls Tryz.prog 6 #[strV n S R, strV m S2 R2, .string s] w (PlayP A0 B0 (endB c0) w) := by
  obtain ⟨a1, a8, aS, aR, _, _⟩ := valid_is hv
  obtain ⟨b1, b8, bS, bR, _, _⟩ := valid_is hu
  have HIA := Lib.hid (fun w => specValid_b n S R w hv)
  have HIB := Lib.hid (fun w => specValid_b m S2 R2 w hu)
  have hmv := fun w => l5Moves_any n m S R S2 R2 s a8 b8 hs w
  have hMVX : ∀ w, Calls Tryz.prog 25 #[strV n S R, strV m S2 R2, .string s] w fun e w' => ∃ g cap, e = .returned (.tuple #[.slice (some ⟨g, 0, none⟩) (mvsOf s).length cap, .bool true]) ∧ Below w.heap.size w w' ∧ g < w'.heap.size ∧ (mvsOf s).length ≤ cap ∧ cap ≤ maxLen ∧ ∀ (j : Nat) (h : j < (mvsOf s).length), w'.cell? ⟨g, j, none⟩ = some (.string (mvsOf s)[j]) := fun w => by
    refine (hmv w).mono fun e w' ⟨v, he, hb, hc⟩ => ?_
    obtain ⟨g, cap, rfl, h1, h2, h3, h4, h5⟩ := hc hok
    rw [hok] at he
    exact ⟨g, cap, he, hb, h2, h3, h4, h5⟩
  have HMV := Lib.hid hMVX
  have HT := Lib.hid (Two.new w n S R m S2 R2)
  unfold boxS at HT
  obtain ⟨hM3, hMok⟩ := moves_ok hok
  have HPR := Lib.hid (fun va vb la lb k x w (hk : k ≤ 3) (hp : Pos n S R m S2 R2 la lb (k + 1)) h1 h2 h3 h4 => l5Best_any n S R m S2 R2 va vb la lb k x w hp hk h4 h1 h2 h3)
  have HPS := Lib.hid (fun va vb la lb k x w (hk : k ≤ 3) (hp : Pos m S2 R2 n S R la lb (k + 1)) h1 h2 h3 h4 => l5Best_any m S2 R2 n S R va vb la lb k x w hp hk h4 h1 h2 h3)
  have HW := Lib.hid (fun va la x w h1 h2 => l4With_any va la x w h1 h2)
  obtain ⟨M, hM⟩ : ∃ M, mvsOf s = M := ⟨_, rfl⟩
  rw [hM] at hM3 hMok HMV hE
  clear hM hv hu hok hMVX hmv
  obtain ⟨N, hN⟩ : ∃ N, M.length = N := ⟨_, rfl⟩
  have HN := Lib.hid hN
  have HOK := Lib.hid hMok
  have HRES := Lib.hid hE
  have HAS := Lib.hid (And.intro aS (And.intro aR (And.intro bS bR)))
  clear hMok hE aS aR bS bR
  unfold strV at HIA HIB HMV HPR HPS
  unfold strV
  obtain ⟨c0', c1, c2, f0, f1, f2, hl1⟩ := HT.out.a.cells
  obtain ⟨d0, d1, d2, g0, g1, g2, hl2⟩ := HT.out.b.cells
  go_enter Tryz.func6, Tryz.ntmps6
  go_upto_region 3 with fail
  obtain ⟨w0, hw0⟩ : ∃ w0, (((w.alloc (.cells #[.int .i64 (n : Int), .string S, .string R] 24)).alloc (.cells #[.int .i64 (m : Int), .string S2, .string R2] 24)).alloc (.cells #[] 3)).alloc (.cells #[] 3) = w0 := ⟨_, rfl⟩
  have HV0 : Hid (Two w w0 n S R m S2 R2 ∧ NumsAt w0 (.slice (some ⟨w.heap.size + 1 + 1, 0, none⟩) 0 0) [] ∧ NumsAt w0 (.slice (some ⟨w.heap.size + 1 + 1 + 1, 0, none⟩) 0 0) []) := by
    have hz : w0.heap.size = w.heap.size + 4 := by rw [← hw0]; simp
    have h1 : Below ((w.alloc (.cells #[.int .i64 (n : Int), .string S, .string R] 24)).alloc (.cells #[.int .i64 (m : Int), .string S2, .string R2] 24)).heap.size ((w.alloc (.cells #[.int .i64 (n : Int), .string S, .string R] 24)).alloc (.cells #[.int .i64 (m : Int), .string S2, .string R2] 24)) w0 := by
      rw [← hw0]; exact ((Below.refl _ _).alloc (Nat.le_refl _) _).alloc (by simp) _
    exact ⟨HT.out.below h1, .inr ⟨_, 0, 0, rfl, Nat.le_refl _, by decide, by omega, fun j hj => absurd hj (Nat.not_lt_zero j)⟩, .inr ⟨_, 0, 0, rfl, Nat.le_refl _, by decide, by omega, fun j hj => absurd hj (Nat.not_lt_zero j)⟩⟩
  obtain ⟨v0, hv0⟩ : ∃ v, (Value.slice (some ⟨w.heap.size + 1 + 1, 0, none⟩) 0 0) = v := ⟨_, rfl⟩
  obtain ⟨u0, hu0⟩ : ∃ v, (Value.slice (some ⟨w.heap.size + 1 + 1 + 1, 0, none⟩) 0 0) = v := ⟨_, rfl⟩
  rw [hw0, hv0, hu0]
  rw [hv0, hu0] at HV0
  clear hw0 hv0 hu0 HT c0' c1 c2 f0 f1 f2 hl1 d0 d1 d2 g0 g1 g2 hl2
  obtain ⟨c0', c1, c2, f0, f1, f2, hl1⟩ := HV0.out.1.a.cells
  obtain ⟨d0, d1, d2, g0, g1, g2, hl2⟩ := HV0.out.1.b.cells
  go_wp2_with fail
  refine (HIA.out _).mono ?_; rintro e w1 ⟨rfl, hb⟩
  have HV1 : Hid (Two w w1 n S R m S2 R2 ∧ NumsAt w1 v0 [] ∧ NumsAt w1 u0 []) := ⟨HV0.out.1.below hb, HV0.out.2.1.below hb, HV0.out.2.2.below hb⟩
  clear hb c0' c1 c2 f0 f1 f2 hl1 d0 d1 d2 g0 g1 g2 hl2 HV0
  obtain ⟨c0', c1, c2, f0, f1, f2, hl1⟩ := HV1.out.1.a.cells
  obtain ⟨d0, d1, d2, g0, g1, g2, hl2⟩ := HV1.out.1.b.cells
  go_wp2_with fail
  refine (HIB.out _).mono ?_; rintro e w2 ⟨rfl, hb⟩
  have HV2 : Hid (Two w w2 n S R m S2 R2 ∧ NumsAt w2 v0 [] ∧ NumsAt w2 u0 []) := ⟨HV1.out.1.below hb, HV1.out.2.1.below hb, HV1.out.2.2.below hb⟩
  clear hb c0' c1 c2 f0 f1 f2 hl1 d0 d1 d2 g0 g1 g2 hl2 HV1
  obtain ⟨c0', c1, c2, f0, f1, f2, hl1⟩ := HV2.out.1.a.cells
  obtain ⟨d0, d1, d2, g0, g1, g2, hl2⟩ := HV2.out.1.b.cells
  go_wp2_with fail
  refine (HMV.out _).mono ?_; rintro e w3 ⟨g, cap, rfl, hb, hg1, hg2, hg3, hg4⟩
  have HP : Hid (PsG w g n S R m S2 R2 M v0 u0 [] [] w3) := ⟨HV2.out.1.below hb, HV2.out.2.1.below hb, HV2.out.2.2.below hb, hg1, hg4⟩
  rw [hN] at hM3 hg2 ⊢
  unfold maxLen at hg3
  have HK : Hid (Pk (stOf n S R) (stOf m S2 R2) n m 0 [] [] M (A0, B0, c0)) := ⟨rfl, rfl, by simp, by simp, rfl, HRES.out⟩
  clear hb hg1 hg4 HV2 HRES HMV HIA HIB c0' c1 c2 f0 f1 f2 hl1 d0 d1 d2 g0 g1 g2 hl2 hN
  go_wp2_with fail
  go_loopw [13, 9, 10] (fun i v u wr => ∃ (j : Nat) (A B : List Nat), j ≤ N ∧ i = .int .i64 (j : Int) ∧ Hid (PsG w g n S R m S2 R2 M v u A B wr) ∧ Hid (Pk (stOf n S R) (stOf m S2 R2) n m j A B (M.drop j) (A0, B0, c0))) (fun i _ _ _ => N - (intOf i).toNat)
  case atStart => exact ⟨0, [], [], by omega, rfl, HP, HK⟩
  case round =>
    clear HP HK
    obtain ⟨j, A, B, hj, rfl, HV, HK⟩ := hrel
    by_cases hlt : j < N
    · have hjI : (j : Int) < (N : Int) := by omega
      have hjM : j < M.length := by rw [HN.out]; exact hlt
      have hcm := HV.out.mv j hjM
      have hdrop : M.drop j = M[j] :: M.drop (j + 1) := List.drop_eq_getElem_cons hjM
      obtain ⟨x, y, hp, hm⟩ := okPc_parts (HOK.out M[j] (List.getElem_mem hjM))
      have hmp := okMv_parts hm
      rw [hp] at hcm hdrop
      have HK2 : Hid (Pk (stOf n S R) (stOf m S2 R2) n m j A B (⟨#[x, y]⟩ :: M.drop (j + 1)) (A0, B0, c0)) := by have := HK.out; rw [hdrop] at this; exact this
      obtain ⟨k, hk⟩ : ∃ k, N = j + (k + 1) := ⟨N - j - 1, by omega⟩
      have hkl : (M.drop (j + 1)).length = k := by rw [List.length_drop, HN.out]; omega
      have hKI : (N : Int) - (j : Int) = (k : Int) + 1 := by omega
      have i0 : (⟨#[x, y]⟩ : ByteArray).size = 2 := rfl
      have hX : ((⟨#[x, y]⟩ : ByteArray)[0]'(by show 0 < 2; decide)).toNat = x.toNat := rfl
      have hY : ((⟨#[x, y]⟩ : ByteArray)[1]'(by show 1 < 2; decide)).toNat = y.toNat := rfl
      have hBY : y.toNat < 256 := y.toNat_lt
      have HLL : Hid (A.length ≤ 1000 ∧ B.length ≤ 1000) := ⟨by rw [HK2.out.la]; omega, by rw [HK2.out.lb]; omega⟩
      have hgz := HV.out.hi
      obtain ⟨c0', c1, c2, f0, f1, f2, hl1⟩ := HV.out.two.a.cells
      obtain ⟨d0, d1, d2, g0, g1, g2, hl2⟩ := HV.out.two.b.cells
      clear HK hdrop hp hm hk
      rcases hmp with ⟨hx, h48, hlt2⟩ | ⟨hx, h48, hlt2⟩
      · obtain ⟨e0, he⟩ : ∃ e, y.toNat - 48 = e := ⟨_, rfl⟩
        have hy7 : (y.toNat : Int) - 48 = (e0 : Int) := by omega
        have hx7 : (x.toNat : Int) = 97 := by rw [hx]; rfl
        rw [he] at hlt2
        have he8 : e0 ≤ 8 := by omega
        have hl : A.length = B.length := by rw [HK2.out.la, HK2.out.lb]
        have hpl : A.length + (k + 1) ≤ 8 := by rw [HK2.out.la]; omega
        have c1 := HPR.out _ _ A B k e0 wr (by omega) ⟨HAS.out.1, HAS.out.2.1, a8, HAS.out.2.2.1, HAS.out.2.2.2, b8, hl, hpl, HK2.out.ia, HK2.out.ib⟩ HV.out.a HV.out.b HK2.out.sm hlt2
        have hST := Lib.hid (fun z => HK2.out.stepA hx (by rw [he]; exact hlt2) (z := z))
        have hEN := Lib.hid (HK2.out.endA hx)
        rw [he, hkl] at hST hEN
        cases hbe : bestB (stOf n S R) A (stOf m S2 R2) B k e0 with
        | none =>
          rw [hbe] at c1
          have HEN := Lib.hid (hEN.out hbe)
          have C1 := Lib.hid c1
          clear c1 hST hEN hbe hl hpl HPR HPS HOK HAS HN
          unfold repI at C1
          go_wp2_with fail
          refine C1.out.mono ?_; rintro e w1 ⟨rfl, hb⟩
          have HV1 := Lib.hid (HV.out.below hb)
          clear hb c0' c1 c2 f0 f1 f2 hl1 d0 d1 d2 g0 g1 g2 hl2 hcm C1
          go_wp2_with fail
          refine (HW.out _ A e0 _ HV1.out.a HLL.out.1).mono ?_; rintro e w2 ⟨v', rfl, ho, hb⟩
          have HV2 := Lib.hid (HV1.out.below hb)
          have HO2 := Lib.hid ho.nums
          clear ho hb
          go_wp2_with fail
          go_ret3
          obtain ⟨rfl, rfl, rfl⟩ : A0 = _ ∧ B0 = _ ∧ c0 = _ := by have := HEN.out; injection this with h1 h2; injection h2 with h2 h3; exact ⟨h1, h2, h3⟩
          exact ⟨_, _, rfl, HO2.out, HV2.out.b, HV2.out.two.old⟩
        | some z =>
          rw [hbe] at c1
          have HST := Lib.hid (hST.out z hbe)
          have C1 := Lib.hid c1
          have hzp : ¬ (z : Int) < 0 := by omega
          clear c1 hST hEN hbe hl hpl HPR HPS HOK HAS HN
          unfold repI at C1
          go_wp2_with fail
          refine C1.out.mono ?_; rintro e w1 ⟨rfl, hb⟩
          have HV1 := Lib.hid (HV.out.below hb)
          clear hb c0' c1 c2 f0 f1 f2 hl1 d0 d1 d2 g0 g1 g2 hl2 hcm C1
          go_wp2_with fail
          refine (HW.out _ A e0 _ HV1.out.a HLL.out.1).mono ?_; rintro e w2 ⟨v', rfl, ho, hb⟩
          have HV2 := Lib.hid (HV1.out.below hb)
          have HO2 := Lib.hid ho.nums
          clear ho hb
          go_wp2_with fail
          refine (HW.out _ B z _ HV2.out.b HLL.out.2).mono ?_; rintro e w3 ⟨v2, rfl, ho, hb⟩
          have HV3 := Lib.hid ((HV2.out.below hb).turn (HO2.out.below hb) ho.nums)
          clear ho hb
          go_wp2_with fail
          go_roundw
          case rel => exact ⟨j + 1, _, _, by omega, by go_num, HV3, HST⟩
          case measure => simp [intOf]; omega
      · obtain ⟨e0, he⟩ : ∃ e, y.toNat - 48 = e := ⟨_, rfl⟩
        have hy7 : (y.toNat : Int) - 48 = (e0 : Int) := by omega
        have hx7 : (x.toNat : Int) = 98 := by rw [hx]; rfl
        rw [he] at hlt2
        have he8 : e0 ≤ 8 := by omega
        have hl : A.length = B.length := by rw [HK2.out.la, HK2.out.lb]
        have hpl : B.length + (k + 1) ≤ 8 := by rw [HK2.out.lb]; omega
        have c1 := HPS.out _ _ B A k e0 wr (by omega) ⟨HAS.out.2.2.1, HAS.out.2.2.2, b8, HAS.out.1, HAS.out.2.1, a8, hl.symm, hpl, HK2.out.ib, HK2.out.ia⟩ HV.out.b HV.out.a (by rw [same_swap hl]; exact HK2.out.sm) hlt2
        have hST := Lib.hid (fun z => HK2.out.stepB hx (by rw [he]; exact hlt2) (z := z))
        have hEN := Lib.hid (HK2.out.endB hx)
        rw [he, hkl] at hST hEN
        cases hbe : bestB (stOf m S2 R2) B (stOf n S R) A k e0 with
        | none =>
          rw [hbe] at c1
          have HEN := Lib.hid (hEN.out hbe)
          have C1 := Lib.hid c1
          clear c1 hST hEN hbe hl hpl HPR HPS HOK HAS HN
          unfold repI at C1
          go_wp2_with fail
          refine C1.out.mono ?_; rintro e w1 ⟨rfl, hb⟩
          have HV1 := Lib.hid (HV.out.below hb)
          clear hb c0' c1 c2 f0 f1 f2 hl1 d0 d1 d2 g0 g1 g2 hl2 hcm C1
          go_wp2_with fail
          refine (HW.out _ B e0 _ HV1.out.b HLL.out.2).mono ?_; rintro e w2 ⟨v', rfl, ho, hb⟩
          have HV2 := Lib.hid (HV1.out.below hb)
          have HO2 := Lib.hid ho.nums
          clear ho hb
          go_wp2_with fail
          go_ret3
          obtain ⟨rfl, rfl, rfl⟩ : A0 = _ ∧ B0 = _ ∧ c0 = _ := by have := HEN.out; injection this with h1 h2; injection h2 with h2 h3; exact ⟨h1, h2, h3⟩
          exact ⟨_, _, rfl, HV2.out.a, HO2.out, HV2.out.two.old⟩
        | some z =>
          rw [hbe] at c1
          have HST := Lib.hid (hST.out z hbe)
          have C1 := Lib.hid c1
          have hzp : ¬ (z : Int) < 0 := by omega
          clear c1 hST hEN hbe hl hpl HPR HPS HOK HAS HN
          unfold repI at C1
          go_wp2_with fail
          refine C1.out.mono ?_; rintro e w1 ⟨rfl, hb⟩
          have HV1 := Lib.hid (HV.out.below hb)
          clear hb c0' c1 c2 f0 f1 f2 hl1 d0 d1 d2 g0 g1 g2 hl2 hcm C1
          go_wp2_with fail
          refine (HW.out _ A z _ HV1.out.a HLL.out.1).mono ?_; rintro e w2 ⟨v', rfl, ho, hb⟩
          have HV2 := Lib.hid (HV1.out.below hb)
          have HO2 := Lib.hid ho.nums
          clear ho hb
          go_wp2_with fail
          refine (HW.out _ B e0 _ HV2.out.b HLL.out.2).mono ?_; rintro e w3 ⟨v2, rfl, ho, hb⟩
          have HV3 := Lib.hid ((HV2.out.below hb).turn (HO2.out.below hb) ho.nums)
          clear ho hb
          go_wp2_with fail
          go_roundw
          case rel => exact ⟨j + 1, _, _, by omega, by go_num, HV3, HST⟩
          case measure => simp [intOf]; omega
    · obtain rfl : j = N := by omega
      have HE := HK.out.res
      rw [List.drop_eq_nil_of_le (by rw [HN.out]; exact Nat.le_refl _)] at HE
      obtain ⟨rfl, rfl, rfl⟩ : A0 = _ ∧ B0 = _ ∧ c0 = _ := by have := HE.symm; injection this with h1 h2; injection h2 with h2 h3; exact ⟨h1, h2, h3⟩
      clear HE
      go_wp2_with fail
      go_ret3
      exact ⟨_, _, rfl, HV.out.a, HV.out.b, HV.out.two.old⟩
end Go.Proofs.YthmhjihppbeodaaGreatDoor

/- Contracts of the program's functions and what they compute: part 16. Conditions: those that each theorem states. -/
import Derived.Test.YthmhjihppbeodaaGreatDoorP7n14
import Derived.Test.YthmhjihppbeodaaGreatDoorP7n15
namespace Go.Proofs.YthmhjihppbeodaaGreatDoor
open Go.RowKit
set_option linter.unusedVariables false
set_option maxRecDepth 100000
theorem playP_a {a b : Gs.St} {x y : UInt8} {ps : List ByteArray} {la lb : List Nat} (hx : x.toNat = 97) : playP a b (⟨#[x, y]⟩ :: ps) la lb =
    match bestB a la b lb ps.length (y.toNat - 48) with
    | some z => playP a b ps (la ++ [y.toNat - 48]) (lb ++ [z])
    | none => (la ++ [y.toNat - 48], lb, false) := by
  have h : mvSide ⟨#[x, y]⟩ = true := by
    have : x = 97 := UInt8.toNat_inj.1 hx
    subst this; rfl
  rw [playP, h]; rfl
theorem playP_b {a b : Gs.St} {x y : UInt8} {ps : List ByteArray} {la lb : List Nat} (hx : x.toNat = 98) : playP a b (⟨#[x, y]⟩ :: ps) la lb =
    match bestB b lb a la ps.length (y.toNat - 48) with
    | some z => playP a b ps (la ++ [z]) (lb ++ [y.toNat - 48])
    | none => (la, lb ++ [y.toNat - 48], false) := by
  have h : mvSide ⟨#[x, y]⟩ = false := by
    have : x = 98 := UInt8.toNat_inj.1 hx
    subst this; rfl
  rw [playP, h]; rfl
/-- What is known of the lists at a move. -/
structure Pk (a b : Gs.St) (n m : Nat) (j : Nat) (A B : List Nat) (ps : List ByteArray) (RES : List Nat × List Nat × Bool) : Prop where
  la : A.length = j
  lb : B.length = j
  ia : ∀ z ∈ A, z < n
  ib : ∀ z ∈ B, z < m
  sm : Gs.same a A b B = true
  res : playP a b ps A B = RES
theorem mem_snoc {A : List Nat} {x n : Nat} (h : ∀ z ∈ A, z < n) (hx : x < n) : ∀ z ∈ A ++ [x], z < n := by
  intro z hz
  rcases List.mem_append.1 hz with h1 | h1
  · exact h z h1
  · obtain rfl : z = x := by simpa using h1
    exact hx
theorem Pk.stepA {n : Nat} {S R : ByteArray} {m : Nat} {S2 R2 : ByteArray} {j : Nat} {A B : List Nat} {x y : UInt8} {ps : List ByteArray} {RES : List Nat × List Nat × Bool} (h : Pk (stOf n S R) (stOf m S2 R2) n m j A B (⟨#[x, y]⟩ :: ps) RES) (hx : x.toNat = 97) (he : y.toNat - 48 < n) {z : Nat} (hz : bestB (stOf n S R) A (stOf m S2 R2) B ps.length (y.toNat - 48) = some z) :
    Pk (stOf n S R) (stOf m S2 R2) n m (j + 1) (A ++ [y.toNat - 48]) (B ++ [z]) ps RES := by
  refine ⟨by simp [h.la], by simp [h.lb], mem_snoc h.ia he, mem_snoc h.ib (bestB_some hz).1, best_same (by rw [h.la, h.lb]) h.sm hz, ?_⟩
  have := h.res
  rw [playP_a hx, hz] at this
  exact this
theorem Pk.endA {a b : Gs.St} {n m j : Nat} {A B : List Nat} {x y : UInt8} {ps : List ByteArray} {RES : List Nat × List Nat × Bool} (h : Pk a b n m j A B (⟨#[x, y]⟩ :: ps) RES) (hx : x.toNat = 97) (hz : bestB a A b B ps.length (y.toNat - 48) = none) : RES = (A ++ [y.toNat - 48], B, false) := by
  have := h.res
  rw [playP_a hx, hz] at this
  exact this.symm
theorem Pk.stepB {n : Nat} {S R : ByteArray} {m : Nat} {S2 R2 : ByteArray} {j : Nat} {A B : List Nat} {x y : UInt8} {ps : List ByteArray} {RES : List Nat × List Nat × Bool} (h : Pk (stOf n S R) (stOf m S2 R2) n m j A B (⟨#[x, y]⟩ :: ps) RES) (hx : x.toNat = 98) (he : y.toNat - 48 < m) {z : Nat} (hz : bestB (stOf m S2 R2) B (stOf n S R) A ps.length (y.toNat - 48) = some z) :
    Pk (stOf n S R) (stOf m S2 R2) n m (j + 1) (A ++ [z]) (B ++ [y.toNat - 48]) ps RES := by
  have hl : A.length = B.length := by rw [h.la, h.lb]
  refine ⟨by simp [h.la], by simp [h.lb], mem_snoc h.ia (bestB_some hz).1, mem_snoc h.ib he, ?_, ?_⟩
  · have h1 := best_same hl.symm (by rw [same_swap hl]; exact h.sm) hz
    rw [same_swap (by simp [hl])] at h1
    exact h1
  · have := h.res
    rw [playP_b hx, hz] at this
    exact this
theorem Pk.endB {a b : Gs.St} {n m j : Nat} {A B : List Nat} {x y : UInt8} {ps : List ByteArray} {RES : List Nat × List Nat × Bool} (h : Pk a b n m j A B (⟨#[x, y]⟩ :: ps) RES) (hx : x.toNat = 98) (hz : bestB b B a A ps.length (y.toNat - 48) = none) : RES = (A, B ++ [y.toNat - 48], false) := by
  have := h.res
  rw [playP_b hx, hz] at this
  exact this.symm
set_option maxHeartbeats 2000000 in
theorem PlayGame_any (n : Nat) (S R : ByteArray) (m : Nat) (S2 R2 s : ByteArray) (w : World) (hv : validB n S R = true) (hu : validB m S2 R2 = true) (hok : okMs n m s = true) (hs : s.size ≤ 900) (ht : TabSp w) (A0 B0 : List Nat) (c0 : Bool)
    (hE : playP (stOf n S R) (stOf m S2 R2) (mvsOf s) [] [] = (A0, B0, c0)) :
    Calls Tryz.prog 5 #[strV n S R, strV m S2 R2, .string s] w (PlayP A0 B0 (endB c0) w) := by
  obtain ⟨a1, a8, aS, aR, _, _⟩ := valid_is hv
  obtain ⟨b1, b8, bS, bR, _, _⟩ := valid_is hu
  have h64 := Nat.mul_le_mul a8 a8
  have g64 := Nat.mul_le_mul b8 b8
  have HIA := Lib.hid (fun w => isStructure_any (n : Int) S R w (by omega) (by omega))
  have HIB := Lib.hid (fun w => isStructure_any (m : Int) S2 R2 w (by omega) (by omega))
  have HMV := Lib.hid (fun w => areMoves_any n m S R S2 R2 s a8 b8 hs w)
  rw [hv] at HIA
  rw [hu] at HIB
  rw [hok] at HMV
  have HT := Lib.hid (Two.new w n S R m S2 R2)
  unfold boxS at HT
  have HTB := Lib.hid ht
  have HFI := Lib.hid (fun w (h : TabSp w) => Fields_moves n m s hok a8 b8 hs w h)
  obtain ⟨hM3, hMok⟩ := moves_ok hok
  have HPR := Lib.hid (fun va vb la lb k x w (hk : k ≤ 7) (hp : Pos n S R m S2 R2 la lb (k + 1)) h1 h2 h3 h4 => playReply_any k hk n S R m S2 R2 va vb la lb x w hp h1 h2 h3 h4)
  have HPS := Lib.hid (fun va vb la lb k x w (hk : k ≤ 7) (hp : Pos m S2 R2 n S R la lb (k + 1)) h1 h2 h3 h4 => playReply_any k hk m S2 R2 n S R va vb la lb x w hp h1 h2 h3 h4)
  obtain ⟨M, hM⟩ : ∃ M, mvsOf s = M := ⟨_, rfl⟩
  rw [hM] at hM3 hMok HFI hE
  clear hM hv hu hok ht h64 g64
  obtain ⟨N, hN⟩ : ∃ N, M.length = N := ⟨_, rfl⟩
  rw [hN] at hM3 HFI
  have HN := Lib.hid hN
  have HOK := Lib.hid hMok
  have HRES := Lib.hid hE
  have HAS := Lib.hid (And.intro aS (And.intro aR (And.intro bS bR)))
  clear hN hMok hE aS aR bS bR
  unfold strV at HIA HIB HMV HPR HPS
  unfold strV
  obtain ⟨c0', c1, c2, f0, f1, f2, hl1⟩ := HT.out.a.cells
  obtain ⟨d0, d1, d2, g0, g1, g2, hl2⟩ := HT.out.b.cells
  go_enter Tryz.func5, Tryz.ntmps5
  go_wp2_with fail
  refine (HIA.out _).mono ?_; rintro e w1 ⟨rfl, hb⟩
  have HT1 := Lib.hid (HT.out.below hb)
  clear hb c0' c1 c2 f0 f1 f2 hl1 d0 d1 d2 g0 g1 g2 hl2 HT
  obtain ⟨c0', c1, c2, f0, f1, f2, hl1⟩ := HT1.out.a.cells
  obtain ⟨d0, d1, d2, g0, g1, g2, hl2⟩ := HT1.out.b.cells
  go_wp2_with fail
  refine (HIB.out _).mono ?_; rintro e w2 ⟨rfl, hb⟩
  have HT2 := Lib.hid (HT1.out.below hb)
  clear hb c0' c1 c2 f0 f1 f2 hl1 d0 d1 d2 g0 g1 g2 hl2 HT1
  obtain ⟨c0', c1, c2, f0, f1, f2, hl1⟩ := HT2.out.a.cells
  obtain ⟨d0, d1, d2, g0, g1, g2, hl2⟩ := HT2.out.b.cells
  go_wp2_with fail
  refine (HMV.out _).mono ?_; rintro e w3 ⟨rfl, hb⟩
  have HT3 := Lib.hid (HT2.out.below hb)
  clear hb c0' c1 c2 f0 f1 f2 hl1 d0 d1 d2 g0 g1 g2 hl2 HT2
  go_upto_region 4 with fail
  obtain ⟨w4, hw4⟩ : ∃ w4, ((w3.alloc (.cells #[] 3)).alloc (.cells #[] 3)) = w4 := ⟨_, rfl⟩
  have HL : Hid (Own (w.heap.size + 2) w4 (.slice (some ⟨w3.heap.size, 0, none⟩) 0 0) [] ∧ Own (w.heap.size + 2) w4 (.slice (some ⟨w3.heap.size + 1, 0, none⟩) 0 0) [] ∧ Two w w4 n S R m S2 R2 ∧ w4.heap.size = w3.heap.size + 2 ∧ w.heap.size + 2 ≤ w3.heap.size) := by
    have hz := HT3.out.b.cells.2.2.2.2.2.2
    have hb1 : Below w3.heap.size w3 (w3.alloc (.cells #[] 3)) := (Below.refl _ _).alloc (Nat.le_refl _) _
    have hb2 : Below (w3.alloc (.cells #[] 3)).heap.size (w3.alloc (.cells #[] 3)) w4 := by rw [← hw4]; exact (Below.refl _ _).alloc (Nat.le_refl _) _
    have o1 := Own.lit0 (w.heap.size + 2) w3 (by omega)
    have o2 := Own.lit0 (w.heap.size + 2) (w3.alloc (.cells #[] 3)) (by simp; omega)
    refine ⟨o1.below hb2, ?_, (HT3.out.below hb1).below hb2, by rw [← hw4]; simp, by omega⟩
    rw [← hw4]
    simpa using o2
  rw [hw4]
  clear hw4 HT3
  go_wp2_with fail
  refine (HFI.out _ (HTB.out.below HL.out.2.2.1.old (Nat.le_refl _))).mono ?_; rintro e w5 ⟨rfl, hw⟩
  rw [hw]
  clear hw w5
  obtain ⟨w5, hw5⟩ : ∃ w5, w4.alloc (.cells (M.map Value.string).toArray 9) = w5 := ⟨_, rfl⟩
  rw [hw5]
  obtain ⟨v0, hv0⟩ : ∃ v, (Value.slice (some ⟨w3.heap.size, 0, none⟩) 0 0) = v := ⟨_, rfl⟩
  obtain ⟨u0, hu0⟩ : ∃ v, (Value.slice (some ⟨w3.heap.size + 1, 0, none⟩) 0 0) = v := ⟨_, rfl⟩
  obtain ⟨g, hg⟩ : ∃ g, w4.heap.size = g := ⟨_, rfl⟩
  have HP : Hid (Pg w g n S R m S2 R2 M v0 u0 [] [] w5) := by
    have hb1 : Below w4.heap.size w4 w5 := by rw [← hw5]; exact (Below.refl _ _).alloc (Nat.le_refl _) _
    obtain ⟨o1, o2, ht, z1, z2⟩ := HL.out
    rw [hv0] at o1
    rw [hu0] at o2
    refine ⟨ht.below hb1, o1.below hb1, o2.below hb1, ?_, ?_, ?_, by omega, ?_, fun j hj => ?_⟩
    · rw [← hv0, ← hu0]; simp [Value.ownBlock]
    · rw [← hv0]; simp [Value.ownBlock]; omega
    · rw [← hu0]; simp [Value.ownBlock]; omega
    · rw [← hw5, ← hg]; simp
    · rw [← hw5, ← hg, World.cell?_alloc_new]; simp [hj]
  rw [hv0, hu0, hg]
  have HK : Hid (Pk (stOf n S R) (stOf m S2 R2) n m 0 [] [] M (A0, B0, c0)) := ⟨rfl, rfl, by simp, by simp, rfl, HRES.out⟩
  clear hv0 hu0 hg hw5 HL HRES HFI HTB
  go_wp2_with fail
  go_loopw [38, 9, 10, 12, 13, 14, 15, 16] (fun i v u _ _ _ _ _ wr => ∃ (j : Nat) (A B : List Nat), j ≤ N ∧ i = .int .i64 (j : Int) ∧ Hid (Pg w g n S R m S2 R2 M v u A B wr) ∧ Hid (Pk (stOf n S R) (stOf m S2 R2) n m j A B (M.drop j) (A0, B0, c0))) (fun i _ _ _ _ _ _ _ _ => N - (intOf i).toNat)
  case atStart => exact ⟨0, [], [], by omega, rfl, HP, HK⟩
  case round =>
    clear HP HK
    obtain ⟨j, A, B, hj, rfl, HP, HK⟩ := hrel
    by_cases hlt : j < N
    · have hjI : (j : Int) < (N : Int) := by omega
      have hjM : j < M.length := by rw [HN.out]; exact hlt
      have hcm := HP.out.mv j hjM
      have hdrop : M.drop j = M[j] :: M.drop (j + 1) := List.drop_eq_getElem_cons hjM
      obtain ⟨x, y, hp, hm⟩ := okPc_parts (HOK.out M[j] (List.getElem_mem hjM))
      have hmp := okMv_parts hm
      rw [hp] at hcm hdrop
      have HK2 : Hid (Pk (stOf n S R) (stOf m S2 R2) n m j A B (⟨#[x, y]⟩ :: M.drop (j + 1)) (A0, B0, c0)) := by have := HK.out; rw [hdrop] at this; exact this
      obtain ⟨k, hk⟩ : ∃ k, N = j + (k + 1) := ⟨N - j - 1, by omega⟩
      have hkl : (M.drop (j + 1)).length = k := by rw [List.length_drop, HN.out]; omega
      have hKI : (N : Int) - (j : Int) = (k : Int) + 1 := by omega
      have i0 : (⟨#[x, y]⟩ : ByteArray).size = 2 := rfl
      have HX : Hid (((⟨#[x, y]⟩ : ByteArray)[0]'(by show 0 < 2; decide)).toNat = x.toNat) := rfl
      have HY : Hid (((⟨#[x, y]⟩ : ByteArray)[1]'(by show 1 < 2; decide)).toNat = y.toNat) := rfl
      have HLL : Hid (A.length ≤ 2000000 ∧ B.length ≤ 2000000) := ⟨by rw [HK2.out.la]; omega, by rw [HK2.out.lb]; omega⟩
      have hgz := HP.out.hi
      obtain ⟨c0', c1, c2, f0, f1, f2, hl1⟩ := HP.out.two.a.cells
      obtain ⟨d0, d1, d2, g0, g1, g2, hl2⟩ := HP.out.two.b.cells
      clear HK hdrop hp hm hk
      rcases hmp with ⟨hx, h48, hlt2⟩ | ⟨hx, h48, hlt2⟩
      · obtain ⟨e0, he⟩ : ∃ e, y.toNat - 48 = e := ⟨_, rfl⟩
        have hy7 : ((((⟨#[x, y]⟩ : ByteArray)[1]'(by show 1 < 2; decide)).toNat : Int) - 48) % 256 = (e0 : Int) := by
          rw [HY.out]
          have := y.toNat_lt
          omega
        rw [he] at hlt2
        have he8 : e0 ≤ 8 := by omega
        have hx7 : ((((⟨#[x, y]⟩ : ByteArray)[0]'(by show 0 < 2; decide)).toNat : Nat) : Int) = 97 := by rw [HX.out, hx]; rfl
        have hl : A.length = B.length := by rw [HK2.out.la, HK2.out.lb]
        have hpl : A.length + (k + 1) ≤ 8 := by rw [HK2.out.la]; omega
        have c1 := fun w1 (h1 : Below wr.heap.size wr w1) => HPR.out _ _ A B k e0 w1 (by omega) ⟨HAS.out.1, HAS.out.2.1, a8, HAS.out.2.2.1, HAS.out.2.2.2, b8, hl, hpl, HK2.out.ia, HK2.out.ib⟩ (HP.out.a.nums.below h1) (HP.out.b.nums.below h1) HK2.out.sm hlt2
        have hST := Lib.hid (fun z => HK2.out.stepA hx (by rw [he]; exact hlt2) (z := z))
        have hEN := Lib.hid (HK2.out.endA hx)
        rw [he, hkl] at hST hEN
        cases hbe : bestB (stOf n S R) A (stOf m S2 R2) B k e0 with
        | none =>
          rw [hbe, optV_none] at c1
          have HEN := Lib.hid (hEN.out hbe)
          have C1 := Lib.hid c1
          clear c1 hST hEN hbe hl hpl HPR HPS HOK HAS HN
          go_wp2_with fail
          refine (C1.out _ (Below.refl _ _)).mono ?_; rintro e w1 ⟨rfl, hb⟩
          have HP1 := Lib.hid (HP.out.below hb)
          clear hb c0' c1 c2 f0 f1 f2 hl1 d0 d1 d2 g0 g1 g2 hl2 hcm
          go_wp2_with (first | (at_builtin; refine wpList_ownN1 HP1.out.a HLL.out.1 rfl (.tmp 63) (.tmp 65) rfl e0 _ rfl rfl rfl ?_; intro v' w2 ho hg hat; have HP2 := Lib.hid (HP1.out.pushA ho hg hat); clear ho hg hat) | fail)
          go_ret3
          obtain ⟨rfl, rfl, rfl⟩ : A0 = _ ∧ B0 = _ ∧ c0 = _ := by have := HEN.out; injection this with h1 h2; injection h2 with h2 h3; exact ⟨h1, h2, h3⟩
          exact ⟨_, _, rfl, HP2.out.a.nums, HP2.out.b.nums, HP2.out.two.old⟩
        | some z =>
          rw [hbe, optV_some] at c1
          have HST := Lib.hid (hST.out z hbe)
          have C1 := Lib.hid c1
          clear c1 hST hEN hbe hl hpl HPR HPS HOK HAS HN
          go_wp2_with fail
          refine (C1.out _ (Below.refl _ _)).mono ?_; rintro e w1 ⟨rfl, hb⟩
          have HP1 := Lib.hid (HP.out.below hb)
          clear hb c0' c1 c2 f0 f1 f2 hl1 d0 d1 d2 g0 g1 g2 hl2 hcm
          go_wp2_with (first | (at_builtin; refine wpList_ownN1 HP1.out.a HLL.out.1 rfl (.tmp 63) (.tmp 65) rfl e0 _ rfl rfl rfl ?_; intro v' w2 ho hg hat; have HP2 := Lib.hid (HP1.out.pushA ho hg hat); clear ho hg hat) | (at_builtin; refine wpList_ownN1 HP2.out.b HLL.out.2 rfl (.tmp 68) (.tmp 70) rfl z _ rfl rfl rfl ?_; intro v2 w3 ho hg hat; have HP3 := Lib.hid (HP2.out.pushB ho hg hat); clear ho hg hat) | fail)
          go_roundw
          case rel => exact ⟨j + 1, _, _, by omega, by go_num, HP3, HST⟩
          case measure => simp [intOf]; omega
      · obtain ⟨e0, he⟩ : ∃ e, y.toNat - 48 = e := ⟨_, rfl⟩
        have hy7 : ((((⟨#[x, y]⟩ : ByteArray)[1]'(by show 1 < 2; decide)).toNat : Int) - 48) % 256 = (e0 : Int) := by
          rw [HY.out]
          have := y.toNat_lt
          omega
        rw [he] at hlt2
        have he8 : e0 ≤ 8 := by omega
        have hx7 : ((((⟨#[x, y]⟩ : ByteArray)[0]'(by show 0 < 2; decide)).toNat : Nat) : Int) = 98 := by rw [HX.out, hx]; rfl
        have hl : A.length = B.length := by rw [HK2.out.la, HK2.out.lb]
        have hpl : B.length + (k + 1) ≤ 8 := by rw [HK2.out.lb]; omega
        have c1 := fun w1 (h1 : Below wr.heap.size wr w1) => HPS.out _ _ B A k e0 w1 (by omega) ⟨HAS.out.2.2.1, HAS.out.2.2.2, b8, HAS.out.1, HAS.out.2.1, a8, hl.symm, hpl, HK2.out.ib, HK2.out.ia⟩ (HP.out.b.nums.below h1) (HP.out.a.nums.below h1) (by rw [same_swap hl]; exact HK2.out.sm) hlt2
        have hST := Lib.hid (fun z => HK2.out.stepB hx (by rw [he]; exact hlt2) (z := z))
        have hEN := Lib.hid (HK2.out.endB hx)
        rw [he, hkl] at hST hEN
        cases hbe : bestB (stOf m S2 R2) B (stOf n S R) A k e0 with
        | none =>
          rw [hbe, optV_none] at c1
          have HEN := Lib.hid (hEN.out hbe)
          have C1 := Lib.hid c1
          clear c1 hST hEN hbe hl hpl HPR HPS HOK HAS HN
          go_wp2_with fail
          refine (C1.out _ (Below.refl _ _)).mono ?_; rintro e w1 ⟨rfl, hb⟩
          have HP1 := Lib.hid (HP.out.below hb)
          clear hb c0' c1 c2 f0 f1 f2 hl1 d0 d1 d2 g0 g1 g2 hl2 hcm
          go_wp2_with (first | (at_builtin; refine wpList_ownN1 HP1.out.b HLL.out.2 rfl (.tmp 85) (.tmp 87) rfl e0 _ rfl rfl rfl ?_; intro v' w2 ho hg hat; have HP2 := Lib.hid (HP1.out.pushB ho hg hat); clear ho hg hat) | fail)
          go_ret3
          obtain ⟨rfl, rfl, rfl⟩ : A0 = _ ∧ B0 = _ ∧ c0 = _ := by have := HEN.out; injection this with h1 h2; injection h2 with h2 h3; exact ⟨h1, h2, h3⟩
          exact ⟨_, _, rfl, HP2.out.a.nums, HP2.out.b.nums, HP2.out.two.old⟩
        | some z =>
          rw [hbe, optV_some] at c1
          have HST := Lib.hid (hST.out z hbe)
          have C1 := Lib.hid c1
          clear c1 hST hEN hbe hl hpl HPR HPS HOK HAS HN
          go_wp2_with fail
          refine (C1.out _ (Below.refl _ _)).mono ?_; rintro e w1 ⟨rfl, hb⟩
          have HP1 := Lib.hid (HP.out.below hb)
          clear hb c0' c1 c2 f0 f1 f2 hl1 d0 d1 d2 g0 g1 g2 hl2 hcm
          go_wp2_with (first | (at_builtin; refine wpList_ownN1 HP1.out.b HLL.out.2 rfl (.tmp 85) (.tmp 87) rfl e0 _ rfl rfl rfl ?_; intro v' w2 ho hg hat; have HP2 := Lib.hid (HP1.out.pushB ho hg hat); clear ho hg hat) | (at_builtin; refine wpList_ownN1 HP2.out.a HLL.out.1 rfl (.tmp 90) (.tmp 92) rfl z _ rfl rfl rfl ?_; intro v2 w3 ho hg hat; have HP3 := Lib.hid (HP2.out.pushA ho hg hat); clear ho hg hat) | fail)
          go_roundw
          case rel => exact ⟨j + 1, _, _, by omega, by go_num, HP3, HST⟩
          case measure => simp [intOf]; omega
    · obtain rfl : j = N := by omega
      have HE := HK.out.res
      rw [List.drop_eq_nil_of_le (by rw [HN.out]; exact Nat.le_refl _)] at HE
      obtain ⟨rfl, rfl, rfl⟩ : A0 = _ ∧ B0 = _ ∧ c0 = _ := by have := HE.symm; injection this with h1 h2; injection h2 with h2 h3; exact ⟨h1, h2, h3⟩
      clear HE
      go_wp2_with fail
      go_ret3
      exact ⟨_, _, rfl, HP.out.a.nums, HP.out.b.nums, HP.out.two.old⟩
end Go.Proofs.YthmhjihppbeodaaGreatDoor

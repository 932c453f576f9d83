/- The reference's SecondWins and SameRank from no elements; SameWords of the program and of the reference; the law FnExactSameWords. Conditions: the structures are valid; a text's length fits an integer. -/
import Derived.Test.YtagnikcnakdehaaDoorSameW
import Derived.Test.YtagnikcnakdehaaDoorSum
namespace Go.Proofs.YtagnikcnakdehaaDoor
open Go.RowKit
set_option linter.unusedVariables false

theorem specValid_b (n : Nat) (S R : ByteArray) (w : World) (h : validB n S R = true) : Calls Tryd.prog 101 #[strV n S R] w (BoolB w true) := by
  obtain ⟨h1, h2, h3, h4, _⟩ := valid_is h
  have h5 : n * n ≤ 64 := Nat.mul_le_mul h2 h2
  have hc := specValid_any n S R w (by omega) (by omega)
  rw [h] at hc
  exact hc
theorem l4List_nil (n : Nat) (S R : ByteArray) (a : Option Addr) (cap : Nat) (w : World) (h : validB n S R = true) : Calls Tryd.prog 238 #[strV n S R, .slice a 0 cap] w (BoolB w true) := by
  have HV := Lib.hid (fun w => specValid_b n S R w h)
  have HB0 : Hid (Below w.heap.size w (boxS w n S R)) := boxS_below _ _ _ _
  unfold boxS at HB0
  unfold strV at HV ⊢
  clear h
  go_enter Tryd.func238, Tryd.ntmps238
  go_wp2_with fail
  go_loop [5] (fun i => i = .int .i64 0) (fun _ => 0)
  case atStart => rfl
  case round =>
    subst hrel
    go_wp2_with fail
    refine (HV.out _).mono ?_; rintro e w1 ⟨rfl, hb⟩
    have HB1 : Hid (Below w.heap.size w w1) := HB0.out.trans (hb.mono (by simp))
    clear hb
    go_wp2_with fail
    go_ret
    exact ⟨rfl, HB1.out⟩
theorem l4Lists_nil (n : Nat) (S R : ByteArray) (m : Nat) (S2 R2 : ByteArray) (a b : Option Addr) (ca cb : Nat) (w : World) (h : validB n S R = true) (h2 : validB m S2 R2 = true) : Calls Tryd.prog 223 #[strV n S R, .slice a 0 ca, strV m S2 R2, .slice b 0 cb] w (BoolB w true) := by
  have H1 := Lib.hid (fun w => l4List_nil n S R a ca w h)
  have H2 := Lib.hid (fun w => l4List_nil m S2 R2 b cb w h2)
  have HT := Lib.hid (Two.new w n S R m S2 R2)
  unfold boxS at HT
  unfold strV at H1 H2 ⊢
  clear h h2
  obtain ⟨a0, a1, a2, _, _, _, _⟩ := HT.out.a.cells
  obtain ⟨b0, b1, b2, _, _, _, _⟩ := HT.out.b.cells
  go_enter Tryd.func223, Tryd.ntmps223
  go_wp2_with fail
  refine (H1.out _).mono ?_; rintro e w1 ⟨rfl, hb⟩
  have HT1 := Lib.hid (HT.out.below hb)
  clear hb a0 a1 a2 b0 b1 b2
  obtain ⟨a0, a1, a2, _, _, _, _⟩ := HT1.out.a.cells
  obtain ⟨b0, b1, b2, _, _, _, _⟩ := HT1.out.b.cells
  go_wp2_with fail
  refine (H2.out _).mono ?_; rintro e w2 ⟨rfl, hb⟩
  have HT2 := Lib.hid (HT1.out.below hb)
  clear hb
  go_wp2_with fail
  go_ret
  exact ⟨rfl, HT2.out.old⟩
theorem l1In_b (n lo hi : Int) (w : World) : Calls Tryd.prog 65 #[.int .i64 n, .int .i64 lo, .int .i64 hi] w (BoolB w (inB n lo hi)) :=
  (l1In_any n lo hi w).mono fun e w' ⟨h1, h2⟩ => ⟨h1, by rw [← h2]; exact Below.refl _ _⟩
theorem l5Ready_nil (n : Nat) (S R : ByteArray) (m : Nat) (S2 R2 : ByteArray) (a b : Option Addr) (ca cb : Nat) (K : Int) (w : World) (h : validB n S R = true) (h2 : validB m S2 R2 = true) : Calls Tryd.prog 196 #[strV n S R, .slice a 0 ca, strV m S2 R2, .slice b 0 cb, .int .i64 K] w (BoolB w (inB K 0 3)) := by
  have H1 := Lib.hid (fun w => l4Lists_nil n S R m S2 R2 a b ca cb w h h2)
  have HT := Lib.hid (Two.new w n S R m S2 R2)
  unfold boxS at HT
  unfold strV at H1 ⊢
  clear h h2
  obtain ⟨a0, a1, a2, _, _, _, _⟩ := HT.out.a.cells
  obtain ⟨b0, b1, b2, _, _, _, _⟩ := HT.out.b.cells
  have HI := Lib.hid (l1In_b K 0 3)
  generalize inB K 0 3 = B at *
  go_enter Tryd.func196, Tryd.ntmps196
  go_wp2_with fail
  refine (H1.out _).mono ?_; rintro e w1 ⟨rfl, hb⟩
  have HB1 := Lib.hid (HT.out.old.trans (hb.mono HT.out.old.size))
  clear hb
  go_wp2_with fail
  refine (HI.out _).mono ?_; rintro e w2 ⟨rfl, hb⟩
  have HB2 := Lib.hid (HB1.out.trans (hb.mono HB1.out.size))
  clear hb
  go_wp2_with fail
  go_ret
  exact ⟨rfl, HB2.out⟩
theorem specSecond_nil (n : Nat) (S R : ByteArray) (m : Nat) (S2 R2 : ByteArray) (va vb : Value) (K : Int) (w : World) (h : validB n S R = true) (h2 : validB m S2 R2 = true) (hva : Own 0 w va []) (hvb : Own 0 w vb []) :
    Calls Tryd.prog 146 #[strV n S R, va, strV m S2 R2, vb, .int .i64 K] w (BoolB w (inB K 0 3 && Gs.wins K.toNat (stOf n S R) [] (stOf m S2 R2) [])) := by
  obtain ⟨a1, a8, aS, aR, _⟩ := valid_is h
  obtain ⟨b1, b8, bS, bR, _⟩ := valid_is h2
  have HNA := Lib.hid hva.nums; have HNB := Lib.hid hvb.nums
  obtain ⟨ga, ca, rfl, _⟩ := hva.cells
  obtain ⟨gb, cb, rfl, _⟩ := hvb.cells
  have H1 := Lib.hid (fun w => l5Ready_nil n S R m S2 R2 (some ⟨ga, 0, none⟩) (some ⟨gb, 0, none⟩) ca cb K w h h2)
  have H2 := Lib.hid (fun (hK : inB K 0 3 = true) w' (hb : Below w.heap.size w w') => l5Wins_any n S R m S2 R2 _ _ [] [] K.toNat w' ⟨aS, aR, a8, bS, bR, b8, rfl, (by have := inB_iff.1 hK; simp; omega), by simp, by simp⟩ (by have := inB_iff.1 hK; omega) (HNA.out.below hb) (HNB.out.below hb))
  have HT := Lib.hid (Two.new w n S R m S2 R2)
  unfold boxS at HT
  unfold strV at H1 H2 ⊢
  clear h h2 aS aR bS bR hva hvb
  obtain ⟨a0, a1, a2, _, _, _, _⟩ := HT.out.a.cells
  obtain ⟨b0, b1, b2, _, _, _, _⟩ := HT.out.b.cells
  obtain ⟨B, hB⟩ : ∃ B, inB K 0 3 = B := ⟨_, rfl⟩
  rw [hB] at H1 H2 ⊢
  cases B
  · clear hB
    simp only [List.length_nil] at *
    go_enter Tryd.func146, Tryd.ntmps146
    go_wp2_with fail
    refine (H1.out _).mono ?_; rintro e w1 ⟨rfl, hb⟩
    have HB1 := Lib.hid (HT.out.old.trans (hb.mono HT.out.old.size))
    clear hb
    go_wp2_with fail
    go_ret
    exact ⟨rfl, HB1.out⟩
  · have hK := inB_iff.1 hB
    obtain ⟨k, rfl⟩ := Int.eq_ofNat_of_zero_le hK.1
    simp only [List.length_nil, Int.toNat_natCast, Bool.true_and] at *
    generalize Gs.wins k (stOf n S R) [] (stOf m S2 R2) [] = B at *
    clear hB
    go_enter Tryd.func146, Tryd.ntmps146
    go_wp2_with fail
    refine (H1.out _).mono ?_; rintro e w1 ⟨rfl, hb⟩
    have HT1 := Lib.hid (HT.out.below hb)
    clear hb a0 a1 a2 b0 b1 b2
    obtain ⟨a0, a1, a2, _, _, _, _⟩ := HT1.out.a.cells
    obtain ⟨b0, b1, b2, _, _, _, _⟩ := HT1.out.b.cells
    go_wp2_with fail
    refine (H2.out (by simp) _ HT1.out.old).mono ?_; rintro e w2 ⟨rfl, hb⟩
    have HT2 := Lib.hid (HT1.out.below hb)
    clear hb
    go_wp2_with fail
    go_ret
    exact ⟨rfl, HT2.out.old⟩
theorem specSameRank_any (n : Nat) (S R : ByteArray) (m : Nat) (S2 R2 : ByteArray) (K : Int) (w : World) (h : validB n S R = true) (h2 : validB m S2 R2 = true) :
    Calls Tryd.prog 79 #[strV n S R, strV m S2 R2, .int .i64 K] w (BoolB w (inB K 0 3 && Gs.wins K.toNat (stOf n S R) [] (stOf m S2 R2) [])) := by
  have HT := Lib.hid (Two.new w n S R m S2 R2)
  have HS := Lib.hid (fun va vb w => specSecond_nil n S R m S2 R2 va vb K w h h2)
  unfold boxS at HT
  unfold strV at HS ⊢
  generalize (inB K 0 3 && Gs.wins K.toNat (stOf n S R) [] (stOf m S2 R2) []) = B at *
  obtain ⟨a0, a1, a2, _, _, _, _⟩ := HT.out.a.cells
  obtain ⟨b0, b1, b2, _, _, _, _⟩ := HT.out.b.cells
  clear h h2
  obtain ⟨w0, hw0⟩ : ∃ w0, ((w.alloc (.cells #[.int .i64 (n : Int), .string S, .string R] 41)).alloc (.cells #[.int .i64 (m : Int), .string S2, .string R2] 41)) = w0 := ⟨_, rfl⟩
  have HB0 : Hid (Below w.heap.size w ((w0.alloc (.cells #[] 3)).alloc (.cells #[] 3))) := by
    rw [hw0] at HT
    exact (HT.out.old.alloc HT.out.old.size _).alloc (by have := HT.out.old.size; simp; omega) _
  have hz0 : w0.heap.size = w.heap.size + 2 := by rw [← hw0]; simp
  have ho1 : Own 0 ((w0.alloc (.cells #[] 3)).alloc (.cells #[] 3)) (.slice (some ⟨w.heap.size + 2, 0, none⟩) 0 0) [] := (Own.lit 0 w0 _ hz0 (Nat.zero_le _)).alloc _
  have ho2 : Own 0 ((w0.alloc (.cells #[] 3)).alloc (.cells #[] 3)) (.slice (some ⟨w.heap.size + 3, 0, none⟩) 0 0) [] := Own.lit 0 (w0.alloc (.cells #[] 3)) _ (by simp; omega) (Nat.zero_le _)
  rw [← hw0] at HB0 ho1 ho2
  have HO1 := Lib.hid ho1; have HO2 := Lib.hid ho2
  clear ho1 ho2
  clear hw0 hz0
  go_enter Tryd.func79, Tryd.ntmps79
  go_wp2_with fail
  refine (HS.out _ _ _ HO1.out HO2.out).mono ?_; rintro e w1 ⟨rfl, hb⟩
  have HB1 : Hid (Below w.heap.size w w1) := HB0.out.trans (hb.mono HB0.out.size)
  clear hb
  go_wp2_with fail
  go_ret
  exact ⟨rfl, HB1.out⟩

theorem wordSt_valid {s : ByteArray} (h : wordB s = true) : 1 ≤ s.size ∧ s.size ≤ 8 := by
  simp only [wordB, Bool.and_eq_true, inB_iff] at h
  omega
/-- Whether SameWords is true. -/
def sameB (v u : ByteArray) (K : Int) : Bool := wordB v && (wordB u && (inB K 0 3 && Gs.wins K.toNat (wSt v) [] (wSt u) []))

theorem implSameWords_any (v u : ByteArray) (K : Int) (w : World) (hv : v.size ≤ 9223372036854775807) (hu : u.size ≤ 9223372036854775807) :
    Calls Tryd.prog 20 #[.string v, .string u, .int .i64 K] w (BoolB w (sameB v u K)) := by
  have H1 := Lib.hid (fun w => isWord_any v w hv)
  have H2 := Lib.hid (fun w => isWord_any u w hu)
  have HS : Hid (sameB v u K = (wordB v && (wordB u && (inB K 0 3 && Gs.wins K.toNat (wSt v) [] (wSt u) [])))) := rfl
  obtain ⟨RES, hres⟩ : ∃ p, sameB v u K = p := ⟨_, rfl⟩
  rw [hres] at HS ⊢
  clear hres hv hu
  obtain ⟨b1, hb1⟩ : ∃ b, wordB v = b := ⟨_, rfl⟩
  obtain ⟨b2, hb2⟩ : ∃ b, wordB u = b := ⟨_, rfl⟩
  have HV1 := Lib.hid hb1; have HV2 := Lib.hid hb2
  rw [hb1] at H1 HS
  rw [hb2] at H2 HS
  clear hb1 hb2
  cases b1
  · go_enter Tryd.func20, Tryd.ntmps20
    go_wp2_with fail
    refine (H1.out _).mono ?_; rintro e w1 ⟨rfl, hb⟩
    have HB1 := Lib.hid hb; clear hb
    go_wp2_with fail
    go_ret
    exact ⟨ret_bool (by rw [HS.out]; rfl), HB1.out⟩
  · cases b2
    · go_enter Tryd.func20, Tryd.ntmps20
      go_wp2_with fail
      refine (H1.out _).mono ?_; rintro e w1 ⟨rfl, hb⟩
      have HB1 := Lib.hid hb; clear hb
      go_wp2_with fail
      refine (H2.out _).mono ?_; rintro e w2 ⟨rfl, hb⟩
      have HB2 := Lib.hid (HB1.out.trans (hb.mono HB1.out.size)); clear hb
      go_wp2_with fail
      go_ret
      exact ⟨ret_bool (by rw [HS.out]; rfl), HB2.out⟩
    · by_cases k0 : 0 ≤ K
      · by_cases k3 : K ≤ 3
        · obtain ⟨k, rfl⟩ := Int.eq_ofNat_of_zero_le k0
          have H3 := Lib.hid (fun w => sameWords_any v u k w (wordSt_valid HV1.out).2 (wordSt_valid HV2.out).2 (by omega))
          rw [inB_true k0 k3, Int.toNat_natCast] at HS
          generalize Gs.wins k (wSt v) [] (wSt u) [] = B at *
          go_enter Tryd.func20, Tryd.ntmps20
          go_wp2_with fail
          refine (H1.out _).mono ?_; rintro e w1 ⟨rfl, hb⟩
          have HB1 := Lib.hid hb; clear hb
          go_wp2_with fail
          refine (H2.out _).mono ?_; rintro e w2 ⟨rfl, hb⟩
          have HB2 := Lib.hid (HB1.out.trans (hb.mono HB1.out.size)); clear hb
          go_wp2_with fail
          refine (H3.out _).mono ?_; rintro e w3 ⟨rfl, hb⟩
          have HB3 := Lib.hid (HB2.out.trans (hb.mono HB2.out.size)); clear hb
          go_wp2_with fail
          go_ret
          exact ⟨ret_bool (by rw [HS.out]; simp), HB3.out⟩
        · rw [inB_hi k3] at HS
          go_enter Tryd.func20, Tryd.ntmps20
          go_wp2_with fail
          refine (H1.out _).mono ?_; rintro e w1 ⟨rfl, hb⟩
          have HB1 := Lib.hid hb; clear hb
          go_wp2_with fail
          refine (H2.out _).mono ?_; rintro e w2 ⟨rfl, hb⟩
          have HB2 := Lib.hid (HB1.out.trans (hb.mono HB1.out.size)); clear hb
          go_wp2_with fail
          go_ret
          exact ⟨ret_bool (by rw [HS.out]; rfl), HB2.out⟩
      · rw [inB_lo k0] at HS
        go_enter Tryd.func20, Tryd.ntmps20
        go_wp2_with fail
        refine (H1.out _).mono ?_; rintro e w1 ⟨rfl, hb⟩
        have HB1 := Lib.hid hb; clear hb
        go_wp2_with fail
        refine (H2.out _).mono ?_; rintro e w2 ⟨rfl, hb⟩
        have HB2 := Lib.hid (HB1.out.trans (hb.mono HB1.out.size)); clear hb
        go_wp2_with fail
        go_ret
        exact ⟨ret_bool (by rw [HS.out]; rfl), HB2.out⟩

theorem specSameWords_any (v u : ByteArray) (K : Int) (w : World) (hv : v.size ≤ 9223372036854775807) (hu : u.size ≤ 9223372036854775807) :
    Calls Tryd.prog 28 #[.string v, .string u, .int .i64 K] w (BoolB w (sameB v u K)) := by
  have H1 := Lib.hid (fun w => specWordValid_any v w hv)
  have H2 := Lib.hid (fun w => specWordValid_any u w hu)
  have HS : Hid (sameB v u K = (wordB v && (wordB u && (inB K 0 3 && Gs.wins K.toNat (wSt v) [] (wSt u) [])))) := rfl
  obtain ⟨RES, hres⟩ : ∃ p, sameB v u K = p := ⟨_, rfl⟩
  rw [hres] at HS ⊢
  clear hres hv hu
  obtain ⟨b1, hb1⟩ : ∃ b, wordB v = b := ⟨_, rfl⟩
  obtain ⟨b2, hb2⟩ : ∃ b, wordB u = b := ⟨_, rfl⟩
  have HV1 := Lib.hid hb1; have HV2 := Lib.hid hb2
  rw [hb1] at H1 HS
  rw [hb2] at H2 HS
  clear hb1 hb2
  cases b1
  · go_enter Tryd.func28, Tryd.ntmps28
    go_wp2_with fail
    refine (H1.out _).mono ?_; rintro e w' ⟨rfl, rfl⟩
    go_wp2_with fail
    go_ret
    exact ⟨ret_bool (by rw [HS.out]; rfl), Below.refl _ _⟩
  · cases b2
    · go_enter Tryd.func28, Tryd.ntmps28
      go_wp2_with fail
      refine (H1.out _).mono ?_; rintro e w' ⟨rfl, rfl⟩
      go_wp2_with fail
      refine (H2.out _).mono ?_; rintro e w' ⟨rfl, rfl⟩
      go_wp2_with fail
      go_ret
      exact ⟨ret_bool (by rw [HS.out]; rfl), Below.refl _ _⟩
    · obtain ⟨v1, v8⟩ := wordSt_valid HV1.out
      obtain ⟨u1, u8⟩ := wordSt_valid HV2.out
      have H3 := Lib.hid (fun w => l12Structure_any v w v8)
      have H4 := Lib.hid (fun w => l12Structure_any u w u8)
      have H5 := Lib.hid (fun w => specSameRank_any v.size (bitsOf (letB v) v.size) (gridOf ltB v.size) u.size (bitsOf (letB u) u.size) (gridOf ltB u.size) K w (valid_bits v1 v8 _ _) (valid_bits u1 u8 _ _))
      have HS5 : Hid (RES = (inB K 0 3 && Gs.wins K.toNat (stOf v.size (bitsOf (letB v) v.size) (gridOf ltB v.size)) [] (stOf u.size (bitsOf (letB u) u.size) (gridOf ltB u.size)) [])) := by
        have h := HS.out
        simp only [Bool.true_and] at h
        exact h
      clear v1 u1
      generalize (inB K 0 3 && Gs.wins K.toNat (stOf v.size (bitsOf (letB v) v.size) (gridOf ltB v.size)) [] (stOf u.size (bitsOf (letB u) u.size) (gridOf ltB u.size)) []) = B at *
      go_enter Tryd.func28, Tryd.ntmps28
      go_wp2_with fail
      refine (H1.out _).mono ?_; rintro e w' ⟨rfl, rfl⟩
      go_wp2_with fail
      refine (H2.out _).mono ?_; rintro e w' ⟨rfl, rfl⟩
      go_wp2_with fail
      refine (H3.out _).mono ?_; rintro e w1 ⟨rfl, hb⟩
      have HB1 := Lib.hid hb; clear hb
      go_wp2_with fail
      refine (H4.out _).mono ?_; rintro e w2 ⟨rfl, hb⟩
      have HB2 := Lib.hid (HB1.out.trans (hb.mono HB1.out.size)); clear hb
      go_wp2_with fail
      refine (H5.out _).mono ?_; rintro e w3 ⟨rfl, hb⟩
      have HB3 := Lib.hid (HB2.out.trans (hb.mono HB2.out.size)); clear hb
      go_wp2_with fail
      go_ret
      exact ⟨ret_bool (by rw [HS5.out]), HB3.out⟩

end Go.Proofs.YtagnikcnakdehaaDoor

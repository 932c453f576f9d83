/- The reference's l5New: a table without descriptions; the program's sameWords. Condition: the words have at most eight letters. -/
import Derived.Test.YtenjojakjdaamaaDoorType
import Derived.Test.YtenjojakjdaamaaDoorWord
import Derived.Laws.ResultCell
import Derived.Test.YtenjojakjdaamaaDoorValid
import Derived.Deep.RegionHeld3
import Derived.Test.YtenjojakjdaamaaDoorSum
namespace Go.Proofs.YtenjojakjdaamaaDoor
open Go.RowKit
set_option linter.unusedVariables false

theorem bucket_nil (k : Nat) : bucket [] k = [] := rfl

/-- The plain form of a word's structure. -/
def wSt (s : ByteArray) : Gs.St := stOf s.size (bitsOf (letB s) s.size) (gridOf ltB s.size)
theorem grid_size (r : Nat → Nat → Bool) (n : Nat) : (gridOf r n).size = n * n := bitsOf_size _ _
theorem sameWords_any (v u : ByteArray) (k : Nat) (w : World) (hv : v.size ≤ 8) (hu : u.size ≤ 8) (hk : k ≤ 8) :
    Calls Tryd.prog 78 #[.string v, .string u, .int .i64 (k : Int)] w fun e w' => e = .returned (.bool (Gs.wins k (wSt v) [] (wSt u) [])) ∧ Below w.heap.size w w' := by
  have h1 := Lib.hid (fun w => implWordStr_any v w hv)
  have h2 := Lib.hid (fun w => implWordStr_any u w hu)
  have hp : Pos v.size (bitsOf (letB v) v.size) (gridOf ltB v.size) u.size (bitsOf (letB u) u.size) (gridOf ltB u.size) [] [] k :=
    ⟨bitsOf_size _ _, grid_size _ _, hv, bitsOf_size _ _, grid_size _ _, hu, rfl, by simpa using hk, by simp, by simp⟩
  have h3 := Lib.hid (fun w => secondWins_any v.size (bitsOf (letB v) v.size) (gridOf ltB v.size) u.size (bitsOf (letB u) u.size) (gridOf ltB u.size) (.slice none 0 0) (.slice none 0 0) [] [] k w hp (NumsAt.nil w) (NumsAt.nil w))
  clear hp
  obtain ⟨B, hB⟩ : ∃ B, Gs.wins k (wSt v) [] (wSt u) [] = B := ⟨_, rfl⟩
  have HB := Lib.hid hB
  rw [hB]
  clear hB
  go_enter Tryd.func78, Tryd.ntmps78
  go_wp2_with fail
  refine (h1.out _).mono ?_; rintro e w1 ⟨rfl, hb⟩
  have HB1 := Lib.hid hb; clear hb
  go_wp2_with fail
  refine (h2.out _).mono ?_; rintro e w2 ⟨rfl, hb⟩
  have HB2 := Lib.hid (HB1.out.trans (hb.mono HB1.out.size)); clear hb
  go_wp2_with fail
  refine (h3.out _).mono ?_; rintro e w3 ⟨rfl, hb⟩
  have HB3 := Lib.hid (HB2.out.trans (hb.mono HB2.out.size)); clear hb
  go_wp2_with fail
  go_ret
  exact ⟨ret_bool HB.out, HB3.out⟩
end Go.Proofs.YtenjojakjdaamaaDoor
/- The reference's l5Wins, SecondWins and SameRank from no elements; SameWords of the program and of the reference; the law FnExactSameWords. Conditions: the structures are valid; a text's length fits an integer. -/
namespace Go.Proofs.YtenjojakjdaamaaDoor
open Go.RowKit
set_option linter.unusedVariables false

/-- What a call leaves that returns a truth and turns nothing that was there. -/
def BoolB (w : World) (b : Bool) (e : Ending) (w' : World) : Prop := e = .returned (.bool b) ∧ Below w.heap.size w w'

theorem wins_num {D : List (List UInt8)} (hD : D.Nodup) {a b : Gs.St} {k : Nat} {la lb : List Nat} (hl : la.length = lb.length) {n m : Nat} (h1 : Gs.TypeNum D a k la n) (h2 : Gs.TypeNum D b k lb m) : ((n : Int) == (m : Int)) = Gs.wins k a la b lb := by
  rw [Bool.eq_iff_iff, beq_iff_eq, Gs.wins_iff hl, ← Gs.typeNum_iff hD h1 h2]
  omega
theorem calls_le (n k : Nat) (hn : n ≤ 8) (hk : k ≤ 3) : callsN n k ≤ 585 := by
  have h0 : callsN n 0 = 1 := rfl
  have h1 : callsN n 1 = n * 1 + 1 := rfl
  have h2 : callsN n 2 = n * (n * 1 + 1) + 1 := rfl
  have h3 : callsN n 3 = n * (n * (n * 1 + 1) + 1) + 1 := rfl
  have a1 : n * 1 + 1 ≤ 9 := by omega
  have a2 : n * (n * 1 + 1) ≤ 8 * 9 := Nat.mul_le_mul hn a1
  have a3 : n * (n * (n * 1 + 1) + 1) ≤ 8 * 73 := Nat.mul_le_mul hn (by omega)
  rcases (show k = 0 ∨ k = 1 ∨ k = 2 ∨ k = 3 by omega) with rfl | rfl | rfl | rfl <;> omega

end Go.Proofs.YtenjojakjdaamaaDoor
/- The reference's SecondWins and SameRank from no elements; SameWords of the program and of the reference; the law FnExactSameWords. Conditions: the structures are valid; a text's length fits an integer. -/
namespace Go.Proofs.YtenjojakjdaamaaDoor
open Go.RowKit
set_option linter.unusedVariables false

theorem specValid_b (n : Nat) (S R : ByteArray) (w : World) (h : validB n S R = true) : Calls Tryd.prog 124 #[strV n S R] w (BoolB w true) := by
  obtain ⟨h1, h2, h3, h4, _⟩ := valid_is h
  have h5 : n * n ≤ 64 := Nat.mul_le_mul h2 h2
  have hc := specValid_any n S R w (by omega) (by omega)
  rw [h] at hc
  exact hc
theorem l1In_b (n lo hi : Int) (w : World) : Calls Tryd.prog 105 #[.int .i64 n, .int .i64 lo, .int .i64 hi] w (BoolB w (inB n lo hi)) :=
  (l1In_any n lo hi w).mono fun e w' ⟨h1, h2⟩ => ⟨h1, by rw [← h2]; exact Below.refl _ _⟩
theorem wordSt_valid {s : ByteArray} (h : wordB s = true) : 1 ≤ s.size ∧ s.size ≤ 8 := by
  simp only [wordB, Bool.and_eq_true, inB_iff] at h
  omega
/-- Whether SameWords is true. -/
def sameB (v u : ByteArray) (K : Int) : Bool := wordB v && (wordB u && (inB K 0 3 && Gs.wins K.toNat (wSt v) [] (wSt u) []))

theorem implSameWords_any (v u : ByteArray) (K : Int) (w : World) (hv : v.size ≤ 9223372036854775807) (hu : u.size ≤ 9223372036854775807) :
    Calls Tryd.prog 18 #[.string v, .string u, .int .i64 K] w (BoolB w (sameB v u K)) := by
  have H1 := Lib.hid (fun w => isWord_any v w hv)
  have H2 := Lib.hid (fun w => isWord_any u w hu)
  have HS : Hid (sameB v u K = (wordB v && (wordB u && (inB K 0 3 && Gs.wins K.toNat (wSt v) [] (wSt u) [])))) := rfl
  obtain ⟨RES, hres⟩ : ∃ p, sameB v u K = p := ⟨_, rfl⟩
  rw [hres] at HS ⊢
  clear hres hv hu
  obtain ⟨b1, hb1⟩ : ∃ b, wordB v = b := ⟨_, rfl⟩
  obtain ⟨b2, hb2⟩ : ∃ b, wordB u = b := ⟨_, rfl⟩
  have HV1 := Lib.hid hb1; have HV2 := Lib.hid hb2
  rw [hb1] at H1 HS
  rw [hb2] at H2 HS
  clear hb1 hb2
  cases b1
  · go_enter Tryd.func18, Tryd.ntmps18
    go_wp2_with fail
    refine (H1.out _).mono ?_; rintro e w1 ⟨rfl, hb⟩
    have HB1 := Lib.hid hb; clear hb
    go_wp2_with fail
    go_ret
    exact ⟨ret_bool (by rw [HS.out]; rfl), HB1.out⟩
  · cases b2
    · go_enter Tryd.func18, Tryd.ntmps18
      go_wp2_with fail
      refine (H1.out _).mono ?_; rintro e w1 ⟨rfl, hb⟩
      have HB1 := Lib.hid hb; clear hb
      go_wp2_with fail
      refine (H2.out _).mono ?_; rintro e w2 ⟨rfl, hb⟩
      have HB2 := Lib.hid (HB1.out.trans (hb.mono HB1.out.size)); clear hb
      go_wp2_with fail
      go_ret
      exact ⟨ret_bool (by rw [HS.out]; rfl), HB2.out⟩
    · by_cases k0 : 0 ≤ K
      · by_cases k3 : K ≤ 3
        · obtain ⟨k, rfl⟩ := Int.eq_ofNat_of_zero_le k0
          have H3 := Lib.hid (fun w => sameWords_any v u k w (wordSt_valid HV1.out).2 (wordSt_valid HV2.out).2 (by omega))
          rw [inB_true k0 k3, Int.toNat_natCast] at HS
          generalize Gs.wins k (wSt v) [] (wSt u) [] = B at *
          go_enter Tryd.func18, Tryd.ntmps18
          go_wp2_with fail
          refine (H1.out _).mono ?_; rintro e w1 ⟨rfl, hb⟩
          have HB1 := Lib.hid hb; clear hb
          go_wp2_with fail
          refine (H2.out _).mono ?_; rintro e w2 ⟨rfl, hb⟩
          have HB2 := Lib.hid (HB1.out.trans (hb.mono HB1.out.size)); clear hb
          go_wp2_with fail
          refine (H3.out _).mono ?_; rintro e w3 ⟨rfl, hb⟩
          have HB3 := Lib.hid (HB2.out.trans (hb.mono HB2.out.size)); clear hb
          go_wp2_with fail
          go_ret
          exact ⟨ret_bool (by rw [HS.out]; simp), HB3.out⟩
        · rw [inB_hi k3] at HS
          go_enter Tryd.func18, Tryd.ntmps18
          go_wp2_with fail
          refine (H1.out _).mono ?_; rintro e w1 ⟨rfl, hb⟩
          have HB1 := Lib.hid hb; clear hb
          go_wp2_with fail
          refine (H2.out _).mono ?_; rintro e w2 ⟨rfl, hb⟩
          have HB2 := Lib.hid (HB1.out.trans (hb.mono HB1.out.size)); clear hb
          go_wp2_with fail
          go_ret
          exact ⟨ret_bool (by rw [HS.out]; rfl), HB2.out⟩
      · rw [inB_lo k0] at HS
        go_enter Tryd.func18, Tryd.ntmps18
        go_wp2_with fail
        refine (H1.out _).mono ?_; rintro e w1 ⟨rfl, hb⟩
        have HB1 := Lib.hid hb; clear hb
        go_wp2_with fail
        refine (H2.out _).mono ?_; rintro e w2 ⟨rfl, hb⟩
        have HB2 := Lib.hid (HB1.out.trans (hb.mono HB1.out.size)); clear hb
        go_wp2_with fail
        go_ret
        exact ⟨ret_bool (by rw [HS.out]; rfl), HB2.out⟩

end Go.Proofs.YtenjojakjdaamaaDoor

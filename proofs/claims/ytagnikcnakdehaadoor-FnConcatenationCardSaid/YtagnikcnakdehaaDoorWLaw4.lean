/- The walk of the law FnConcatenation: it returns true. Condition: the bytes are readable. -/
import Derived.Test.YtagnikcnakdehaaDoorOrdSum
import Derived.Test.YtagnikcnakdehaaDoorDrawW3
import Derived.Test.YtagnikcnakdehaaDoorDrawW
namespace Go.Proofs.YtagnikcnakdehaaDoor
open Go.RowKit
set_option linter.unusedVariables false

theorem sameB_yes4 {v u : ByteArray} {k : Nat} (hv : wordB v = true) (hu : wordB u = true) (hk : k ≤ 3) : sameB v u (k : Int) = likeW k v u := by
  unfold sameB
  rw [hv, hu, inB_true (by omega) (by omega)]; rfl
theorem wordB_size4 {s : ByteArray} (h : wordB s = true) : 1 ≤ s.size ∧ s.size ≤ 8 := by
  simp only [wordB, Bool.and_eq_true, inB_iff] at h
  omega
theorem rowLen4 {k : IntKind} {w : World} {a : Option Addr} {len cap : Nat} {zs : List Int} (h : IsRow k w a len cap zs) : len ≤ maxLen := by
  rcases h with ⟨_, h, _⟩ | ⟨_, _, h1, h2, _⟩
  · rw [h]; decide
  · omega
theorem wordB_append {u v : ByteArray} (hu : wordB u = true) (hv : wordB v = true) (h : u.size + v.size ≤ 8) : wordB (u ++ v) = true := by
  simp only [wordB, Bool.and_eq_true, inB_iff] at hu hv ⊢
  have hz : (u ++ v).size = u.size + v.size := ByteArray.size_append
  rw [hz]
  refine ⟨by omega, ?_⟩
  rw [ByteArray.data_append, Array.toList_append, List.all_append, hu.2, hv.2]; rfl
theorem sameB_parts {v u : ByteArray} {K : Int} (h : sameB v u K = true) : wordB v = true ∧ wordB u = true ∧ 0 ≤ K ∧ K ≤ 3 ∧ likeW K.toNat v u = true := by
  simp only [sameB, Bool.and_eq_true, inB_iff] at h
  exact ⟨h.1, h.2.1, h.2.2.1.1, h.2.2.1.2, h.2.2.2⟩

set_option maxRecDepth 100000 in
set_option maxHeartbeats 1000000 in
theorem fnConcatenation_walk (a0 : Option Addr) (len0 cap0 : Nat) (z0 : List Int) (a1 : Option Addr) (len1 cap1 : Nat) (z1 : List Int) (w : World) (w0 : IsRow .u8 w a0 len0 cap0 z0) (w1 : IsRow .u8 w a1 len1 cap1 z1) :
    Calls Tryd.prog 7 #[.slice a0 len0 cap0, .slice a1 len1 cap1] w fun e w' => e = .returned (.bool true) ∧ Below w.heap.size w w' := by
  have m0 := rowLen4 w0
  have m1 := rowLen4 w1
  unfold maxLen at m0 m1
  have W0 := Lib.hid w0; have W1 := Lib.hid w1; clear w0 w1
  by_cases l0 : (len0 : Int) ≤ 1048576
  · by_cases l1 : (len1 : Int) ≤ 1048576
    · go_enter Tryd.func7, Tryd.ntmps7
      go_wp2_with fail
      refine (DrawSameWords_any _ _ _ _ _ W0.out).mono ?_; rintro e w1 ⟨v, x, K, hv, hx, rfl, hb⟩
      have HB1 := Lib.hid hb; clear hb
      have hV : v.size ≤ 9223372036854775807 := by omega
      have hX : x.size ≤ 9223372036854775807 := by omega
      have HI := Lib.hid (fun W => implSameWords_any v x K W hV hX)
      have HS := Lib.hid (fun W => specSameWords_any v x K W hV hX)
      go_wp2_with fail
      refine (HI.out _).mono ?_; rintro e w2 ⟨rfl, hb⟩
      have HB2 := Lib.hid (HB1.out.trans (hb.mono HB1.out.size)); clear hb
      go_wp2_with fail
      refine (DrawWordValid_any _ _ _ _ _ (W1.out.below HB2.out)).mono ?_; rintro e w3 ⟨u, hu, rfl, hb⟩
      have HB3 := Lib.hid (HB2.out.trans (hb.mono HB2.out.size)); clear hb
      have hU : u.size ≤ 9223372036854775807 := by omega
      have HVU := Lib.hid (fun W => implWordValid_any u W hU)
      obtain ⟨b, hb⟩ : ∃ b, sameB v x K = b := ⟨_, rfl⟩
      rw [hb] at HS HI ⊢
      cases b
      · go_wp2_with fail
        refine (HS.out _).mono ?_; rintro e w4 ⟨rfl, hb4⟩
        have HB4 := Lib.hid (HB3.out.trans (hb4.mono HB3.out.size)); clear hb4
        go_wp2_with fail
        refine (HS.out _).mono ?_; rintro e w5 ⟨rfl, hb5⟩
        have HB5 := Lib.hid (HB4.out.trans (hb5.mono HB4.out.size)); clear hb5
        go_wp2_with fail
        go_ret
        exact ⟨rfl, HB5.out⟩
      · obtain ⟨p1, p2, p3, p4, p5⟩ := sameB_parts hb
        obtain ⟨k, rfl⟩ := Int.eq_ofNat_of_zero_le p3
        rw [Int.toNat_natCast] at p5
        obtain ⟨c, hc⟩ : ∃ c, wordB u = c := ⟨_, rfl⟩
        rw [hc] at HVU
        cases c
        · clear hb hc p1 p2 p5
          go_wp2_with fail
          refine (HS.out _).mono ?_; rintro e w4 ⟨rfl, hb4⟩
          have HB4 := Lib.hid (HB3.out.trans (hb4.mono HB3.out.size)); clear hb4
          go_wp2_with fail
          refine (HVU.out _).mono ?_; rintro e w5 ⟨rfl, hb5⟩
          have HB5 := Lib.hid (HB4.out.trans (hb5.mono HB4.out.size)); clear hb5
          go_wp2_with fail
          refine (HS.out _).mono ?_; rintro e w6 ⟨rfl, hb6⟩
          have HB6 := Lib.hid (HB5.out.trans (hb6.mono HB5.out.size)); clear hb6
          go_wp2_with fail
          go_ret
          exact ⟨rfl, HB6.out⟩
        · by_cases hbig : 8 < (u.size : Int) + max (v.size : Int) (x.size : Int)
          · clear hb hc p1 p2 p5
            go_wp2_with fail
            refine (HS.out _).mono ?_; rintro e w4 ⟨rfl, hb4⟩
            have HB4 := Lib.hid (HB3.out.trans (hb4.mono HB3.out.size)); clear hb4
            go_wp2_with fail
            refine (HVU.out _).mono ?_; rintro e w5 ⟨rfl, hb5⟩
            have HB5 := Lib.hid (HB4.out.trans (hb5.mono HB4.out.size)); clear hb5
            go_wp2_with fail
            refine (HS.out _).mono ?_; rintro e w6 ⟨rfl, hb6⟩
            have HB6 := Lib.hid (HB5.out.trans (hb6.mono HB5.out.size)); clear hb6
            go_wp2_with fail
            go_ret
            exact ⟨rfl, HB6.out⟩
          · have huv : u.size + v.size ≤ 8 := by omega
            have hux : u.size + x.size ≤ 8 := by omega
            have zuv : (u ++ v).size = u.size + v.size := ByteArray.size_append
            have zux : (u ++ x).size = u.size + x.size := ByteArray.size_append
            have zvu : (v ++ u).size = v.size + u.size := ByteArray.size_append
            have zxu : (x ++ u).size = x.size + u.size := ByteArray.size_append
            have q1 := wordB_append hc p1 huv
            have q2 := wordB_append hc p2 hux
            have q3 := wordB_append p1 hc (by omega)
            have q4 := wordB_append p2 hc (by omega)
            have HW1 := Lib.hid (fun W => implSameWords_any (u ++ v) (u ++ x) (k : Int) W (by omega) (by omega))
            rw [sameB_yes4 q1 q2 (by omega), like_append (like_refl k u) p5] at HW1
            have HW2 := Lib.hid (fun W => implSameWords_any (v ++ u) (x ++ u) (k : Int) W (by omega) (by omega))
            rw [sameB_yes4 q3 q4 (by omega), like_append p5 (like_refl k u)] at HW2
            have HT1 := Lib.hid (fun W => implWordStructure_any u W hU)
            have HT2 := Lib.hid (fun W => implWordStructure_any v W hV)
            have HT3 := Lib.hid (fun W => implWordStructure_any (u ++ v) W (by omega))
            have hu8 := wordB_size4 hc
            have hv8 := wordB_size4 p1
            have HO := Lib.hid (fun W => implOrdered_any u.size (bitsOf (letB u) u.size) (gridOf ltB u.size) v.size (bitsOf (letB v) v.size) (gridOf ltB v.size) W (valid_bits hu8.1 hu8.2 _ _) (valid_bits hv8.1 hv8.2 _ _))
            have e1 : wordRes u = .tuple #[wordV u, .bool true] := by simp [wordRes, hc]
            have e2 : wordRes v = .tuple #[wordV v, .bool true] := by simp [wordRes, p1]
            have e3 : wordRes (u ++ v) = .tuple #[wordV (u ++ v), .bool true] := by simp [wordRes, q1]
            have e4 : sumRes true u.size (bitsOf (letB u) u.size) (gridOf ltB u.size) v.size (bitsOf (letB v) v.size) (gridOf ltB v.size) = .tuple #[wordV (u ++ v), .bool true] := by
              unfold sumRes
              rw [if_pos huv, sum_word, decide_eq_true huv]
            rw [e1] at HT1
            rw [e2] at HT2
            rw [e3] at HT3
            rw [e4] at HO
            clear e1 e2 e3 e4
            have HLESS : Hid (∀ j, k = j + 1 → ∀ W, Calls Tryd.prog 20 #[.string v, .string x, .int .i64 (j : Int)] W (BoolB W true)) := fun j hj W => by
              have h := implSameWords_any v x (j : Int) W hV hX
              subst hj
              rw [sameB_yes4 p1 p2 (by omega), like_less p5] at h
              exact h
            unfold wordV at HT1 HT2 HT3 HO
            generalize hA1 : bitsOf (letB u) u.size = A1 at *
            generalize hB1 : gridOf ltB u.size = B1 at *
            generalize hA2 : bitsOf (letB v) v.size = A2 at *
            generalize hB2 : gridOf ltB v.size = B2 at *
            generalize hA3 : bitsOf (letB (u ++ v)) (u ++ v).size = A3 at *
            generalize hB3 : gridOf ltB (u ++ v).size = B3 at *
            clear hA1 hB1 hA2 hB2 hA3 hB3
            unfold strV at HT1 HT2 HT3 HO
            obtain ⟨M, hM⟩ : ∃ M, (u ++ v).size = M := ⟨_, rfl⟩
            rw [hM] at HT3 HO
            clear hM
            have hmx : ¬ (8 < (u.size : Int) + max (v.size : Int) (x.size : Int)) := hbig
            clear hb hc p1 p2 p5 q1 q2 q3 q4
            go_wp2_with fail
            refine (HS.out _).mono ?_; rintro e w4 ⟨rfl, hb4⟩
            have HB4 := Lib.hid (HB3.out.trans (hb4.mono HB3.out.size)); clear hb4
            go_wp2_with fail
            refine (HVU.out _).mono ?_; rintro e w5 ⟨rfl, hb5⟩
            have HB5 := Lib.hid (HB4.out.trans (hb5.mono HB4.out.size)); clear hb5
            go_wp2_with fail
            refine (HT1.out _).mono ?_; rintro e w6 ⟨rfl, hb6⟩
            have HB6 := Lib.hid (HB5.out.trans (hb6.mono HB5.out.size)); clear hb6
            have HX1 := Lib.hid (SBlk.new w6 u.size A1 B1)
            have HBA6 : Hid (Below w.heap.size w (w6.alloc (.cells #[.int .i64 (u.size : Int), .string A1, .string B1] 41))) := HB6.out.alloc HB6.out.size _
            go_wp2_with fail
            refine (HT2.out _).mono ?_; rintro e w7 ⟨rfl, hb7⟩
            have HX1b := Lib.hid (HX1.out.below hb7 (by simp))
            have HB7 := Lib.hid (HBA6.out.trans (hb7.mono HBA6.out.size)); clear hb7
            have HX2 := Lib.hid (SBlk.new w7 v.size A2 B2)
            have HBA7 : Hid (Below w.heap.size w (w7.alloc (.cells #[.int .i64 (v.size : Int), .string A2, .string B2] 41))) := HB7.out.alloc HB7.out.size _
            have HX1c := Lib.hid (HX1b.out.below ((Below.refl _ _).alloc (Nat.le_refl _) (.cells #[.int .i64 (v.size : Int), .string A2, .string B2] 41)) HX1b.out.cells.2.2.2.2.2.2)
            go_wp2_with fail
            refine (HT3.out _).mono ?_; rintro e w8 ⟨rfl, hb8⟩
            have HX1d := Lib.hid (HX1c.out.below hb8 HX1c.out.cells.2.2.2.2.2.2)
            have HX2b := Lib.hid (HX2.out.below hb8 (by simp))
            have HB8 := Lib.hid (HBA7.out.trans (hb8.mono HBA7.out.size)); clear hb8
            have HX3 := Lib.hid (SBlk.new w8 M A3 B3)
            have HBA8 : Hid (Below w.heap.size w (w8.alloc (.cells #[.int .i64 (M : Int), .string A3, .string B3] 41))) := HB8.out.alloc HB8.out.size _
            have hx1 := HX1d.out.below ((Below.refl _ _).alloc (Nat.le_refl _) (.cells #[.int .i64 (M : Int), .string A3, .string B3] 41)) HX1d.out.cells.2.2.2.2.2.2
            have hx2 := HX2b.out.below ((Below.refl _ _).alloc (Nat.le_refl _) (.cells #[.int .i64 (M : Int), .string A3, .string B3] 41)) HX2b.out.cells.2.2.2.2.2.2
            obtain ⟨c0, c1, c2, _, _, _, hl1⟩ := hx1.cells
            obtain ⟨d0, d1, d2, _, _, _, hl2⟩ := hx2.cells
            clear hx1 hx2
            go_wp2_with fail
            refine (HO.out _).mono ?_; rintro e w9 ⟨rfl, hb9⟩
            have HX3b := Lib.hid (HX3.out.below hb9 (by simp))
            have HB9 := Lib.hid (HBA8.out.trans (hb9.mono HBA8.out.size)); clear hb9
            have HX4 := Lib.hid (SBlk.new w9 M A3 B3)
            have HBA9 : Hid (Below w.heap.size w (w9.alloc (.cells #[.int .i64 (M : Int), .string A3, .string B3] 41))) := HB9.out.alloc HB9.out.size _
            have HX3c := Lib.hid (HX3b.out.below ((Below.refl _ _).alloc (Nat.le_refl _) (.cells #[.int .i64 (M : Int), .string A3, .string B3] 41)) HX3b.out.cells.2.2.2.2.2.2)
            clear c0 c1 c2 hl1 d0 d1 d2 hl2
            go_wp2_with fail
            refine (HW1.out _).mono ?_; rintro e wa ⟨rfl, hba⟩
            have HX3d := Lib.hid (HX3c.out.below hba HX3c.out.cells.2.2.2.2.2.2)
            have HX4b := Lib.hid (HX4.out.below hba (by simp))
            have HBa := Lib.hid (HBA9.out.trans (hba.mono HBA9.out.size)); clear hba
            go_wp2_with fail
            refine (HW2.out _).mono ?_; rintro e wb ⟨rfl, hbb⟩
            have HX3e := Lib.hid (HX3d.out.below hbb HX3d.out.cells.2.2.2.2.2.2)
            have HX4c := Lib.hid (HX4b.out.below hbb HX4b.out.cells.2.2.2.2.2.2)
            have HBb := Lib.hid (HBa.out.trans (hbb.mono HBa.out.size)); clear hbb
            obtain ⟨c0, c1, c2, _, _, _, hl1⟩ := HX3e.out.cells
            obtain ⟨d0, d1, d2, _, _, _, hl2⟩ := HX4c.out.cells
            by_cases hk0 : k = 0
            · subst hk0
              go_wp2_with fail
              go_ret
              exact ⟨rfl, HBb.out⟩
            · obtain ⟨j, rfl⟩ : ∃ j, k = j + 1 := ⟨k - 1, by omega⟩
              have HLJ := Lib.hid (HLESS.out j rfl)
              have hwj : IntKind.i64.wrap ((j : Int) + 1 - 1) = (j : Int) := by
                rw [show (j : Int) + 1 - 1 = (j : Int) by omega]; exact IntWalk.i64_in _ (by omega)
              have hj0 : ((j : Int) + 1 == 0) = false := by simp <;> omega
              go_wp2_with fail
              refine (HLJ.out _).mono ?_; rintro e wc ⟨rfl, hbc⟩
              have HBc := Lib.hid (HBb.out.trans (hbc.mono HBb.out.size)); clear hbc
              go_wp2_with fail
              go_ret
              exact ⟨rfl, HBc.out⟩
    · go_enter Tryd.func7, Tryd.ntmps7
      go_wp2_with fail
      go_ret
      exact ⟨rfl, Below.refl _ _⟩
  · go_enter Tryd.func7, Tryd.ntmps7
    go_wp2_with fail
    go_ret
    exact ⟨rfl, Below.refl _ _⟩
end Go.Proofs.YtagnikcnakdehaaDoor

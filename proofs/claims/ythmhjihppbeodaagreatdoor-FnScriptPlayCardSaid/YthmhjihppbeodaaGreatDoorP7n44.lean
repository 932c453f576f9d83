/- The walk of the law, and what it leans on last. Conditions: those that each theorem states. -/
import Derived.Test.YthmhjihppbeodaaGreatDoorP7n34
import Derived.Test.YthmhjihppbeodaaGreatDoorP7n42
import Derived.Test.YthmhjihppbeodaaGreatDoorP7n43
namespace Go.Proofs.YthmhjihppbeodaaGreatDoor
open Go.RowKit
set_option linter.unusedVariables false
set_option maxRecDepth 100000
theorem nat_valid7 {n : Int} {S R : ByteArray} (h : validB n S R = true) : ∃ m : Nat, n = (m : Int) := by
  have h0 := h
  unfold validB inB at h0
  simp at h0
  exact Int.eq_ofNat_of_zero_le (by omega)
theorem rowLen7 {k : IntKind} {w : World} {a : Option Addr} {len cap : Nat} {zs : List Int} (h : IsRow k w a len cap zs) : len ≤ maxLen := by
  rcases h with ⟨_, h, _⟩ | ⟨_, _, h1, h2, _⟩
  · rw [h]; decide
  · omega
theorem b_assoc7 (a b c : ByteArray) : a ++ b ++ c = a ++ (b ++ c) := by
  apply ByteArray.ext
  apply Array.toList_inj.1
  simp [ByteArray.data_append, Array.toList_append]
set_option maxHeartbeats 4000000 in
theorem fnScriptPlay_walk (a0 : Option Addr) (len0 cap0 : Nat) (z0 : List Int) (w : World) (w0 : IsRow .u8 w a0 len0 cap0 z0) (ht : Tab w) (hsp : TabSp w) :
    Calls Tryz.prog 3 #[.slice a0 len0 cap0] w fun e w' => e = .returned (.bool true) ∧ Below w.heap.size w w' := by
  have m0 := rowLen7 w0
  unfold maxLen at m0
  have W0 := Lib.hid w0; have HT := Lib.hid ht; have HTS := Lib.hid hsp; clear w0 ht hsp
  by_cases l0 : (len0 : Int) ≤ 1048576
  · go_enter Tryz.func3, Tryz.ntmps3
    go_wp2_with fail
    refine (DrawPlayGame_any _ _ _ _ _ W0.out).mono ?_; rintro e w1 ⟨n, S, R, m, T, U, s, ⟨n0, n1⟩, hS, hR, m5, hvb, hs, hno, rfl, hb⟩
    have HB1 := Lib.hid hb; clear hb
    have HGS := Lib.hid (fun v u L w h1 h2 h3 => gsSame_yes v u L w h1 h2 h3)
    have HVA := Lib.hid (fun w => implValid_play n S R (by omega) (by omega) w)
    cases hv : validB n S R
    · have HI := Lib.hid (fun w => PlayGame_no1 n S R (m : Int) T U s w (by omega) (by omega) hv)
      have HS := Lib.hid (fun w => specPlay_no1 n S R (m : Int) T U s w (by omega) (by omega) hv)
      rw [hv] at HVA
      clear hv hS hR
      unfold strV at HI HS HVA ⊢
      unfold noB at HI HS
      have hal : Below w1.heap.size w1 (w1.alloc (.cells #[.int .i64 n, .string S, .string R] 24)) := (Below.refl _ _).alloc (Nat.le_refl _) _
      have HB2 := Lib.hid (HB1.out.trans (hal.mono HB1.out.size))
      have HXa2 : Hid (SBlk (w1.alloc (.cells #[.int .i64 n, .string S, .string R] 24)) w1.heap.size n S R) := SBlk.new w1 n S R
      clear hal
      have hal : Below (w1.alloc (.cells #[.int .i64 n, .string S, .string R] 24)).heap.size (w1.alloc (.cells #[.int .i64 n, .string S, .string R] 24)) ((w1.alloc (.cells #[.int .i64 n, .string S, .string R] 24)).alloc (.cells #[.int .i64 (m : Int), .string T, .string U] 24)) := (Below.refl _ _).alloc (Nat.le_refl _) _
      have HB3 := Lib.hid (HB2.out.trans (hal.mono HB2.out.size))
      have HXa3 := Lib.hid (HXa2.out.below hal HXa2.out.cells.2.2.2.2.2.2)
      have HXb3 : Hid (SBlk ((w1.alloc (.cells #[.int .i64 n, .string S, .string R] 24)).alloc (.cells #[.int .i64 (m : Int), .string T, .string U] 24)) (w1.alloc (.cells #[.int .i64 n, .string S, .string R] 24)).heap.size (m : Int) T U) := SBlk.new (w1.alloc (.cells #[.int .i64 n, .string S, .string R] 24)) (m : Int) T U
      clear hal
      have HXb3 : Hid (SBlk ((w1.alloc (.cells #[.int .i64 n, .string S, .string R] 24)).alloc (.cells #[.int .i64 (m : Int), .string T, .string U] 24)) (w1.heap.size + 1) (m : Int) T U) := by
        have h := HXb3.out
        rw [World.size_alloc] at h
        exact h
      obtain ⟨ca0, ca1, ca2, fa0, fa1, fa2, ba⟩ := HXa3.out.cells
      obtain ⟨cb0, cb1, cb2, fb0, fb1, fb2, bb⟩ := HXb3.out.cells
      go_wp2_with fail
      refine (HI.out _).mono ?_; rintro e w4 ⟨v, u, rfl, hn1, hn2, hb⟩
      have HB4 := Lib.hid (HB3.out.trans (hb.mono HB3.out.size))
      have HXa4 := Lib.hid (HXa3.out.below hb HXa3.out.cells.2.2.2.2.2.2)
      have HXb4 := Lib.hid (HXb3.out.below hb HXb3.out.cells.2.2.2.2.2.2)
      clear hb
      clear ca0 ca1 ca2 fa0 fa1 fa2 ba cb0 cb1 cb2 fb0 fb1 fb2 bb
      have HNv4 := Lib.hid hn1
      have HNu4 := Lib.hid hn2
      clear hn1 hn2
      obtain ⟨ca0, ca1, ca2, fa0, fa1, fa2, ba⟩ := HXa4.out.cells
      obtain ⟨cb0, cb1, cb2, fb0, fb1, fb2, bb⟩ := HXb4.out.cells
      go_wp2_with fail
      refine (HS.out _).mono ?_; rintro e w5 ⟨x, y, rfl, hn1, hn2, hb⟩
      have HB5 := Lib.hid (HB4.out.trans (hb.mono HB4.out.size))
      have HXa5 := Lib.hid (HXa4.out.below hb HXa4.out.cells.2.2.2.2.2.2)
      have HXb5 := Lib.hid (HXb4.out.below hb HXb4.out.cells.2.2.2.2.2.2)
      have HNv5 := Lib.hid (HNv4.out.below hb)
      have HNu5 := Lib.hid (HNu4.out.below hb)
      clear hb
      clear ca0 ca1 ca2 fa0 fa1 fa2 ba cb0 cb1 cb2 fb0 fb1 fb2 bb
      have HNx5 := Lib.hid hn1
      have HNy5 := Lib.hid hn2
      clear hn1 hn2
      go_wp2_with fail
      refine (HGS.out _ _ [] _ HNv5.out HNx5.out (by simp)).mono ?_; rintro e w6 ⟨rfl, hb⟩
      have HB6 := Lib.hid (HB5.out.trans (hb.mono HB5.out.size))
      have HXa6 := Lib.hid (HXa5.out.below hb HXa5.out.cells.2.2.2.2.2.2)
      have HXb6 := Lib.hid (HXb5.out.below hb HXb5.out.cells.2.2.2.2.2.2)
      have HNv6 := Lib.hid (HNv5.out.below hb)
      have HNu6 := Lib.hid (HNu5.out.below hb)
      have HNx6 := Lib.hid (HNx5.out.below hb)
      have HNy6 := Lib.hid (HNy5.out.below hb)
      clear hb
      go_wp2_with fail
      refine (HGS.out _ _ [] _ HNu6.out HNy6.out (by simp)).mono ?_; rintro e w7 ⟨rfl, hb⟩
      have HB7 := Lib.hid (HB6.out.trans (hb.mono HB6.out.size))
      have HXa7 := Lib.hid (HXa6.out.below hb HXa6.out.cells.2.2.2.2.2.2)
      have HXb7 := Lib.hid (HXb6.out.below hb HXb6.out.cells.2.2.2.2.2.2)
      have HNv7 := Lib.hid (HNv6.out.below hb)
      have HNu7 := Lib.hid (HNu6.out.below hb)
      have HNx7 := Lib.hid (HNx6.out.below hb)
      have HNy7 := Lib.hid (HNy6.out.below hb)
      clear hb
      obtain ⟨ca0, ca1, ca2, fa0, fa1, fa2, ba⟩ := HXa7.out.cells
      go_wp2_with fail
      refine (HVA.out _).mono ?_; rintro e w8 ⟨rfl, hb⟩
      have HB8 := Lib.hid (HB7.out.trans (hb.mono HB7.out.size))
      have HXa8 := Lib.hid (HXa7.out.below hb HXa7.out.cells.2.2.2.2.2.2)
      have HXb8 := Lib.hid (HXb7.out.below hb HXb7.out.cells.2.2.2.2.2.2)
      have HNv8 := Lib.hid (HNv7.out.below hb)
      have HNu8 := Lib.hid (HNu7.out.below hb)
      have HNx8 := Lib.hid (HNx7.out.below hb)
      have HNy8 := Lib.hid (HNy7.out.below hb)
      clear hb
      clear ca0 ca1 ca2 fa0 fa1 fa2 ba
      go_wp2_with fail
      refine (HGS.out _ _ [] _ HNv8.out HNx8.out (by simp)).mono ?_; rintro e w9 ⟨rfl, hb⟩
      have HB9 := Lib.hid (HB8.out.trans (hb.mono HB8.out.size))
      have HXa9 := Lib.hid (HXa8.out.below hb HXa8.out.cells.2.2.2.2.2.2)
      have HXb9 := Lib.hid (HXb8.out.below hb HXb8.out.cells.2.2.2.2.2.2)
      have HNv9 := Lib.hid (HNv8.out.below hb)
      have HNu9 := Lib.hid (HNu8.out.below hb)
      have HNx9 := Lib.hid (HNx8.out.below hb)
      have HNy9 := Lib.hid (HNy8.out.below hb)
      clear hb
      go_wp2_with fail
      refine (HGS.out _ _ [] _ HNu9.out HNy9.out (by simp)).mono ?_; rintro e w10 ⟨rfl, hb⟩
      have HB10 := Lib.hid (HB9.out.trans (hb.mono HB9.out.size))
      have HXa10 := Lib.hid (HXa9.out.below hb HXa9.out.cells.2.2.2.2.2.2)
      have HXb10 := Lib.hid (HXb9.out.below hb HXb9.out.cells.2.2.2.2.2.2)
      have HNv10 := Lib.hid (HNv9.out.below hb)
      have HNu10 := Lib.hid (HNu9.out.below hb)
      have HNx10 := Lib.hid (HNx9.out.below hb)
      have HNy10 := Lib.hid (HNy9.out.below hb)
      clear hb
      go_wp2_with fail
      go_ret
      exact ⟨ret_bool (by simp), HB10.out⟩
    · rw [hv] at HVA
      obtain ⟨n, rfl⟩ := nat_valid7 hv
      obtain ⟨q1, q8, _, _, _, _⟩ := valid_is hv
      obtain ⟨r1, r8, _, _, _, _⟩ := valid_is hvb
      obtain ⟨A, B, E, P, c, pk⟩ := pl_ok n S R m T U s hv hvb (by omega)
      have HI := Lib.hid pk.im
      have HS := Lib.hid pk.sp
      have HST := Lib.hid (fun w ht hsp => play_steps w ht hsp n S R m T U s hv hvb A B E P c pk)
      have HFA := Lib.hid (fun w => FormatStructure_any n S R hv w)
      have HFB := Lib.hid (fun w => FormatStructure_any m T U hvb w)
      have hFz := fmt_size hv
      have hGz := fmt_size hvb
      have HSn := Lib.hid (fmt_no hv)
      have HSn2 := Lib.hid (fmt_no hvb)
      have hla := pk.la
      have hlb := pk.lb
      have HNA := Lib.hid (fun v w hv ht => implFmt_nums v A w hv (by omega) pk.ha ht)
      have HNB := Lib.hid (fun v w hv ht => implFmt_nums v B w hv (by omega) pk.hb ht)
      have zA := numsB_size A pk.ha
      have zB := numsB_size B pk.hb
      have hEz := pk.ez
      have hPe := pk.pe
      have hce := pk.ce
      have HFM := Lib.hid (fun v u w h1 h2 => FirstMove_any n S R m T U v u 1 w (by omega) hv hvb h1 h2)
      obtain ⟨sd, x0, c2, hmv, hsd, hx8, hans⟩ := mvAns_form (stOf n S R) (stOf m T U) 1 q8 r8
      rw [hmv] at HFM
      rw [hans] at HST
      have hx1 : ∀ x ∈ [x0], x ≤ 1000000 := by intro x hx; simp at hx; omega
      have zX := numsB_size [x0] hx1
      have HNX := Lib.hid (fun v w hv ht => implFmt_nums v [x0] w hv (by simp) hx1 ht)
      rw [← numsB_one x0] at HST
      clear hmv hans pk hv hvb hS hR q1 r1 hx1
      have hX45 : (numsB [x0]).size ≤ 23 := by simpa using zX
      generalize numsB [x0] = NX at *
      have hzA : (numsB A).size ≤ 70 := by omega
      have hzB : (numsB B).size ≤ 70 := by omega
      unfold plB at hPe
      obtain ⟨NA, hNAe⟩ : ∃ N, numsB A = N := ⟨_, rfl⟩
      obtain ⟨NB, hNBe⟩ : ∃ N, numsB B = N := ⟨_, rfl⟩
      rw [hNAe] at HNA hPe hzA
      rw [hNBe] at HNB hPe hzB
      clear zA zB zX hNAe hNBe
      have hQz : (NA ++ ⟨#[32, 47, 32]⟩ ++ NB ++ ⟨#[32, 47, 32]⟩ ++ E : ByteArray).size ≤ 160 := by
        simp only [ByteArray.size_append]
        show NA.size + 3 + NB.size + 3 + E.size ≤ 160
        omega
      have HGL := Lib.hid (fun c w => gsLine_any (NA ++ ⟨#[32, 47, 32]⟩ ++ NB ++ ⟨#[32, 47, 32]⟩ ++ E) c (by omega) w)
      have hPz : P.size ≤ 160 := by
        rw [hPe]
        cases c
        · show noB.size ≤ 160; decide
        · exact hQz
      have hlines : (linesB (playLines (fmtS S R) (fmtS T U) s)).size ≤ 20000 := by
        rw [linesB_size]
        simp only [playLines, List.map_cons, List.map_nil, List.sum_cons, List.sum_nil, ByteArray.size_append]
        show 5 + (fmtS S R).size + 1 + (6 + (fmtS T U).size + 1 + (5 + s.size + 1 + (6 + 1 + 0))) ≤ 20000
        omega
      have hKz : ((if c2 = true then sd ++ NX else ⟨#[110, 111, 110, 101]⟩) : ByteArray).size ≤ 40 := by
        cases c2
        · show (⟨#[110, 111, 110, 101]⟩ : ByteArray).size ≤ 40; decide
        · simp only [if_true, ByteArray.size_append]; omega
      have houts : ∀ j, (outT ((playAns P (if c2 = true then sd ++ NX else ⟨#[110, 111, 110, 101]⟩)).take j)).size ≤ 40000 := fun j => by
        refine Nat.le_trans (outT_take _ j) ?_
        rw [outT_size]
        simp only [playAns, List.map_cons, List.map_nil, List.sum_cons, List.sum_nil]
        show 2 + 1 + (2 + 1 + (P.size + 1 + (_ + 1 + 0))) ≤ 40000
        omega
      have HRS := Lib.hid (fun w ht hsp => RunScript_lines (playLines (fmtS S R) (fmtS T U) s) (playAns P (if c2 = true then sd ++ NX else ⟨#[110, 111, 110, 101]⟩)) (playLines_no _ _ _ HSn.out HSn2.out hno) (playLines_ne _ _ _) (by show 4 ≤ 99; omega) hlines houts w (HST.out w ht hsp))
      rw [← playScript, ← playOut] at HRS
      clear hlines houts HSn HSn2 HST hKz
      generalize fmtS S R = F at *
      generalize fmtS T U = F2 at *
      obtain ⟨GL, hGL⟩ : ∃ G, P ++ (⟨#[10]⟩ : ByteArray) = G := ⟨_, rfl⟩
      rw [hGL] at HRS
      have hGLz : GL.size ≤ 161 := by rw [← hGL, ByteArray.size_append]; show P.size + 1 ≤ _; omega
      have HGL2 : Hid (∀ w, Calls Tryz.prog 11 #[.string (NA ++ ⟨#[32, 47, 32]⟩ ++ NB ++ ⟨#[32, 47, 32]⟩ ++ E), .bool c] w fun e w' => e = .returned (.string GL) ∧ Below w.heap.size w w') := fun w => by
        have h := HGL.out c w
        rw [← hPe, hGL] at h
        exact h
      clear HGL hPe hGL hno hQz
      unfold strV at HI HS HVA HFA HFB HFM ⊢
      have hal : Below w1.heap.size w1 (w1.alloc (.cells #[.int .i64 (n : Int), .string S, .string R] 24)) := (Below.refl _ _).alloc (Nat.le_refl _) _
      have HB2 := Lib.hid (HB1.out.trans (hal.mono HB1.out.size))
      have HXa2 : Hid (SBlk (w1.alloc (.cells #[.int .i64 (n : Int), .string S, .string R] 24)) w1.heap.size (n : Int) S R) := SBlk.new w1 (n : Int) S R
      clear hal
      have hal : Below (w1.alloc (.cells #[.int .i64 (n : Int), .string S, .string R] 24)).heap.size (w1.alloc (.cells #[.int .i64 (n : Int), .string S, .string R] 24)) ((w1.alloc (.cells #[.int .i64 (n : Int), .string S, .string R] 24)).alloc (.cells #[.int .i64 (m : Int), .string T, .string U] 24)) := (Below.refl _ _).alloc (Nat.le_refl _) _
      have HB3 := Lib.hid (HB2.out.trans (hal.mono HB2.out.size))
      have HXa3 := Lib.hid (HXa2.out.below hal HXa2.out.cells.2.2.2.2.2.2)
      have HXb3 : Hid (SBlk ((w1.alloc (.cells #[.int .i64 (n : Int), .string S, .string R] 24)).alloc (.cells #[.int .i64 (m : Int), .string T, .string U] 24)) (w1.alloc (.cells #[.int .i64 (n : Int), .string S, .string R] 24)).heap.size (m : Int) T U) := SBlk.new (w1.alloc (.cells #[.int .i64 (n : Int), .string S, .string R] 24)) (m : Int) T U
      clear hal
      have HXb3 : Hid (SBlk ((w1.alloc (.cells #[.int .i64 (n : Int), .string S, .string R] 24)).alloc (.cells #[.int .i64 (m : Int), .string T, .string U] 24)) (w1.heap.size + 1) (m : Int) T U) := by
        have h := HXb3.out
        rw [World.size_alloc] at h
        exact h
      obtain ⟨ca0, ca1, ca2, fa0, fa1, fa2, ba⟩ := HXa3.out.cells
      obtain ⟨cb0, cb1, cb2, fb0, fb1, fb2, bb⟩ := HXb3.out.cells
      go_wp2_with fail
      refine (HI.out _ (HTS.out.below HB3.out (Nat.le_refl _))).mono ?_; rintro e w4 ⟨v, u, rfl, hn1, hn2, hb⟩
      have HB4 := Lib.hid (HB3.out.trans (hb.mono HB3.out.size))
      have HXa4 := Lib.hid (HXa3.out.below hb HXa3.out.cells.2.2.2.2.2.2)
      have HXb4 := Lib.hid (HXb3.out.below hb HXb3.out.cells.2.2.2.2.2.2)
      clear hb
      clear ca0 ca1 ca2 fa0 fa1 fa2 ba cb0 cb1 cb2 fb0 fb1 fb2 bb
      have HNv4 := Lib.hid hn1
      have HNu4 := Lib.hid hn2
      clear hn1 hn2
      obtain ⟨ca0, ca1, ca2, fa0, fa1, fa2, ba⟩ := HXa4.out.cells
      obtain ⟨cb0, cb1, cb2, fb0, fb1, fb2, bb⟩ := HXb4.out.cells
      go_wp2_with fail
      refine (HS.out _).mono ?_; rintro e w5 ⟨x, y, rfl, hn1, hn2, hb⟩
      have HB5 := Lib.hid (HB4.out.trans (hb.mono HB4.out.size))
      have HXa5 := Lib.hid (HXa4.out.below hb HXa4.out.cells.2.2.2.2.2.2)
      have HXb5 := Lib.hid (HXb4.out.below hb HXb4.out.cells.2.2.2.2.2.2)
      have HNv5 := Lib.hid (HNv4.out.below hb)
      have HNu5 := Lib.hid (HNu4.out.below hb)
      clear hb
      clear ca0 ca1 ca2 fa0 fa1 fa2 ba cb0 cb1 cb2 fb0 fb1 fb2 bb
      have HNx5 := Lib.hid hn1
      have HNy5 := Lib.hid hn2
      clear hn1 hn2
      go_wp2_with fail
      refine (HGS.out _ _ A _ HNv5.out HNx5.out (by omega)).mono ?_; rintro e w6 ⟨rfl, hb⟩
      have HB6 := Lib.hid (HB5.out.trans (hb.mono HB5.out.size))
      have HXa6 := Lib.hid (HXa5.out.below hb HXa5.out.cells.2.2.2.2.2.2)
      have HXb6 := Lib.hid (HXb5.out.below hb HXb5.out.cells.2.2.2.2.2.2)
      have HNv6 := Lib.hid (HNv5.out.below hb)
      have HNu6 := Lib.hid (HNu5.out.below hb)
      have HNx6 := Lib.hid (HNx5.out.below hb)
      have HNy6 := Lib.hid (HNy5.out.below hb)
      clear hb
      go_wp2_with fail
      refine (HGS.out _ _ B _ HNu6.out HNy6.out (by omega)).mono ?_; rintro e w7 ⟨rfl, hb⟩
      have HB7 := Lib.hid (HB6.out.trans (hb.mono HB6.out.size))
      have HXa7 := Lib.hid (HXa6.out.below hb HXa6.out.cells.2.2.2.2.2.2)
      have HXb7 := Lib.hid (HXb6.out.below hb HXb6.out.cells.2.2.2.2.2.2)
      have HNv7 := Lib.hid (HNv6.out.below hb)
      have HNu7 := Lib.hid (HNu6.out.below hb)
      have HNx7 := Lib.hid (HNx6.out.below hb)
      have HNy7 := Lib.hid (HNy6.out.below hb)
      clear hb
      obtain ⟨ca0, ca1, ca2, fa0, fa1, fa2, ba⟩ := HXa7.out.cells
      go_wp2_with fail
      refine (HVA.out _).mono ?_; rintro e w8 ⟨rfl, hb⟩
      have HB8 := Lib.hid (HB7.out.trans (hb.mono HB7.out.size))
      have HXa8 := Lib.hid (HXa7.out.below hb HXa7.out.cells.2.2.2.2.2.2)
      have HXb8 := Lib.hid (HXb7.out.below hb HXb7.out.cells.2.2.2.2.2.2)
      have HNv8 := Lib.hid (HNv7.out.below hb)
      have HNu8 := Lib.hid (HNu7.out.below hb)
      have HNx8 := Lib.hid (HNx7.out.below hb)
      have HNy8 := Lib.hid (HNy7.out.below hb)
      clear hb
      clear ca0 ca1 ca2 fa0 fa1 fa2 ba
      obtain ⟨ca0, ca1, ca2, fa0, fa1, fa2, ba⟩ := HXa8.out.cells
      obtain ⟨cb0, cb1, cb2, fb0, fb1, fb2, bb⟩ := HXb8.out.cells
      go_upto_region 8 with fail
      clear HNx8 HNy8
      obtain ⟨W8, hW8⟩ : ∃ W8, ((w8.alloc (.cells #[] 3)).alloc (.cells #[] 3)) = W8 := ⟨_, rfl⟩
      have hb8 : Below w8.heap.size w8 W8 := by rw [← hW8]; exact ((Below.refl _ _).alloc (Nat.le_refl _) _).alloc (by simp) _
      have hz8 : W8.heap.size = w8.heap.size + 2 := by rw [← hW8]; simp
      have HE8 : Hid (NumsAt W8 (.slice (some ⟨w8.heap.size, 0, none⟩) 0 0) [] ∧ NumsAt W8 (.slice (some ⟨w8.heap.size + 1, 0, none⟩) 0 0) []) := ⟨nums_nil (w := w8) (by omega), nums_nil (w := w8) (by omega)⟩
      have HB9 := Lib.hid (HB8.out.trans (hb8.mono HB8.out.size))
      have HXa9 := Lib.hid (HXa8.out.below hb8 HXa8.out.cells.2.2.2.2.2.2)
      have HXb9 := Lib.hid (HXb8.out.below hb8 HXb8.out.cells.2.2.2.2.2.2)
      have HNv9 := Lib.hid (HNv8.out.below hb8)
      have HNu9 := Lib.hid (HNu8.out.below hb8)
      have HW8 := Lib.hid hW8
      clear hb8 hz8 hW8
      go_wp2_with fail
      try rw [HW8.out]
      refine (HFM.out _ _ _ HE8.out.1 HE8.out.2).mono ?_; rintro e w10 ⟨rfl, hb⟩
      have HB10 := Lib.hid (HB9.out.trans (hb.mono HB9.out.size))
      have HXa10 := Lib.hid (HXa9.out.below hb HXa9.out.cells.2.2.2.2.2.2)
      have HXb10 := Lib.hid (HXb9.out.below hb HXb9.out.cells.2.2.2.2.2.2)
      have HNv10 := Lib.hid (HNv9.out.below hb)
      have HNu10 := Lib.hid (HNu9.out.below hb)
      clear hb
      clear ca0 ca1 ca2 fa0 fa1 fa2 ba cb0 cb1 cb2 fb0 fb1 fb2 bb
      have ht1 : ((⟨#[108, 101, 102, 116, 32]⟩ : ByteArray) ++ F : ByteArray).size ≤ 20000 := by
        simp only [ByteArray.size_append]
        show 5 + F.size ≤ 20000
        omega
      have ht2 : ((⟨#[108, 101, 102, 116, 32]⟩ : ByteArray) ++ F ++ ⟨#[10, 114, 105, 103, 104, 116, 32]⟩ : ByteArray).size ≤ 20000 := by
        simp only [ByteArray.size_append]
        show 5 + F.size + 7 ≤ 20000
        omega
      have ht3 : ((⟨#[108, 101, 102, 116, 32]⟩ : ByteArray) ++ F ++ ⟨#[10, 114, 105, 103, 104, 116, 32]⟩ ++ F2 : ByteArray).size ≤ 20000 := by
        simp only [ByteArray.size_append]
        show 5 + F.size + 7 + F2.size ≤ 20000
        omega
      have ht4 : ((⟨#[108, 101, 102, 116, 32]⟩ : ByteArray) ++ F ++ ⟨#[10, 114, 105, 103, 104, 116, 32]⟩ ++ F2 ++ ⟨#[10, 112, 108, 97, 121, 32]⟩ : ByteArray).size ≤ 20000 := by
        simp only [ByteArray.size_append]
        show 5 + F.size + 7 + F2.size + 6 ≤ 20000
        omega
      have ht5 : ((⟨#[108, 101, 102, 116, 32]⟩ : ByteArray) ++ F ++ ⟨#[10, 114, 105, 103, 104, 116, 32]⟩ ++ F2 ++ ⟨#[10, 112, 108, 97, 121, 32]⟩ ++ s : ByteArray).size ≤ 20000 := by
        simp only [ByteArray.size_append]
        show 5 + F.size + 7 + F2.size + 6 + s.size ≤ 20000
        omega
      have ht6 : ((⟨#[108, 101, 102, 116, 32]⟩ : ByteArray) ++ F ++ ⟨#[10, 114, 105, 103, 104, 116, 32]⟩ ++ F2 ++ ⟨#[10, 112, 108, 97, 121, 32]⟩ ++ s ++ ⟨#[10, 109, 111, 118, 101, 32, 50, 10]⟩ : ByteArray).size ≤ 20000 := by
        simp only [ByteArray.size_append]
        show 5 + F.size + 7 + F2.size + 6 + s.size + 8 ≤ 20000
        omega
      go_upto_region 9 with fail
      obtain ⟨ca0, ca1, ca2, fa0, fa1, fa2, ba⟩ := HXa10.out.cells
      obtain ⟨cb0, cb1, cb2, fb0, fb1, fb2, bb⟩ := HXb10.out.cells
      have JF := Lib.hid (fun s : Since w10 => HFA.out s.w)
      have JG := Lib.hid (fun s : Since w10 => HFB.out s.w)
      have A0 := fun s => Since.cell ca0 s
      have A1 := fun s => Since.cell ca1 s
      have A2 := fun s => Since.cell ca2 s
      have D0 := fun s => Since.cell cb0 s
      have D1 := fun s => Since.cell cb1 s
      have D2 := fun s => Since.cell cb2 s
      clear ca0 ca1 ca2 fa0 fa1 fa2 ba cb0 cb1 cb2 fb0 fb1 fb2 bb
      refine wp_region_since (by kernel_rfl) (by kernel_rfl) ?_
      repeat (go_big_quiet_step (first | (with_reducible exact Since.call (JF.out _)) | (with_reducible exact Since.call (JG.out _)) | (with_reducible exact A0 _) | (with_reducible exact A1 _) | (with_reducible exact A2 _) | (with_reducible exact D0 _) | (with_reducible exact D1 _) | (with_reducible exact D2 _)))
      refine wpQuiet_nil ?_
      intro w11 hb
      have HB11 := Lib.hid (HB10.out.trans (hb.mono HB10.out.size))
      have HNv11 := Lib.hid (HNv10.out.below hb)
      have HNu11 := Lib.hid (HNu10.out.below hb)
      clear hb JF JG A0 A1 A2 D0 D1 D2 ht1 ht2 ht3 ht4 ht5 ht6
      have hl1 : (NA ++ ⟨#[32, 47, 32]⟩ : ByteArray).size ≤ 20000 := by
        simp only [ByteArray.size_append]
        show NA.size + 3 ≤ 20000
        omega
      have hl2 : (NA ++ ⟨#[32, 47, 32]⟩ ++ NB : ByteArray).size ≤ 20000 := by
        simp only [ByteArray.size_append]
        show NA.size + 3 + NB.size ≤ 20000
        omega
      have hl3 : (NA ++ ⟨#[32, 47, 32]⟩ ++ NB ++ ⟨#[32, 47, 32]⟩ : ByteArray).size ≤ 20000 := by
        simp only [ByteArray.size_append]
        show NA.size + 3 + NB.size + 3 ≤ 20000
        omega
      have hl4 : (NA ++ ⟨#[32, 47, 32]⟩ ++ NB ++ ⟨#[32, 47, 32]⟩ ++ E : ByteArray).size ≤ 20000 := by
        simp only [ByteArray.size_append]
        show NA.size + 3 + NB.size + 3 + E.size ≤ 20000
        omega
      go_wp2_with fail
      refine (HNA.out _ _ HNv11.out (HT.out.below HB11.out (Nat.le_refl _))).mono ?_; rintro e w12 ⟨rfl, hb⟩
      have HB12 := Lib.hid (HB11.out.trans (hb.mono HB11.out.size))
      have HNv12 := Lib.hid (HNv11.out.below hb)
      have HNu12 := Lib.hid (HNu11.out.below hb)
      clear hb
      go_wp2_with fail
      refine (HNB.out _ _ HNu12.out (HT.out.below HB12.out (Nat.le_refl _))).mono ?_; rintro e w13 ⟨rfl, hb⟩
      have HB13 := Lib.hid (HB12.out.trans (hb.mono HB12.out.size))
      have HNv13 := Lib.hid (HNv12.out.below hb)
      have HNu13 := Lib.hid (HNu12.out.below hb)
      clear hb
      subst hce
      go_wp2_with fail
      refine (HGL2.out _).mono ?_; rintro e w14 ⟨rfl, hb⟩
      have HB14 := Lib.hid (HB13.out.trans (hb.mono HB13.out.size))
      have HNv14 := Lib.hid (HNv13.out.below hb)
      have HNu14 := Lib.hid (HNu13.out.below hb)
      clear hb
      cases c2
      · have hz1 : ((⟨#[111, 107, 10, 111, 107, 10]⟩ : ByteArray) ++ GL : ByteArray).size ≤ 10000 := by
          simp only [ByteArray.size_append]
          show 6 + GL.size ≤ 10000
          omega
        have hz2 : ((⟨#[111, 107, 10, 111, 107, 10]⟩ : ByteArray) ++ GL ++ ⟨#[110, 111, 110, 101, 10]⟩ : ByteArray).size ≤ 10000 := by
          simp only [ByteArray.size_append]
          show 6 + GL.size + 5 ≤ 10000
          omega
        have HRS2 : Hid (∀ w, Tab w → TabSp w → Calls Tryz.prog 13 #[.string ((⟨#[108, 101, 102, 116, 32]⟩ : ByteArray) ++ F ++ ⟨#[10, 114, 105, 103, 104, 116, 32]⟩ ++ F2 ++ ⟨#[10, 112, 108, 97, 121, 32]⟩ ++ s ++ ⟨#[10, 109, 111, 118, 101, 32, 50, 10]⟩)] w fun e w' => e = .returned (.string ((⟨#[111, 107, 10, 111, 107, 10]⟩ : ByteArray) ++ GL ++ ⟨#[110, 111, 110, 101, 10]⟩)) ∧ Below w.heap.size w w') := fun w ht hsp => by
          have h := HRS.out w ht hsp
          simp only [if_false, Bool.false_eq_true] at h
          rw [b_assoc7 ((⟨#[111, 107, 10, 111, 107, 10]⟩ : ByteArray) ++ GL) ⟨#[110, 111, 110, 101]⟩ ⟨#[10]⟩, show (⟨#[110, 111, 110, 101]⟩ : ByteArray) ++ ⟨#[10]⟩ = ⟨#[110, 111, 110, 101, 10]⟩ from ByteArray.ext (Array.toList_inj.1 rfl)] at h
          exact h
        clear HRS
        go_wp2_with fail
        refine (HRS2.out _ (HT.out.below HB14.out (Nat.le_refl _)) (HTS.out.below HB14.out (Nat.le_refl _))).mono ?_; rintro e w15 ⟨rfl, hb⟩
        have HB15 := Lib.hid (HB14.out.trans (hb.mono HB14.out.size))
        clear hb
        go_wp2_with fail
        go_ret
        exact ⟨ret_bool (by simp), HB15.out⟩
      · have hz1 : ((⟨#[111, 107, 10, 111, 107, 10]⟩ : ByteArray) ++ GL : ByteArray).size ≤ 10000 := by
          simp only [ByteArray.size_append]
          show 6 + GL.size ≤ 10000
          omega
        have hz2 : ((⟨#[111, 107, 10, 111, 107, 10]⟩ : ByteArray) ++ GL ++ sd : ByteArray).size ≤ 10000 := by
          simp only [ByteArray.size_append]
          show 6 + GL.size + sd.size ≤ 10000
          omega
        have hz3 : ((⟨#[111, 107, 10, 111, 107, 10]⟩ : ByteArray) ++ GL ++ sd ++ NX : ByteArray).size ≤ 10000 := by
          simp only [ByteArray.size_append]
          show 6 + GL.size + sd.size + NX.size ≤ 10000
          omega
        have hz4 : ((⟨#[111, 107, 10, 111, 107, 10]⟩ : ByteArray) ++ GL ++ sd ++ NX ++ ⟨#[10]⟩ : ByteArray).size ≤ 10000 := by
          simp only [ByteArray.size_append]
          show 6 + GL.size + sd.size + NX.size + 1 ≤ 10000
          omega
        have HRS2 : Hid (∀ w, Tab w → TabSp w → Calls Tryz.prog 13 #[.string ((⟨#[108, 101, 102, 116, 32]⟩ : ByteArray) ++ F ++ ⟨#[10, 114, 105, 103, 104, 116, 32]⟩ ++ F2 ++ ⟨#[10, 112, 108, 97, 121, 32]⟩ ++ s ++ ⟨#[10, 109, 111, 118, 101, 32, 50, 10]⟩)] w fun e w' => e = .returned (.string ((⟨#[111, 107, 10, 111, 107, 10]⟩ : ByteArray) ++ GL ++ sd ++ NX ++ ⟨#[10]⟩)) ∧ Below w.heap.size w w') := fun w ht hsp => by
          have h := HRS.out w ht hsp
          simp only [if_true, ← b_assoc7] at h
          exact h
        clear HRS
        go_wp2_with fail
        have HN1 := Lib.hid (fun W' (hb : Below (w14.alloc (.cells #[.int .i64 (x0 : Int)] 3)).heap.size (w14.alloc (.cells #[.int .i64 (x0 : Int)] 3)) W') => (NumsAt.one w14 x0).below hb)
        have hal : Below w14.heap.size w14 (w14.alloc (.cells #[.int .i64 (x0 : Int)] 3)) := (Below.refl _ _).alloc (Nat.le_refl _) _
        have HB15 := Lib.hid (HB14.out.trans (hal.mono HB14.out.size))
        clear hal
        refine (HNX.out _ _ (HN1.out _ (Below.refl _ _)) (HT.out.below HB15.out (Nat.le_refl _))).mono ?_; rintro e w16 ⟨rfl, hb⟩
        have HB16 := Lib.hid (HB15.out.trans (hb.mono HB15.out.size))
        clear hb
        go_wp2_with fail
        refine (HRS2.out _ (HT.out.below HB16.out (Nat.le_refl _)) (HTS.out.below HB16.out (Nat.le_refl _))).mono ?_; rintro e w17 ⟨rfl, hb⟩
        have HB17 := Lib.hid (HB16.out.trans (hb.mono HB16.out.size))
        clear hb
        go_wp2_with fail
        go_ret
        exact ⟨ret_bool (by simp), HB17.out⟩
  · go_enter Tryz.func3, Tryz.ntmps3
    go_wp2_with fail
    go_ret
    exact ⟨rfl, Below.refl _ _⟩
end Go.Proofs.YthmhjihppbeodaaGreatDoor

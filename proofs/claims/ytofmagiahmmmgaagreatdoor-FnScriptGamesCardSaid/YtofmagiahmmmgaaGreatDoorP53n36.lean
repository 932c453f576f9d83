/- Contracts of the program's functions and what they compute: part 36. Conditions: those that each theorem states. -/
import Derived.Test.YtofmagiahmmmgaaGreatDoorP53n35
import Derived.Test.YtofmagiahmmmgaaGreatDoorP53n5
import Derived.Test.YtofmagiahmmmgaaGreatDoorP53n6
namespace Go.Proofs.YtofmagiahmmmgaaGreatDoor
open Go.RowKit
set_option linter.unusedVariables false
set_option maxRecDepth 100000
/-- Two valid structures that are drawn. -/
def PairB (b K : Nat) (w : World) (e : Ending) (w' : World) : Prop := ∃ (n m : Nat) (S R T U : ByteArray), n ≤ 5 ∧ m ≤ 5 ∧ validB n S R = true ∧ validB m T U = true ∧ e = .returned (.tuple #[strV n S R, strV m T U]) ∧ RdB w' b K ∧ w.grownBy w' (some b)
theorem Pr.finB {w wr : World} {b K K' x : Nat} {n : Int} {S R : ByteArray} {n1 n2 : Nat} {S1 R1 S2 R2 : ByteArray} (h : Pr w b K x n S R (n1 : Int) S1 R1 (n2 : Int) S2 R2 wr) (hK : K ≤ K')
    (hn : 1 ≤ n1 ∧ n1 ≤ 5) (hm : 1 ≤ n2 ∧ n2 ≤ 5) (hS : S1.size = n1) (hR : R1.size = n1 * n1) (hT : S2.size = n2) (hU : R2.size = n2 * n2) (bS : b01 S1 = true) (bR : b01 R1 = true) (bT : b01 S2 = true) (bU : b01 R2 = true) :
    PairB b K' w (.returned (.tuple #[strV (n1 : Int) S1 R1, strV (n2 : Int) S2 R2])) wr := ⟨n1, n2, S1, R1, S2, R2, hn.2, hm.2, b01_valid hn.1 (by omega) hS hR bS bR, b01_valid hm.1 (by omega) hT hU bT bU, rfl, h.rd.mono hK, h.old⟩
theorem l1Part_b (n : Nat) (S R : ByteArray) (L : List Nat) (v : Value) (w : World) (hn : n ≤ 8) (hS : S.size = n) (hR : R.size = n * n) (hl : L.length = n) (hL : ∀ z ∈ L, z < n) (hv : NumsAt w v L) :
    Calls Tryz.prog 36 #[strV n S R, v] w fun e w' => (∃ T U : ByteArray, T.size = n ∧ U.size = n * n ∧ b01 T = true ∧ b01 U = true ∧ e = .returned (strV n T U)) ∧ Below w.heap.size w w' := by
  refine (l1Part_any n S R L v w hn hS hR (by omega) (fun j hj => hL _ (by rw [List.getD_eq_getElem?_getD, List.getElem?_eq_getElem hj]; exact List.getElem_mem hj)) hv).mono fun e w' h => ⟨?_, h.2⟩
  refine ⟨_, _, ?_, ?_, ?_, ?_, by rw [h.1]; unfold partV; rw [hl]⟩
  · exact bitsOf_size _ _
  · exact bitsOf_size _ _
  · exact b01_of (bitsB_bitsOf _ _)
  · exact b01_of (bitsB_bitsOf _ _)
theorem b01_flip {t : ByteArray} (h1 : t.size = 1) (h : b01 t = true) : b01 ⟨#[flipU t]⟩ = true := by
  obtain ⟨⟨l⟩⟩ := t
  match l, h1 with
  | [x], _ =>
    have hx : is01 x = true := by
      unfold b01 at h
      simpa using h
    have hf := flipU_is ⟨⟨[x]⟩⟩
    generalize flipU ⟨⟨[x]⟩⟩ = d at hf ⊢
    have hx2 : x = 48 ∨ x = 49 := by
      unfold is01 at hx
      simpa using hx
    have hd : d.toNat < 256 := d.toNat_lt
    have hw : ∀ z : Int, IntKind.u8.wrap z = z % 256 := fun _ => rfl
    rw [hw] at hf
    have hdd : d = 48 ∨ d = 49 := by
      rcases hx2 with rfl | rfl
      · right
        apply UInt8.toNat_inj.1
        have : ((([48] : List UInt8).getD 0 0).toNat : Int) = 48 := rfl
        rw [this] at hf
        show d.toNat = 49
        omega
      · left
        apply UInt8.toNat_inj.1
        have : ((([49] : List UInt8).getD 0 0).toNat : Int) = 49 := rfl
        rw [this] at hf
        show d.toNat = 48
        omega
    rcases hdd with rfl | rfl <;> rfl
set_option maxHeartbeats 4000000 in
theorem l1PairB_any (b K : Nat) (w : World) (h : RdB w b K) (hk : K < 1000000000) :
    Calls Tryz.prog 17 #[.pointer (some ⟨b, 0, none⟩)] w (PairB b (K + 200) w) := by
  have hb := h.block
  obtain ⟨W, hW⟩ : ∃ W, (w.alloc (.cells #[.int .i64 0, .string ⟨#[]⟩, .string ⟨#[]⟩] 24)).alloc (.cells #[.int .i64 0, .string ⟨#[]⟩, .string ⟨#[]⟩] 24) = W := ⟨_, rfl⟩
  have HB0 : Hid (Below w.heap.size w W ∧ SBlk W w.heap.size 0 ⟨#[]⟩ ⟨#[]⟩ ∧ SBlk W (w.heap.size + 1) 0 ⟨#[]⟩ ⟨#[]⟩ ∧ W.heap.size = w.heap.size + 2) := by
    subst hW
    have h1 : Below w.heap.size w (w.alloc (.cells #[.int .i64 0, .string ⟨#[]⟩, .string ⟨#[]⟩] 24)) := (Below.refl _ _).alloc (Nat.le_refl _) _
    have h2 := SBlk.new (w.alloc (.cells #[.int .i64 0, .string ⟨#[]⟩, .string ⟨#[]⟩] 24)) 0 ⟨#[]⟩ ⟨#[]⟩
    rw [World.size_alloc] at h2
    refine ⟨h1.alloc h1.size _, (SBlk.new w 0 ⟨#[]⟩ ⟨#[]⟩).below ((Below.refl _ _).alloc (Nat.le_refl _) _) (by simp), h2, by simp⟩
  have HR := Lib.hid (rdB_bel h HB0.out.1)
  have HW := Lib.hid hW
  clear h hW
  go_enter Tryz.func17, Tryz.ntmps17
  go_upto_region 1 with fail
  rw [HW.out]
  go_wp2_with fail
  refine (l1SomeB_any b K W HR.out (by omega)).mono ?_; rintro e w1 ⟨n, n1, n5, S, R, hS, hR, hSb, hRb, rfl, hr, hg⟩
  have hal : Below w1.heap.size w1 (w1.alloc (.cells #[.int .i64 (n : Int), .string S, .string R] 24)) := (Below.refl _ _).alloc (Nat.le_refl _) _
  obtain ⟨W2, hW2⟩ : ∃ W, w1.alloc (.cells #[.int .i64 (n : Int), .string S, .string R] 24) = W := ⟨_, rfl⟩
  have HP2 : Hid (Pr w b (K + 61) w1.heap.size (n : Int) S R 0 ⟨#[]⟩ ⟨#[]⟩ 0 ⟨#[]⟩ ⟨#[]⟩ W2) := by
    rw [← hW2]
    have hs := hg.size
    have h3 := HB0.out.2.2.2
    refine ⟨rdB_bel hr hal, (HB0.out.2.1.grown hg (by omega)).below hal ?_, (HB0.out.2.2.1.grown hg (by omega)).below hal (by omega), SBlk.new w1 _ S R, ⟨hb, by omega⟩, ((grown_belowS (row := some b) HB0.out.1).trans hg).trans (grown_belowS hal)⟩
    omega
  have HW2 := Lib.hid hW2
  clear hr hg hal hW2
  unfold strV
  go_upto_region 2 with fail
  rw [HW2.out]
  generalize w1.heap.size = x4 at *
  go_wp2_with fail
  refine (pickB _ b _ _ HP2.out.rd (by omega) (by omega) (by omega)).mono ?_; rintro e w3 ⟨v, rfl, v0, v1, hr, hg⟩
  have HP3 := Lib.hid (HP2.out.pick hr hg)
  have hne := HP3.out.ne
  have hx0 : w.heap.size ≠ x4 := by omega
  have hx1 : w.heap.size + 1 ≠ x4 := by omega
  clear hr hg HP2 HW2 HB0 HR HW
  have HSH := Lib.hid (fun W K' hk hr => l1Shuffle_any W b K' n hr hk (by omega))
  have HPT := Lib.hid (fun L v U hl hL hv => l1Part_b n S R L v U (by omega) hS hR hl hL hv)
  by_cases hv0 : v = 0
  · subst hv0
    go_upto_region 4 with fail
    obtain ⟨c0, c1, c2, f0, f1, f2, hl⟩ := HP3.out.a.cells
    obtain ⟨g0, g1, g2, i0, i1, i2, hl1⟩ := HP3.out.r1.cells
    obtain ⟨k0, k1, k2, j0, j1, j2, hl2⟩ := HP3.out.r2.cells
    go_region_held3 (fun w' => w'.cell? ⟨x4, 0, none⟩ = some (.int .i64 (n : Int)) ∧ w'.cell? ⟨x4, 1, none⟩ = some (.string S) ∧ w'.cell? ⟨x4, 2, none⟩ = some (.string R))
      (go_keep)
      (first
        | (go_at_call 37; refine (HSH.out _ (K + 62) (by omega) (by first | exact HP3.out.drew.rd | exact (HP3.out.drew.s1 _ _ _).rd)).mono ?_; rintro e w5 ⟨v, L, rfl, hl, hL, hnv, hr, hg⟩; have HNV := Lib.hid hnv; have HLN := Lib.hid hl; have HLL := Lib.hid hL; (first | have HP5 := Lib.hid (HP3.out.drew.pick hr hg) | have HP5 := Lib.hid ((HP3.out.drew.s1 _ _ _).pick hr hg)); obtain ⟨c0, c1, c2, f0, f1, f2, hl⟩ := HP5.out.a.cells; obtain ⟨g0, g1, g2, i0, i1, i2, hl1⟩ := HP5.out.r1.cells; obtain ⟨k0, k1, k2, j0, j1, j2, hl2⟩ := HP5.out.r2.cells; clear hr hg hnv hl hL)
        | (go_at_call 36; refine (HPT.out L v _ HLN.out HLL.out (by first | exact HNV.out | exact HNV.out.below (Below.refl _ _))).mono ?_; rintro e w6 ⟨⟨T, U, hT, hU, hTb, hUb, rfl⟩, hb6⟩; (first | have HP6 := Lib.hid (HP5.out.below hb6) | have HP6 := Lib.hid ((HP5.out.s1 _ _ _).below hb6)); obtain ⟨c0, c1, c2, f0, f1, f2, hl⟩ := HP6.out.a.cells; obtain ⟨g0, g1, g2, i0, i1, i2, hl1⟩ := HP6.out.r1.cells; obtain ⟨k0, k1, k2, j0, j1, j2, hl2⟩ := HP6.out.r2.cells; clear hb6; unfold strV))
    all_goals
      have HF := Lib.hid ((HP6.out.s1 (n : Int) S R).s2 (n : Int) T U)
      go_wp2_with fail
      refine bodyPost_ret (v := .tuple #[strV n S R, strV n T U]) ?_ rfl (HF.out.finB (by omega) ⟨n1, n5⟩ ⟨n1, n5⟩ hS hR hT hU hSb hRb hTb hUb)
      exact results_two rfl rfl HF.out.r1 rfl HF.out.r2
  · have hv0B : (v == 0) = false := by simpa using hv0
    by_cases hv1 : v = 1
    · subst hv1
      go_upto_region 6 with fail
      obtain ⟨c0, c1, c2, f0, f1, f2, hl⟩ := HP3.out.a.cells
      have hal : Below w3.heap.size w3 (w3.alloc (.cells #[.int .i64 0, .string ⟨#[]⟩, .string ⟨#[]⟩] 24)).drew := ((Below.refl _ _).alloc (Nat.le_refl _) _).drew
      have HPA := Lib.hid (HP3.out.below hal)
      have hb3 := HP3.out.r2.cells.2.2.2.2.2.2
      have hx3 : w3.heap.size ≠ x4 := by omega
      go_cut [5] (fun v wx => ∃ (x5 : Nat) (T U : ByteArray), v = .pointer (some ⟨x5, 0, none⟩) ∧ T.size = n ∧ U.size = n * n ∧ b01 T = true ∧ b01 U = true ∧ Hid (SBlk wx x5 (n : Int) T U ∧ Pr w b (K + 62 + n) x4 (n : Int) S R 0 ⟨#[]⟩ ⟨#[]⟩ 0 ⟨#[]⟩ ⟨#[]⟩ wx ∧ w.heap.size + 1 < x5 ∧ x5 ≠ x4))
      case first =>
        go_region_held3 (fun w' => w'.cell? ⟨x4, 0, none⟩ = some (.int .i64 (n : Int)) ∧ w'.cell? ⟨x4, 1, none⟩ = some (.string S) ∧ w'.cell? ⟨x4, 2, none⟩ = some (.string R))
          (go_keep)
          (first
            | (go_at_call 37; refine (HSH.out _ (K + 62) (by omega) (by first | exact HP3.out.drew.rd | exact HPA.out.rd)).mono ?_; rintro e w5 ⟨v, L, rfl, hl, hL, hnv, hr, hg⟩; have HNV := Lib.hid hnv; have HLN := Lib.hid hl; have HLL := Lib.hid hL; (first | have HP5 := Lib.hid (HP3.out.drew.pick hr hg) | have HP5 := Lib.hid (HPA.out.pick hr hg)); (first | have HA5 : Hid (SBlk w5 w3.heap.size 0 ⟨#[]⟩ ⟨#[]⟩) := (hg.block w3.heap.size (by simp) (by intro e; injection e; omega)).trans (SBlk.new w3 0 ⟨#[]⟩ ⟨#[]⟩) | skip); clear hl; obtain ⟨c0, c1, c2, f0, f1, f2, hl⟩ := HP5.out.a.cells; have hx5 : w5.heap.size ≠ x4 := (by omega); clear hr hg hnv hL)
            | (go_at_call 36; refine (HPT.out L v _ HLN.out HLL.out (by first | exact HNV.out | exact HNV.out.below ((Below.refl _ _).alloc (Nat.le_refl _) _))).mono ?_; rintro e w6 ⟨⟨T, U, hT, hU, hTb, hUb, rfl⟩, hb6⟩; have HT6 : Hid (Below w5.heap.size w5 w6) := (by first | exact hb6 | exact (((Below.refl w5.heap.size w5).alloc (Nat.le_refl _) _).trans (hb6.mono (by simp)))); have HP6 := Lib.hid (HP5.out.below HT6.out); obtain ⟨c0, c1, c2, f0, f1, f2, hl⟩ := HP6.out.a.cells; (first | have HA6 : Hid (SBlk w6 w3.heap.size 0 ⟨#[]⟩ ⟨#[]⟩) := HA5.out.below hb6 HA5.out.cells.2.2.2.2.2.2 | have HA6 : Hid (SBlk w6 w5.heap.size 0 ⟨#[]⟩ ⟨#[]⟩) := (SBlk.new w5 0 ⟨#[]⟩ ⟨#[]⟩).below hb6 (by simp) | skip); (first | obtain ⟨a0, a1, a2, a3, a4, a5, a6⟩ := HA6.out.cells | skip); clear hb6; unfold strV))
        all_goals
          have e5 := HP5.out.r2.cells.2.2.2.2.2.2
          have e6 := HP6.out.r2.cells.2.2.2.2.2.2
          go_wp2_with fail
          go_meet
          first
          | exact ⟨_, T, U, rfl, hT, hU, hTb, hUb, SBlk.new w6 _ _ _, HP6.out.below ((Below.refl _ _).alloc (Nat.le_refl _) _), e6, by omega⟩
          | exact ⟨_, T, U, rfl, hT, hU, hTb, hUb, HA6.out.set3, HP6.out.s5 e5 hx5 _ _ _, e5, hx5⟩
          | exact ⟨_, T, U, rfl, hT, hU, hTb, hUb, HA6.out.set3, HP6.out.s5 hb3 hx3 _ _ _, hb3, hx3⟩
      case rest =>
        obtain ⟨x5, T, U, rfl, hT, hU, hTb, hUb, HC⟩ := hcut
        clear c0 c1 c2 f0 f1 f2 hl hal HPA hb3 hx3 HP3 HSH HPT
        have hx4 := HC.out.2.2.1
        have hx5 := HC.out.2.2.2
        have hnn : 1 ≤ n * n ∧ n * n ≤ 25 := ⟨Nat.mul_le_mul n1 n1, Nat.mul_le_mul n5 n5⟩
        obtain ⟨N, hN⟩ : ∃ N, n * n = N := ⟨_, rfl⟩
        have HNN := Lib.hid hN
        rw [hN] at hU hnn
        clear hN
        obtain ⟨c0, c1, c2, f0, f1, f2, l7⟩ := HC.out.1.cells
        go_wp2_with fail
        refine (pickB _ b _ _ HC.out.2.1.rd (by omega) (by omega) (by omega)).mono ?_; rintro e w8 ⟨k, rfl, k0, k1, hr, hg⟩
        have HP8 := Lib.hid (HC.out.2.1.pick hr hg)
        have HX8 : Hid (SBlk w8 x5 (n : Int) T U) := HC.out.1.grown hg (by omega)
        clear hr hg c0 c1 c2 f0 f1 f2 l7 HC
        obtain ⟨j, rfl⟩ := Int.eq_ofNat_of_zero_le k0
        have hj : j < N := by omega
        have hw1 : IntKind.i64.wrap ((j : Int) + 1) = (j : Int) + 1 := IntWalk.i64_in _ (by omega)
        have hq1 : (U.extract j (j + 1)).size = 1 := by simp; omega
        have hq0 : (U.extract 0 j).size = j := by simp; omega
        have hq2 : (U.extract (j + 1) N).size = N - (j + 1) := by simp; omega
        have HFL := Lib.hid (fun w => l1Flip_one (U.extract j (j + 1)) hq1 w)
        obtain ⟨c0, c1, c2, f0, f1, f2, l8⟩ := HX8.out.cells
        have hjI : (j : Int) + 1 ≤ (U.size : Int) := by omega
        have hjJ : (j : Int) ≤ (U.size : Int) := by omega
        obtain ⟨u, hu⟩ : ∃ u : ByteArray, (⟨#[flipU (U.extract j (j + 1))]⟩ : ByteArray) = u := ⟨_, rfl⟩
        have huz : u.size = 1 := by rw [← hu]; rfl
        have hub : b01 u = true := by rw [← hu]; exact b01_flip hq1 (b01_extract hUb _ _)
        rw [hu] at HFL
        clear hu
        have hc1 : ¬ 9223372036854775807 < (U.extract 0 j).size + u.size := by rw [hq0, huz]; omega
        have hc2 : ¬ 9223372036854775807 < (U.extract 0 j ++ u).size + (U.extract (j + 1) N).size := by rw [ByteArray.size_append, hq0, huz, hq2]; omega
        have HUZ : Hid ((U.extract 0 j ++ u ++ U.extract (j + 1) N).size = N) := by show _ = _; rw [ByteArray.size_append, ByteArray.size_append, hq0, huz, hq2]; omega
        have q2 := fun s => Since.cell c2 s
        go_wp2_with fail
        refine wp_region_since_tail 19 (by kernel_rfl) (by kernel_rfl) ?_
        simp only [List.take_succ_cons, List.take_zero, List.drop_succ_cons, List.drop_zero]
        repeat (go_big_quiet_step (with_reducible exact Since.call (HFL.out _)))
        refine wpQuiet_nil ?_
        intro w9 hb9
        have HX9 : Hid (SBlk w9 x5 (n : Int) T U) := HX8.out.below hb9 l8
        have HP9 := Lib.hid (HP8.out.below hb9)
        obtain ⟨e0, e1, e2, h0, h1, h2, l9⟩ := HX9.out.cells
        obtain ⟨wd, hwd⟩ : ∃ x, w9.setCell ⟨x5, 2, none⟩ (.string (U.extract 0 j ++ u ++ U.extract (j + 1) N)) = x := ⟨_, rfl⟩
        have HC9 : Hid (SBlk wd x5 (n : Int) T (U.extract 0 j ++ u ++ U.extract (j + 1) N) ∧ Pr w b (K + 62 + n + 1) x4 (n : Int) S R 0 ⟨#[]⟩ ⟨#[]⟩ 0 ⟨#[]⟩ ⟨#[]⟩ wd) := by
          rw [← hwd]
          exact ⟨HX9.out.set2, HP9.out.s51 hx4 hx5 _⟩
        have HWD := Lib.hid hwd
        obtain ⟨U', hUe⟩ : ∃ x, (U.extract 0 j ++ u ++ U.extract (j + 1) N) = x := ⟨_, rfl⟩
        have hUb' : b01 U' = true := by rw [← hUe]; exact b01_append (b01_append (b01_extract hUb _ _) hub) (b01_extract hUb _ _)
        rw [hUe] at HC9 HWD HUZ
        have HUE := Lib.hid hUe
        clear hb9 q2 c0 c1 c2 f0 f1 f2 hUe hwd
        go_upto_region 9 with fail
        rw [HUE.out, HWD.out]
        clear e0 e1 e2 h0 h1 h2 l9
        obtain ⟨c0, c1, c2, f0, f1, f2, hl⟩ := HC9.out.2.a.cells
        obtain ⟨e0, e1, e2, _, _, _, l9⟩ := HC9.out.1.cells
        obtain ⟨g0, g1, g2, i0, i1, i2, hl1⟩ := HC9.out.2.r1.cells
        obtain ⟨k0, k1, k2, j0, j1, j2, hl2⟩ := HC9.out.2.r2.cells
        have hy0 : w.heap.size ≠ x5 := by omega
        have hy1 : w.heap.size + 1 ≠ x5 := by omega
        go_region_held3 (fun w' => w'.cell? ⟨x4, 0, none⟩ = some (.int .i64 (n : Int)) ∧ w'.cell? ⟨x4, 1, none⟩ = some (.string S) ∧ w'.cell? ⟨x4, 2, none⟩ = some (.string R) ∧ w'.cell? ⟨x5, 0, none⟩ = some (.int .i64 (n : Int)) ∧ w'.cell? ⟨x5, 1, none⟩ = some (.string T) ∧ w'.cell? ⟨x5, 2, none⟩ = some (.string U'))
          (go_keep)
          (fail)
        all_goals
          have HF := Lib.hid ((HC9.out.2.s1 (n : Int) S R).s2 (n : Int) T U').drew
          have hU' : U'.size = n * n := by rw [HUZ.out, HNN.out]
          go_wp2_with fail
          refine bodyPost_ret (v := .tuple #[strV n S R, strV n T U']) ?_ rfl (HF.out.finB (by omega) ⟨n1, n5⟩ ⟨n1, n5⟩ hS hR hT hU' hSb hRb hTb hUb')
          exact results_two rfl rfl HF.out.r1 rfl HF.out.r2
    · have hv1B : (v == 1) = false := by simpa using hv1
      clear HSH HPT
      obtain ⟨c0, c1, c2, f0, f1, f2, hl⟩ := HP3.out.a.cells
      obtain ⟨g0, g1, g2, i0, i1, i2, hl1⟩ := HP3.out.r1.cells
      obtain ⟨k0, k1, k2, j0, j1, j2, hl2⟩ := HP3.out.r2.cells
      by_cases hv2 : v = 2
      · subst hv2
        have HDR := Lib.hid (fun W hr => l1DrawB_any b (K + 61 + 1) n n1 n5 W hr (by omega))
        go_upto_region 11 with fail
        go_region_held3 (fun w' => w'.cell? ⟨x4, 0, none⟩ = some (.int .i64 (n : Int)) ∧ w'.cell? ⟨x4, 1, none⟩ = some (.string S) ∧ w'.cell? ⟨x4, 2, none⟩ = some (.string R))
          (go_keep)
          (first
            | (go_at_call 39; refine (HDR.out _ HP3.out.drew.rd).mono ?_; rintro e w6 ⟨T, U, hT, hU, hTb, hUb, rfl, hr, hg⟩; have HP6 := Lib.hid (HP3.out.drew.pick hr hg); clear hl hl1 hl2 c0 c1 c2 f0 f1 f2 g0 g1 g2 i0 i1 i2 k0 k1 k2 j0 j1 j2; obtain ⟨c0, c1, c2, f0, f1, f2, hl⟩ := HP6.out.a.cells; obtain ⟨g0, g1, g2, i0, i1, i2, hl1⟩ := HP6.out.r1.cells; obtain ⟨k0, k1, k2, j0, j1, j2, hl2⟩ := HP6.out.r2.cells; clear hr hg; unfold strV))
        all_goals
          have HF := Lib.hid ((HP6.out.s1 (n : Int) S R).s2 (n : Int) T U)
          go_wp2_with fail
          refine bodyPost_ret (v := .tuple #[strV n S R, strV n T U]) ?_ rfl (HF.out.finB (by omega) ⟨n1, n5⟩ ⟨n1, n5⟩ hS hR hT hU hSb hRb hTb hUb)
          exact results_two rfl rfl HF.out.r1 rfl HF.out.r2
      · have hv2B : (v == 2) = false := by simpa using hv2
        have HDR := Lib.hid (fun W hr => l1SomeB_any b (K + 61 + 1) W hr (by omega))
        go_upto_region 12 with fail
        go_region_held3 (fun w' => w'.cell? ⟨x4, 0, none⟩ = some (.int .i64 (n : Int)) ∧ w'.cell? ⟨x4, 1, none⟩ = some (.string S) ∧ w'.cell? ⟨x4, 2, none⟩ = some (.string R))
          (go_keep)
          (first
            | (go_at_call 35; refine (HDR.out _ HP3.out.drew.rd).mono ?_; rintro e w6 ⟨m, m1, m5, T, U, hT, hU, hTb, hUb, rfl, hr, hg⟩; have HP6 := Lib.hid (HP3.out.drew.pick hr hg); clear hl hl1 hl2 c0 c1 c2 f0 f1 f2 g0 g1 g2 i0 i1 i2 k0 k1 k2 j0 j1 j2; obtain ⟨c0, c1, c2, f0, f1, f2, hl⟩ := HP6.out.a.cells; obtain ⟨g0, g1, g2, i0, i1, i2, hl1⟩ := HP6.out.r1.cells; obtain ⟨k0, k1, k2, j0, j1, j2, hl2⟩ := HP6.out.r2.cells; clear hr hg; unfold strV))
        all_goals
          have HF := Lib.hid ((HP6.out.s1 (n : Int) S R).s2 (m : Int) T U)
          go_wp2_with fail
          refine bodyPost_ret (v := .tuple #[strV n S R, strV m T U]) ?_ rfl (HF.out.finB (by omega) ⟨n1, n5⟩ ⟨m1, m5⟩ hS hR hT hU hSb hRb hTb hUb)
          exact results_two rfl rfl HF.out.r1 rfl HF.out.r2
end Go.Proofs.YtofmagiahmmmgaaGreatDoor

namespace Go.Proofs.YtofmagiahmmmgaaGreatDoor
open Go.RowKit
set_option linter.unusedVariables false
set_option maxRecDepth 100000
theorem results_ss1 {fn : Func} {p q r : Tmp} (h : fn.results = #[.cell p 24, .cell q 24, .tmp r]) {tmps : Array Value} {w : World} {b c : Nat} {n m : Int} {S R T U : ByteArray} {z : Value} (hp : tmps.getD p undef = .pointer (some ⟨b, 0, none⟩)) (hb : SBlk w b n S R) (hq : tmps.getD q undef = .pointer (some ⟨c, 0, none⟩)) (hc : SBlk w c m T U) (hr : tmps.getD r undef = z) :
    (results fn tmps).run Tryz.prog w = .ok (.tuple #[strV n S R, strV m T U, z]) w := by
  have hl := run_loadVar_row (P := Tryz.prog) w b 24 24 #[.int .i64 n, .string S, .string R] (0, 0) _ hb Tryz.underlying24 rfl strInfo
  have hl2 := run_loadVar_row (P := Tryz.prog) w c 24 24 #[.int .i64 m, .string T, .string U] (0, 0) _ hc Tryz.underlying24 rfl strInfo
  have hp' : tmps[p]?.getD undef = .pointer (some ⟨b, 0, none⟩) := by simpa using hp
  have hq' : tmps[q]?.getD undef = .pointer (some ⟨c, 0, none⟩) := by simpa using hq
  have hr' : tmps[r]?.getD undef = z := by simpa using hr
  simp [results, h, hp', hq', hr', asAddr, Sem.run_bind, Result.andThen, hl, hl2, strV]
/-- The reader, the results' boxes, and the drawn structures' boxes. -/
structure Dw (w : World) (b K x : Nat) (n : Int) (S R : ByteArray) (m : Int) (T U : ByteArray) (wr : World) : Prop where
  rd : RdB wr b K
  r1 : SBlk wr w.heap.size 0 ⟨#[]⟩ ⟨#[]⟩
  r2 : SBlk wr (w.heap.size + 1) 0 ⟨#[]⟩ ⟨#[]⟩
  a : SBlk wr x n S R
  c : SBlk wr (x + 1) m T U
  ne : w.heap.size + 1 < b ∧ b < x
  old : Below w.heap.size w wr
section
variable {w wr w' : World} {b K K' x : Nat} {n m : Int} {S R T U : ByteArray}
theorem Dw.pick (h : Dw w b K x n S R m T U wr) (hr : RdB w' b K') (hg : wr.grownBy w' (some b)) : Dw w b K' x n S R m T U w' := by
  have hne := h.ne
  exact ⟨hr, h.r1.grown hg (by omega), h.r2.grown hg (by omega), h.a.grown hg (by omega), h.c.grown hg (by omega), h.ne, h.old.grown hg h.old.size (fun k hk => by injection hk with hk; omega)⟩
theorem Dw.below (h : Dw w b K x n S R m T U wr) (hb : Below wr.heap.size wr w') : Dw w b K x n S R m T U w' := h.pick (rdB_bel h.rd hb) (grown_belowS hb)
theorem Dw.drew (h : Dw w b K x n S R m T U wr) : Dw w b K x n S R m T U wr.drew := h.below (Below.refl _ _).drew
theorem Dw.mono (h : Dw w b K x n S R m T U wr) (hK : K ≤ K') : Dw w b K' x n S R m T U wr := ⟨h.rd.mono hK, h.r1, h.r2, h.a, h.c, h.ne, h.old⟩
theorem Dw.fin (h : Dw w b K x n S R m T U wr) (n1 : Int) (S1 R1 : ByteArray) (m1 : Int) (T1 U1 : ByteArray) :
    SBlk ((((((wr.setCell ⟨w.heap.size, 0, none⟩ (.int .i64 n1)).setCell ⟨w.heap.size, 1, none⟩ (.string S1)).setCell ⟨w.heap.size, 2, none⟩ (.string R1)).setCell ⟨w.heap.size + 1, 0, none⟩ (.int .i64 m1)).setCell ⟨w.heap.size + 1, 1, none⟩ (.string T1)).setCell ⟨w.heap.size + 1, 2, none⟩ (.string U1)) w.heap.size n1 S1 R1 ∧
    SBlk ((((((wr.setCell ⟨w.heap.size, 0, none⟩ (.int .i64 n1)).setCell ⟨w.heap.size, 1, none⟩ (.string S1)).setCell ⟨w.heap.size, 2, none⟩ (.string R1)).setCell ⟨w.heap.size + 1, 0, none⟩ (.int .i64 m1)).setCell ⟨w.heap.size + 1, 1, none⟩ (.string T1)).setCell ⟨w.heap.size + 1, 2, none⟩ (.string U1)) (w.heap.size + 1) m1 T1 U1 ∧
    Below w.heap.size w ((((((wr.setCell ⟨w.heap.size, 0, none⟩ (.int .i64 n1)).setCell ⟨w.heap.size, 1, none⟩ (.string S1)).setCell ⟨w.heap.size, 2, none⟩ (.string R1)).setCell ⟨w.heap.size + 1, 0, none⟩ (.int .i64 m1)).setCell ⟨w.heap.size + 1, 1, none⟩ (.string T1)).setCell ⟨w.heap.size + 1, 2, none⟩ (.string U1)) := by
  refine ⟨((h.r1.set3.far (by simp) _).far (by simp) _).far (by simp) _, (((h.r2.far (by simp) _).far (by simp) _).far (by simp) _).set3, ?_⟩
  exact (((((h.old.setCell (Nat.le_refl _) _).setCell (Nat.le_refl _) _).setCell (Nat.le_refl _) _).setCell (Nat.le_succ _) _).setCell (Nat.le_succ _) _).setCell (Nat.le_succ _) _
end
end Go.Proofs.YtofmagiahmmmgaaGreatDoor

namespace Go.Proofs.YtofmagiahmmmgaaGreatDoor
open Go.RowKit
set_option linter.unusedVariables false
set_option maxRecDepth 100000
/-- What the draw leaves. -/
def DrawG (w : World) (e : Ending) (w' : World) : Prop := ∃ (n : Int) (S R : ByteArray) (m : Nat) (T U : ByteArray) (K : Int), (-1 ≤ n ∧ n ≤ 9223372036854775807) ∧ S.size ≤ 10 ∧ R.size ≤ 100 ∧ m ≤ 5 ∧ validB m T U = true ∧ (-1 ≤ K ∧ K ≤ 4) ∧
  e = .returned (.tuple #[strV n S R, strV m T U, .int .i64 K]) ∧ Below w.heap.size w w'
set_option maxHeartbeats 4000000 in
theorem DrawSameRank_any (w : World) (a : Option Addr) (len cap : Nat) (zs : List Int) (h : IsRow .u8 w a len cap zs) :
    Calls Tryz.prog 4 #[.slice a len cap] w (DrawG w) := by
  obtain ⟨W, hW⟩ : ∃ W, (w.alloc (.cells #[.int .i64 0, .string ⟨#[]⟩, .string ⟨#[]⟩] 24)).alloc (.cells #[.int .i64 0, .string ⟨#[]⟩, .string ⟨#[]⟩] 24) = W := ⟨_, rfl⟩
  have HB0 : Hid (Below w.heap.size w W ∧ SBlk W w.heap.size 0 ⟨#[]⟩ ⟨#[]⟩ ∧ SBlk W (w.heap.size + 1) 0 ⟨#[]⟩ ⟨#[]⟩ ∧ W.heap.size = w.heap.size + 2) := by
    subst hW
    have h1 : Below w.heap.size w (w.alloc (.cells #[.int .i64 0, .string ⟨#[]⟩, .string ⟨#[]⟩] 24)) := (Below.refl _ _).alloc (Nat.le_refl _) _
    have h2 := SBlk.new (w.alloc (.cells #[.int .i64 0, .string ⟨#[]⟩, .string ⟨#[]⟩] 24)) 0 ⟨#[]⟩ ⟨#[]⟩
    rw [World.size_alloc] at h2
    refine ⟨h1.alloc h1.size _, (SBlk.new w 0 ⟨#[]⟩ ⟨#[]⟩).below ((Below.refl _ _).alloc (Nat.le_refl _) _) (by simp), h2, by simp⟩
  have H := Lib.hid (h.below HB0.out.1)
  have HW := Lib.hid hW
  clear h hW
  go_enter Tryz.func4, Tryz.ntmps4
  go_upto_region 1 with fail
  rw [HW.out]
  go_wp2_with fail
  refine (l15Open_any _ _ _ _ _ H.out).mono ?_; rintro e w1 ⟨rfl, hr, hb, hs⟩
  have HR1 := Lib.hid hr
  have HB1 : Hid (Below w.heap.size w w1 ∧ SBlk w1 w.heap.size 0 ⟨#[]⟩ ⟨#[]⟩ ∧ SBlk w1 (w.heap.size + 1) 0 ⟨#[]⟩ ⟨#[]⟩ ∧ w.heap.size + 1 < W.heap.size) := by
    have h3 := HB0.out.2.2.2
    exact ⟨HB0.out.1.trans (hb.mono HB0.out.1.size), HB0.out.2.1.below hb (by omega), HB0.out.2.2.1.below hb (by omega), by omega⟩
  clear hr hb hs HB0 HW
  generalize W.heap.size = b at *
  go_wp2_with fail
  refine (l1PairB_any b _ w1 HR1.out (by omega)).mono ?_; rintro e w2 ⟨n, m, S, R, T, U, n5, m5, hv, hu, rfl, hr, hg⟩
  obtain ⟨n1, n8, hS, hR, _, _⟩ := valid_is hv
  obtain ⟨m1, m8, hT, hU, _, _⟩ := valid_is hu
  obtain ⟨W3, hW3⟩ : ∃ W, (w2.alloc (.cells #[.int .i64 (n : Int), .string S, .string R] 24)).alloc (.cells #[.int .i64 (m : Int), .string T, .string U] 24) = W := ⟨_, rfl⟩
  have HD : Hid (Dw w b 300 w2.heap.size (n : Int) S R (m : Int) T U W3) := by
    rw [← hW3]
    have hbb := hr.block
    have hal : Below w2.heap.size w2 (w2.alloc (.cells #[.int .i64 (n : Int), .string S, .string R] 24)) := (Below.refl _ _).alloc (Nat.le_refl _) _
    have hal2 : Below (w2.alloc (.cells #[.int .i64 (n : Int), .string S, .string R] 24)).heap.size (w2.alloc (.cells #[.int .i64 (n : Int), .string S, .string R] 24)) ((w2.alloc (.cells #[.int .i64 (n : Int), .string S, .string R] 24)).alloc (.cells #[.int .i64 (m : Int), .string T, .string U] 24)) := (Below.refl _ _).alloc (Nat.le_refl _) _
    have hnw := SBlk.new (w2.alloc (.cells #[.int .i64 (n : Int), .string S, .string R] 24)) (m : Int) T U
    rw [World.size_alloc] at hnw
    have hlt := HB1.out.2.2.2
    have p1 := HB1.out.2.1.grown hg (by omega)
    have p2 := HB1.out.2.2.1.grown hg (by omega)
    have l1 := p1.cells.2.2.2.2.2.2
    have l2 := p2.cells.2.2.2.2.2.2
    have ho : Below w.heap.size w w2 := HB1.out.1.grown hg HB1.out.1.size (fun k hk => by injection hk with hk; omega)
    exact ⟨(rdB_bel (rdB_bel hr hal) hal2).mono (by omega), (p1.below hal l1).below hal2 (by simp; omega), (p2.below hal l2).below hal2 (by simp; omega), (SBlk.new w2 _ S R).below hal2 (by simp), hnw, ⟨by omega, by omega⟩, (ho.trans (hal.mono ho.size)).trans (hal2.mono (by simp; have := ho.size; omega))⟩
  have HW3 := Lib.hid hW3
  clear hr hg hW3 HB1 HR1 H
  unfold strV
  go_upto_region 3 with fail
  rw [HW3.out]
  generalize w2.heap.size = x6 at *
  clear HW3
  go_wp2_with fail
  refine (pickB _ b _ _ HD.out.rd (by omega) (by omega) (by omega)).mono ?_; rintro e w4 ⟨v, rfl, v0, v1, hr, hg⟩
  have HD4 := Lib.hid (HD.out.pick hr hg)
  clear hr hg HD
  have hne := HD4.out.ne
  have hx0 : w.heap.size ≠ x6 := by omega
  have hx1 : w.heap.size + 1 ≠ x6 := by omega
  have hx2 : w.heap.size ≠ x6 + 1 := by omega
  have hx3 : w.heap.size + 1 ≠ x6 + 1 := by omega
  obtain ⟨c0, c1, c2, f0, f1, f2, hl⟩ := HD4.out.a.cells; obtain ⟨e0, e1, e2, _, _, _, l9⟩ := HD4.out.c.cells; obtain ⟨g0, g1, g2, i0, i1, i2, hl1⟩ := HD4.out.r1.cells; obtain ⟨k0, k1, k2, j0, j1, j2, hl2⟩ := HD4.out.r2.cells
  by_cases hv0 : v = 0
  · subst hv0
    have HBD := Lib.hid (fun W hr => l1Bad_any b 400 n S R n1 n5 hS hR W hr (by omega))
    have HN : Hid (∀ W T, RdB W b 402 → Calls Tryz.prog 20 #[.pointer (some ⟨b, 0, none⟩), .slice (some ⟨W.heap.size, 0, none⟩) 3 3] (W.alloc (.cells #[.int .i64 (-1), .int .i64 4, .int .i64 0] T)) (ElemPost b 402 [-1, 4, 0] W)) := fun W T hr => num_list W b 402 [-1, 4, 0] T hr (by omega) (by decide) (by decide)
    have HN3 := Lib.hid (fun W lb (hr : RdB W b 402) h1 h2 => (num_any W b 402 lb 3 (fun j => ([-1, 4, 0] : List Int).getD j 0) hr (by omega) h1 (by decide) (by decide) h2).mono (R' := ElemPost b 402 [-1, 4, 0] W) (fun e w' ⟨j, hj, he, hr, hg⟩ => ⟨([-1, 4, 0] : List Int).getD j 0, by rcases (by omega : j = 0 ∨ j = 1 ∨ j = 2) with rfl | rfl | rfl <;> decide, he, hr, hg⟩))
    have hlb : w4.heap.size ≠ b := by have := HD4.out.rd.block; omega
    have HLB : Hid (w4.heap.size ≠ b) := hlb
    have HDL : Hid (Dw w b 400 x6 (n : Int) S R (m : Int) T U (w4.alloc (.cells #[.int .i64 (-1), .int .i64 4, .int .i64 0] 3)).drew) := (HD4.out.below ((Below.refl _ _).alloc (Nat.le_refl _) _)).drew.mono (by omega)
    have HLC : Hid (∀ w', (w4.alloc (.cells #[.int .i64 (-1), .int .i64 4, .int .i64 0] 3)).drew.grownBy w' (some b) → ∀ j, j < 3 → w'.cell? ⟨w4.heap.size, j, none⟩ = some (.int .i64 (([-1, 4, 0] : List Int).getD j 0))) := fun w' hg j hj => by
      refine hg.cell ?_ (by intro h; injection h with h; exact HLB.out h)
      show (w4.alloc (.cells #[.int .i64 (-1), .int .i64 4, .int .i64 0] 3)).cell? _ = _
      rw [World.cell?_alloc_new]
      rcases (by omega : j = 0 ∨ j = 1 ∨ j = 2) with rfl | rfl | rfl <;> rfl
    unfold strV at HBD
    go_upto_region 4 with fail
    go_region_held3 (fun w' => w'.cell? ⟨x6, 0, none⟩ = some (.int .i64 (n : Int)) ∧ w'.cell? ⟨x6, 1, none⟩ = some (.string S) ∧ w'.cell? ⟨x6, 2, none⟩ = some (.string R) ∧ w'.cell? ⟨x6 + 1, 0, none⟩ = some (.int .i64 (m : Int)) ∧ w'.cell? ⟨x6 + 1, 1, none⟩ = some (.string T) ∧ w'.cell? ⟨x6 + 1, 2, none⟩ = some (.string U))
      (go_keep)
      (first
        | (go_at_call 19; (with_reducible refine (HBD.out _ (HD4.out.drew.rd.mono (by omega))).mono ?_); rintro e wq ⟨n', S', R', q0, q1, z1, z2, rfl, hr, hg⟩; have HD5 := Lib.hid (HD4.out.drew.pick hr hg); clear hr hg hl hl1 hl2 l9 c0 c1 c2 f0 f1 f2 g0 g1 g2 i0 i1 i2 k0 k1 k2 j0 j1 j2 e0 e1 e2; obtain ⟨c0, c1, c2, f0, f1, f2, hl⟩ := HD5.out.a.cells; obtain ⟨e0, e1, e2, _, _, _, l9⟩ := HD5.out.c.cells; obtain ⟨g0, g1, g2, i0, i1, i2, hl1⟩ := HD5.out.r1.cells; obtain ⟨k0, k1, k2, j0, j1, j2, hl2⟩ := HD5.out.r2.cells; unfold strV)
        | (go_at_call 19; (with_reducible refine (HBD.out _ HDL.out.rd).mono ?_); rintro e wq ⟨n', S', R', q0, q1, z1, z2, rfl, hr, hg⟩; have HLL := Lib.hid (HLC.out _ hg); have HD5 := Lib.hid (HDL.out.pick hr hg); clear hr hg hl hl1 hl2 l9 c0 c1 c2 f0 f1 f2 g0 g1 g2 i0 i1 i2 k0 k1 k2 j0 j1 j2 e0 e1 e2; obtain ⟨c0, c1, c2, f0, f1, f2, hl⟩ := HD5.out.a.cells; obtain ⟨e0, e1, e2, _, _, _, l9⟩ := HD5.out.c.cells; obtain ⟨g0, g1, g2, i0, i1, i2, hl1⟩ := HD5.out.r1.cells; obtain ⟨k0, k1, k2, j0, j1, j2, hl2⟩ := HD5.out.r2.cells; unfold strV)
        | (go_at_call 20; (with_reducible refine (HN3.out _ _ HD5.out.rd HLB.out HLL.out).mono ?_); rintro e wr ⟨r, hr0, rfl, hr, hg⟩; have HD6 := Lib.hid (HD5.out.pick hr hg); clear hr hg hl hl1 hl2 l9 c0 c1 c2 f0 f1 f2 g0 g1 g2 i0 i1 i2 k0 k1 k2 j0 j1 j2 e0 e1 e2; obtain ⟨c0, c1, c2, f0, f1, f2, hl⟩ := HD6.out.a.cells; obtain ⟨e0, e1, e2, _, _, _, l9⟩ := HD6.out.c.cells; obtain ⟨g0, g1, g2, i0, i1, i2, hl1⟩ := HD6.out.r1.cells; obtain ⟨k0, k1, k2, j0, j1, j2, hl2⟩ := HD6.out.r2.cells)
        | (go_at_call 20; (with_reducible refine (HN.out _ _ HD5.out.rd).mono ?_); rintro e wr ⟨r, hr0, rfl, hr, hg⟩; have HD6 := Lib.hid (HD5.out.pick hr hg); clear hr hg hl hl1 hl2 l9 c0 c1 c2 f0 f1 f2 g0 g1 g2 i0 i1 i2 k0 k1 k2 j0 j1 j2 e0 e1 e2; obtain ⟨c0, c1, c2, f0, f1, f2, hl⟩ := HD6.out.a.cells; obtain ⟨e0, e1, e2, _, _, _, l9⟩ := HD6.out.c.cells; obtain ⟨g0, g1, g2, i0, i1, i2, hl1⟩ := HD6.out.r1.cells; obtain ⟨k0, k1, k2, j0, j1, j2, hl2⟩ := HD6.out.r2.cells))
    all_goals
      have hr9 : -1 ≤ r ∧ r ≤ 4 := by
        simp at hr0
        omega
      have HF := Lib.hid (HD6.out.fin n' S' R' (m : Int) T U)
      go_wp2_with fail
      refine bodyPost_ret (v := .tuple #[strV n' S' R', strV m T U, .int .i64 r]) ?_ rfl ⟨n', S', R', m, T, U, r, ⟨q0, q1⟩, z1, z2, m5, hu, hr9, rfl, HF.out.2.2⟩
      exact results_ss1 rfl rfl HF.out.1 rfl HF.out.2.1 rfl
  · have hv0B : (v == 0) = false := by simpa using hv0
    have HN := Lib.hid (fun TT => num_list w4.drew b _ [2, 1, 3, 2, 0] TT HD4.out.drew.rd (by omega) (by decide) (by decide))
    go_upto_region 5 with fail
    go_region_held3 (fun w' => w'.cell? ⟨x6, 0, none⟩ = some (.int .i64 (n : Int)) ∧ w'.cell? ⟨x6, 1, none⟩ = some (.string S) ∧ w'.cell? ⟨x6, 2, none⟩ = some (.string R) ∧ w'.cell? ⟨x6 + 1, 0, none⟩ = some (.int .i64 (m : Int)) ∧ w'.cell? ⟨x6 + 1, 1, none⟩ = some (.string T) ∧ w'.cell? ⟨x6 + 1, 2, none⟩ = some (.string U))
      (go_keep)
      (first
        | (go_at_call 20; refine (HN.out _).mono ?_; rintro e wq ⟨r, hr0, rfl, hr, hg⟩; have HD5 := Lib.hid (HD4.out.drew.pick hr hg); clear hr hg hl hl1 hl2 l9 c0 c1 c2 f0 f1 f2 g0 g1 g2 i0 i1 i2 k0 k1 k2 j0 j1 j2 e0 e1 e2; obtain ⟨c0, c1, c2, f0, f1, f2, hl⟩ := HD5.out.a.cells; obtain ⟨e0, e1, e2, _, _, _, l9⟩ := HD5.out.c.cells; obtain ⟨g0, g1, g2, i0, i1, i2, hl1⟩ := HD5.out.r1.cells; obtain ⟨k0, k1, k2, j0, j1, j2, hl2⟩ := HD5.out.r2.cells))
    all_goals
      have hr9 : -1 ≤ r ∧ r ≤ 4 := by
        simp at hr0
        omega
      have HF := Lib.hid (HD5.out.fin (n : Int) S R (m : Int) T U)
      go_wp2_with fail
      refine bodyPost_ret (v := .tuple #[strV n S R, strV m T U, .int .i64 r]) ?_ rfl ⟨n, S, R, m, T, U, r, by omega, by omega, by rw [hR]; have := Nat.mul_le_mul n5 n5; omega, m5, hu, hr9, rfl, HF.out.2.2⟩
      exact results_ss1 rfl rfl HF.out.1 rfl HF.out.2.1 rfl
end Go.Proofs.YtofmagiahmmmgaaGreatDoor

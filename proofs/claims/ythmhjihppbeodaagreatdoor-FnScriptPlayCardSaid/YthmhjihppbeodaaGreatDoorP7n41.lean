/- Contracts of the program's functions and what they compute: part 41. Conditions: those that each theorem states. -/
import Derived.Test.YthmhjihppbeodaaGreatDoorP7n39
import Derived.Test.YthmhjihppbeodaaGreatDoorP7n40
namespace Go.Proofs.YthmhjihppbeodaaGreatDoor
open Go.RowKit
set_option linter.unusedVariables false
set_option maxRecDepth 100000
/-- Two valid structures that are drawn. -/
def PairB (b K : Nat) (w : World) (e : Ending) (w' : World) : Prop := ∃ (n m : Nat) (S R T U : ByteArray), n ≤ 5 ∧ m ≤ 5 ∧ validB n S R = true ∧ validB m T U = true ∧ e = .returned (.tuple #[strV n S R, strV m T U]) ∧ RdB w' b K ∧ w.grownBy w' (some b)
theorem Pr.finB {w wr : World} {b K K' x : Nat} {n : Int} {S R : ByteArray} {n1 n2 : Nat} {S1 R1 S2 R2 : ByteArray} (h : Pr w b K x n S R (n1 : Int) S1 R1 (n2 : Int) S2 R2 wr) (hK : K ≤ K')
    (hn : 1 ≤ n1 ∧ n1 ≤ 5) (hm : 1 ≤ n2 ∧ n2 ≤ 5) (hS : S1.size = n1) (hR : R1.size = n1 * n1) (hT : S2.size = n2) (hU : R2.size = n2 * n2) (bS : b01 S1 = true) (bR : b01 R1 = true) (bT : b01 S2 = true) (bU : b01 R2 = true) :
    PairB b K' w (.returned (.tuple #[strV (n1 : Int) S1 R1, strV (n2 : Int) S2 R2])) wr := ⟨n1, n2, S1, R1, S2, R2, hn.2, hm.2, b01_valid hn.1 (by omega) hS hR bS bR, b01_valid hm.1 (by omega) hT hU bT bU, rfl, h.rd.mono hK, h.old⟩
theorem l1Part_b (n : Nat) (S R : ByteArray) (L : List Nat) (v : Value) (w : World) (hn : n ≤ 8) (hS : S.size = n) (hR : R.size = n * n) (hl : L.length = n) (hL : ∀ z ∈ L, z < n) (hv : NumsAt w v L) :
    Calls Tryz.prog 35 #[strV n S R, v] w fun e w' => (∃ T U : ByteArray, T.size = n ∧ U.size = n * n ∧ b01 T = true ∧ b01 U = true ∧ e = .returned (strV n T U)) ∧ Below w.heap.size w w' := by
  refine (l1Part_any n S R L v w hn hS hR (by omega) (fun j hj => hL _ (by rw [List.getD_eq_getElem?_getD, List.getElem?_eq_getElem hj]; exact List.getElem_mem hj)) hv).mono fun e w' h => ⟨?_, h.2⟩
  refine ⟨_, _, ?_, ?_, ?_, ?_, by rw [h.1]; unfold partV; rw [hl]⟩
  · exact bitsOf_size _ _
  · exact bitsOf_size _ _
  · exact b01_of (bitsB_bitsOf _ _)
  · exact b01_of (bitsB_bitsOf _ _)
theorem b01_flip {t : ByteArray} (h1 : t.size = 1) (h : b01 t = true) : b01 ⟨#[flipU t]⟩ = true := by
  obtain ⟨⟨l⟩⟩ := t
  match l, h1 with
  | [x], _ =>
    have hx : is01 x = true := by
      unfold b01 at h
      simpa using h
    have hf := flipU_is ⟨⟨[x]⟩⟩
    generalize flipU ⟨⟨[x]⟩⟩ = d at hf ⊢
    have hx2 : x = 48 ∨ x = 49 := by
      unfold is01 at hx
      simpa using hx
    have hd : d.toNat < 256 := d.toNat_lt
    have hw : ∀ z : Int, IntKind.u8.wrap z = z % 256 := fun _ => rfl
    rw [hw] at hf
    have hdd : d = 48 ∨ d = 49 := by
      rcases hx2 with rfl | rfl
      · right
        apply UInt8.toNat_inj.1
        have : ((([48] : List UInt8).getD 0 0).toNat : Int) = 48 := rfl
        rw [this] at hf
        show d.toNat = 49
        omega
      · left
        apply UInt8.toNat_inj.1
        have : ((([49] : List UInt8).getD 0 0).toNat : Int) = 49 := rfl
        rw [this] at hf
        show d.toNat = 48
        omega
    rcases hdd with rfl | rfl <;> rfl
set_option maxHeartbeats 4000000 in
theorem l1PairB_any (b K : Nat) (w : World) (h : RdB w b K) (hk : K < 1000000000) :
    Calls Tryz.prog 15 #[.pointer (some ⟨b, 0, none⟩)] w (PairB b (K + 200) w) := by
  have hb := h.block
  obtain ⟨W, hW⟩ : ∃ W, (w.alloc (.cells #[.int .i64 0, .string ⟨#[]⟩, .string ⟨#[]⟩] 24)).alloc (.cells #[.int .i64 0, .string ⟨#[]⟩, .string ⟨#[]⟩] 24) = W := ⟨_, rfl⟩
  have HB0 : Hid (Below w.heap.size w W ∧ SBlk W w.heap.size 0 ⟨#[]⟩ ⟨#[]⟩ ∧ SBlk W (w.heap.size + 1) 0 ⟨#[]⟩ ⟨#[]⟩ ∧ W.heap.size = w.heap.size + 2) := by
    subst hW
    have h1 : Below w.heap.size w (w.alloc (.cells #[.int .i64 0, .string ⟨#[]⟩, .string ⟨#[]⟩] 24)) := (Below.refl _ _).alloc (Nat.le_refl _) _
    have h2 := SBlk.new (w.alloc (.cells #[.int .i64 0, .string ⟨#[]⟩, .string ⟨#[]⟩] 24)) 0 ⟨#[]⟩ ⟨#[]⟩
    rw [World.size_alloc] at h2
    refine ⟨h1.alloc h1.size _, (SBlk.new w 0 ⟨#[]⟩ ⟨#[]⟩).below ((Below.refl _ _).alloc (Nat.le_refl _) _) (by simp), h2, by simp⟩
  have HR := Lib.hid (rdB_bel h HB0.out.1)
  have HW := Lib.hid hW
  clear h hW
  go_enter Tryz.func15, Tryz.ntmps15
  go_upto_region 1 with fail
  rw [HW.out]
  go_wp2_with fail
  refine (l1SomeB_any b K W HR.out (by omega)).mono ?_; rintro e w1 ⟨n, n1, n5, S, R, hS, hR, hSb, hRb, rfl, hr, hg⟩
  have hal : Below w1.heap.size w1 (w1.alloc (.cells #[.int .i64 (n : Int), .string S, .string R] 24)) := (Below.refl _ _).alloc (Nat.le_refl _) _
  obtain ⟨W2, hW2⟩ : ∃ W, w1.alloc (.cells #[.int .i64 (n : Int), .string S, .string R] 24) = W := ⟨_, rfl⟩
  have HP2 : Hid (Pr w b (K + 61) w1.heap.size (n : Int) S R 0 ⟨#[]⟩ ⟨#[]⟩ 0 ⟨#[]⟩ ⟨#[]⟩ W2) := by
    rw [← hW2]
    have hs := hg.size
    have h3 := HB0.out.2.2.2
    refine ⟨rdB_bel hr hal, (HB0.out.2.1.grown hg (by omega)).below hal ?_, (HB0.out.2.2.1.grown hg (by omega)).below hal (by omega), SBlk.new w1 _ S R, ⟨hb, by omega⟩, ((grown_belowS (row := some b) HB0.out.1).trans hg).trans (grown_belowS hal)⟩
    omega
  have HW2 := Lib.hid hW2
  clear hr hg hal hW2
  unfold strV
  go_upto_region 2 with fail
  rw [HW2.out]
  generalize w1.heap.size = x4 at *
  go_wp2_with fail
  refine (pickB _ b _ _ HP2.out.rd (by omega) (by omega) (by omega)).mono ?_; rintro e w3 ⟨v, rfl, v0, v1, hr, hg⟩
  have HP3 := Lib.hid (HP2.out.pick hr hg)
  have hne := HP3.out.ne
  have hx0 : w.heap.size ≠ x4 := by omega
  have hx1 : w.heap.size + 1 ≠ x4 := by omega
  clear hr hg HP2 HW2 HB0 HR HW
  have HSH := Lib.hid (fun W K' hk hr => l1Shuffle_any W b K' n hr hk (by omega))
  have HPT := Lib.hid (fun L v U hl hL hv => l1Part_b n S R L v U (by omega) hS hR hl hL hv)
  by_cases hv0 : v = 0
  · subst hv0
    go_upto_region 4 with fail
    obtain ⟨c0, c1, c2, f0, f1, f2, hl⟩ := HP3.out.a.cells
    obtain ⟨g0, g1, g2, i0, i1, i2, hl1⟩ := HP3.out.r1.cells
    obtain ⟨k0, k1, k2, j0, j1, j2, hl2⟩ := HP3.out.r2.cells
    go_region_held3 (fun w' => w'.cell? ⟨x4, 0, none⟩ = some (.int .i64 (n : Int)) ∧ w'.cell? ⟨x4, 1, none⟩ = some (.string S) ∧ w'.cell? ⟨x4, 2, none⟩ = some (.string R))
      (go_keep)
      (first
        | (go_at_call 36; refine (HSH.out _ (K + 62) (by omega) (by first | exact HP3.out.drew.rd | exact (HP3.out.drew.s1 _ _ _).rd)).mono ?_; rintro e w5 ⟨v, L, rfl, hl, hL, hnv, hr, hg⟩; have HNV := Lib.hid hnv; have HLN := Lib.hid hl; have HLL := Lib.hid hL; (first | have HP5 := Lib.hid (HP3.out.drew.pick hr hg) | have HP5 := Lib.hid ((HP3.out.drew.s1 _ _ _).pick hr hg)); obtain ⟨c0, c1, c2, f0, f1, f2, hl⟩ := HP5.out.a.cells; obtain ⟨g0, g1, g2, i0, i1, i2, hl1⟩ := HP5.out.r1.cells; obtain ⟨k0, k1, k2, j0, j1, j2, hl2⟩ := HP5.out.r2.cells; clear hr hg hnv hl hL)
        | (go_at_call 35; refine (HPT.out L v _ HLN.out HLL.out (by first | exact HNV.out | exact HNV.out.below (Below.refl _ _))).mono ?_; rintro e w6 ⟨⟨T, U, hT, hU, hTb, hUb, rfl⟩, hb6⟩; (first | have HP6 := Lib.hid (HP5.out.below hb6) | have HP6 := Lib.hid ((HP5.out.s1 _ _ _).below hb6)); obtain ⟨c0, c1, c2, f0, f1, f2, hl⟩ := HP6.out.a.cells; obtain ⟨g0, g1, g2, i0, i1, i2, hl1⟩ := HP6.out.r1.cells; obtain ⟨k0, k1, k2, j0, j1, j2, hl2⟩ := HP6.out.r2.cells; clear hb6; unfold strV))
    all_goals
      have HF := Lib.hid ((HP6.out.s1 (n : Int) S R).s2 (n : Int) T U)
      go_wp2_with fail
      refine bodyPost_ret (v := .tuple #[strV n S R, strV n T U]) ?_ rfl (HF.out.finB (by omega) ⟨n1, n5⟩ ⟨n1, n5⟩ hS hR hT hU hSb hRb hTb hUb)
      exact results_two rfl rfl HF.out.r1 rfl HF.out.r2
  · have hv0B : (v == 0) = false := by simpa using hv0
    by_cases hv1 : v = 1
    · subst hv1
      go_upto_region 6 with fail
      obtain ⟨c0, c1, c2, f0, f1, f2, hl⟩ := HP3.out.a.cells
      have hal : Below w3.heap.size w3 (w3.alloc (.cells #[.int .i64 0, .string ⟨#[]⟩, .string ⟨#[]⟩] 24)).drew := ((Below.refl _ _).alloc (Nat.le_refl _) _).drew
      have HPA := Lib.hid (HP3.out.below hal)
      have hb3 := HP3.out.r2.cells.2.2.2.2.2.2
      have hx3 : w3.heap.size ≠ x4 := by omega
      go_cut [5] (fun v wx => ∃ (x5 : Nat) (T U : ByteArray), v = .pointer (some ⟨x5, 0, none⟩) ∧ T.size = n ∧ U.size = n * n ∧ b01 T = true ∧ b01 U = true ∧ Hid (SBlk wx x5 (n : Int) T U ∧ Pr w b (K + 62 + n) x4 (n : Int) S R 0 ⟨#[]⟩ ⟨#[]⟩ 0 ⟨#[]⟩ ⟨#[]⟩ wx ∧ w.heap.size + 1 < x5 ∧ x5 ≠ x4))
      case first =>
        go_region_held3 (fun w' => w'.cell? ⟨x4, 0, none⟩ = some (.int .i64 (n : Int)) ∧ w'.cell? ⟨x4, 1, none⟩ = some (.string S) ∧ w'.cell? ⟨x4, 2, none⟩ = some (.string R))
          (go_keep)
          (first
            | (go_at_call 36; refine (HSH.out _ (K + 62) (by omega) (by first | exact HP3.out.drew.rd | exact HPA.out.rd)).mono ?_; rintro e w5 ⟨v, L, rfl, hl, hL, hnv, hr, hg⟩; have HNV := Lib.hid hnv; have HLN := Lib.hid hl; have HLL := Lib.hid hL; (first | have HP5 := Lib.hid (HP3.out.drew.pick hr hg) | have HP5 := Lib.hid (HPA.out.pick hr hg)); (first | have HA5 : Hid (SBlk w5 w3.heap.size 0 ⟨#[]⟩ ⟨#[]⟩) := (hg.block w3.heap.size (by simp) (by intro e; injection e; omega)).trans (SBlk.new w3 0 ⟨#[]⟩ ⟨#[]⟩) | skip); clear hl; obtain ⟨c0, c1, c2, f0, f1, f2, hl⟩ := HP5.out.a.cells; have hx5 : w5.heap.size ≠ x4 := (by omega); clear hr hg hnv hL)
            | (go_at_call 35; refine (HPT.out L v _ HLN.out HLL.out (by first | exact HNV.out | exact HNV.out.below ((Below.refl _ _).alloc (Nat.le_refl _) _))).mono ?_; rintro e w6 ⟨⟨T, U, hT, hU, hTb, hUb, rfl⟩, hb6⟩; have HT6 : Hid (Below w5.heap.size w5 w6) := (by first | exact hb6 | exact (((Below.refl w5.heap.size w5).alloc (Nat.le_refl _) _).trans (hb6.mono (by simp)))); have HP6 := Lib.hid (HP5.out.below HT6.out); obtain ⟨c0, c1, c2, f0, f1, f2, hl⟩ := HP6.out.a.cells; (first | have HA6 : Hid (SBlk w6 w3.heap.size 0 ⟨#[]⟩ ⟨#[]⟩) := HA5.out.below hb6 HA5.out.cells.2.2.2.2.2.2 | have HA6 : Hid (SBlk w6 w5.heap.size 0 ⟨#[]⟩ ⟨#[]⟩) := (SBlk.new w5 0 ⟨#[]⟩ ⟨#[]⟩).below hb6 (by simp) | skip); (first | obtain ⟨a0, a1, a2, a3, a4, a5, a6⟩ := HA6.out.cells | skip); clear hb6; unfold strV))
        all_goals
          have e5 := HP5.out.r2.cells.2.2.2.2.2.2
          have e6 := HP6.out.r2.cells.2.2.2.2.2.2
          go_wp2_with fail
          go_meet
          first
          | exact ⟨_, T, U, rfl, hT, hU, hTb, hUb, SBlk.new w6 _ _ _, HP6.out.below ((Below.refl _ _).alloc (Nat.le_refl _) _), e6, by omega⟩
          | exact ⟨_, T, U, rfl, hT, hU, hTb, hUb, HA6.out.set3, HP6.out.s5 e5 hx5 _ _ _, e5, hx5⟩
          | exact ⟨_, T, U, rfl, hT, hU, hTb, hUb, HA6.out.set3, HP6.out.s5 hb3 hx3 _ _ _, hb3, hx3⟩
      case rest =>
        obtain ⟨x5, T, U, rfl, hT, hU, hTb, hUb, HC⟩ := hcut
        clear c0 c1 c2 f0 f1 f2 hl hal HPA hb3 hx3 HP3 HSH HPT
        have hx4 := HC.out.2.2.1
        have hx5 := HC.out.2.2.2
        have hnn : 1 ≤ n * n ∧ n * n ≤ 25 := ⟨Nat.mul_le_mul n1 n1, Nat.mul_le_mul n5 n5⟩
        obtain ⟨N, hN⟩ : ∃ N, n * n = N := ⟨_, rfl⟩
        have HNN := Lib.hid hN
        rw [hN] at hU hnn
        clear hN
        obtain ⟨c0, c1, c2, f0, f1, f2, l7⟩ := HC.out.1.cells
        go_wp2_with fail
        refine (pickB _ b _ _ HC.out.2.1.rd (by omega) (by omega) (by omega)).mono ?_; rintro e w8 ⟨k, rfl, k0, k1, hr, hg⟩
        have HP8 := Lib.hid (HC.out.2.1.pick hr hg)
        have HX8 : Hid (SBlk w8 x5 (n : Int) T U) := HC.out.1.grown hg (by omega)
        clear hr hg c0 c1 c2 f0 f1 f2 l7 HC
        obtain ⟨j, rfl⟩ := Int.eq_ofNat_of_zero_le k0
        have hj : j < N := by omega
        have hw1 : IntKind.i64.wrap ((j : Int) + 1) = (j : Int) + 1 := IntWalk.i64_in _ (by omega)
        have hq1 : (U.extract j (j + 1)).size = 1 := by simp; omega
        have hq0 : (U.extract 0 j).size = j := by simp; omega
        have hq2 : (U.extract (j + 1) N).size = N - (j + 1) := by simp; omega
        have HFL := Lib.hid (fun w => l1Flip_one (U.extract j (j + 1)) hq1 w)
        obtain ⟨c0, c1, c2, f0, f1, f2, l8⟩ := HX8.out.cells
        have hjI : (j : Int) + 1 ≤ (U.size : Int) := by omega
        have hjJ : (j : Int) ≤ (U.size : Int) := by omega
        obtain ⟨u, hu⟩ : ∃ u : ByteArray, (⟨#[flipU (U.extract j (j + 1))]⟩ : ByteArray) = u := ⟨_, rfl⟩
        have huz : u.size = 1 := by rw [← hu]; rfl
        have hub : b01 u = true := by rw [← hu]; exact b01_flip hq1 (b01_extract hUb _ _)
        rw [hu] at HFL
        clear hu
        have hc1 : ¬ 9223372036854775807 < (U.extract 0 j).size + u.size := by rw [hq0, huz]; omega
        have hc2 : ¬ 9223372036854775807 < (U.extract 0 j ++ u).size + (U.extract (j + 1) N).size := by rw [ByteArray.size_append, hq0, huz, hq2]; omega
        have HUZ : Hid ((U.extract 0 j ++ u ++ U.extract (j + 1) N).size = N) := by show _ = _; rw [ByteArray.size_append, ByteArray.size_append, hq0, huz, hq2]; omega
        have q2 := fun s => Since.cell c2 s
        go_wp2_with fail
        refine wp_region_since_tail 19 (by kernel_rfl) (by kernel_rfl) ?_
        simp only [List.take_succ_cons, List.take_zero, List.drop_succ_cons, List.drop_zero]
        repeat (go_big_quiet_step (with_reducible exact Since.call (HFL.out _)))
        refine wpQuiet_nil ?_
        intro w9 hb9
        have HX9 : Hid (SBlk w9 x5 (n : Int) T U) := HX8.out.below hb9 l8
        have HP9 := Lib.hid (HP8.out.below hb9)
        obtain ⟨e0, e1, e2, h0, h1, h2, l9⟩ := HX9.out.cells
        obtain ⟨wd, hwd⟩ : ∃ x, w9.setCell ⟨x5, 2, none⟩ (.string (U.extract 0 j ++ u ++ U.extract (j + 1) N)) = x := ⟨_, rfl⟩
        have HC9 : Hid (SBlk wd x5 (n : Int) T (U.extract 0 j ++ u ++ U.extract (j + 1) N) ∧ Pr w b (K + 62 + n + 1) x4 (n : Int) S R 0 ⟨#[]⟩ ⟨#[]⟩ 0 ⟨#[]⟩ ⟨#[]⟩ wd) := by
          rw [← hwd]
          exact ⟨HX9.out.set2, HP9.out.s51 hx4 hx5 _⟩
        have HWD := Lib.hid hwd
        obtain ⟨U', hUe⟩ : ∃ x, (U.extract 0 j ++ u ++ U.extract (j + 1) N) = x := ⟨_, rfl⟩
        have hUb' : b01 U' = true := by rw [← hUe]; exact b01_append (b01_append (b01_extract hUb _ _) hub) (b01_extract hUb _ _)
        rw [hUe] at HC9 HWD HUZ
        have HUE := Lib.hid hUe
        clear hb9 q2 c0 c1 c2 f0 f1 f2 hUe hwd
        go_upto_region 9 with fail
        rw [HUE.out, HWD.out]
        clear e0 e1 e2 h0 h1 h2 l9
        obtain ⟨c0, c1, c2, f0, f1, f2, hl⟩ := HC9.out.2.a.cells
        obtain ⟨e0, e1, e2, _, _, _, l9⟩ := HC9.out.1.cells
        obtain ⟨g0, g1, g2, i0, i1, i2, hl1⟩ := HC9.out.2.r1.cells
        obtain ⟨k0, k1, k2, j0, j1, j2, hl2⟩ := HC9.out.2.r2.cells
        have hy0 : w.heap.size ≠ x5 := by omega
        have hy1 : w.heap.size + 1 ≠ x5 := by omega
        go_region_held3 (fun w' => w'.cell? ⟨x4, 0, none⟩ = some (.int .i64 (n : Int)) ∧ w'.cell? ⟨x4, 1, none⟩ = some (.string S) ∧ w'.cell? ⟨x4, 2, none⟩ = some (.string R) ∧ w'.cell? ⟨x5, 0, none⟩ = some (.int .i64 (n : Int)) ∧ w'.cell? ⟨x5, 1, none⟩ = some (.string T) ∧ w'.cell? ⟨x5, 2, none⟩ = some (.string U'))
          (go_keep)
          (fail)
        all_goals
          have HF := Lib.hid ((HC9.out.2.s1 (n : Int) S R).s2 (n : Int) T U').drew
          have hU' : U'.size = n * n := by rw [HUZ.out, HNN.out]
          go_wp2_with fail
          refine bodyPost_ret (v := .tuple #[strV n S R, strV n T U']) ?_ rfl (HF.out.finB (by omega) ⟨n1, n5⟩ ⟨n1, n5⟩ hS hR hT hU' hSb hRb hTb hUb')
          exact results_two rfl rfl HF.out.r1 rfl HF.out.r2
    · have hv1B : (v == 1) = false := by simpa using hv1
      clear HSH HPT
      obtain ⟨c0, c1, c2, f0, f1, f2, hl⟩ := HP3.out.a.cells
      obtain ⟨g0, g1, g2, i0, i1, i2, hl1⟩ := HP3.out.r1.cells
      obtain ⟨k0, k1, k2, j0, j1, j2, hl2⟩ := HP3.out.r2.cells
      by_cases hv2 : v = 2
      · subst hv2
        have HDR := Lib.hid (fun W hr => l1DrawB_any b (K + 61 + 1) n n1 n5 W hr (by omega))
        go_upto_region 11 with fail
        go_region_held3 (fun w' => w'.cell? ⟨x4, 0, none⟩ = some (.int .i64 (n : Int)) ∧ w'.cell? ⟨x4, 1, none⟩ = some (.string S) ∧ w'.cell? ⟨x4, 2, none⟩ = some (.string R))
          (go_keep)
          (first
            | (go_at_call 38; refine (HDR.out _ HP3.out.drew.rd).mono ?_; rintro e w6 ⟨T, U, hT, hU, hTb, hUb, rfl, hr, hg⟩; have HP6 := Lib.hid (HP3.out.drew.pick hr hg); clear hl hl1 hl2 c0 c1 c2 f0 f1 f2 g0 g1 g2 i0 i1 i2 k0 k1 k2 j0 j1 j2; obtain ⟨c0, c1, c2, f0, f1, f2, hl⟩ := HP6.out.a.cells; obtain ⟨g0, g1, g2, i0, i1, i2, hl1⟩ := HP6.out.r1.cells; obtain ⟨k0, k1, k2, j0, j1, j2, hl2⟩ := HP6.out.r2.cells; clear hr hg; unfold strV))
        all_goals
          have HF := Lib.hid ((HP6.out.s1 (n : Int) S R).s2 (n : Int) T U)
          go_wp2_with fail
          refine bodyPost_ret (v := .tuple #[strV n S R, strV n T U]) ?_ rfl (HF.out.finB (by omega) ⟨n1, n5⟩ ⟨n1, n5⟩ hS hR hT hU hSb hRb hTb hUb)
          exact results_two rfl rfl HF.out.r1 rfl HF.out.r2
      · have hv2B : (v == 2) = false := by simpa using hv2
        have HDR := Lib.hid (fun W hr => l1SomeB_any b (K + 61 + 1) W hr (by omega))
        go_upto_region 12 with fail
        go_region_held3 (fun w' => w'.cell? ⟨x4, 0, none⟩ = some (.int .i64 (n : Int)) ∧ w'.cell? ⟨x4, 1, none⟩ = some (.string S) ∧ w'.cell? ⟨x4, 2, none⟩ = some (.string R))
          (go_keep)
          (first
            | (go_at_call 34; refine (HDR.out _ HP3.out.drew.rd).mono ?_; rintro e w6 ⟨m, m1, m5, T, U, hT, hU, hTb, hUb, rfl, hr, hg⟩; have HP6 := Lib.hid (HP3.out.drew.pick hr hg); clear hl hl1 hl2 c0 c1 c2 f0 f1 f2 g0 g1 g2 i0 i1 i2 k0 k1 k2 j0 j1 j2; obtain ⟨c0, c1, c2, f0, f1, f2, hl⟩ := HP6.out.a.cells; obtain ⟨g0, g1, g2, i0, i1, i2, hl1⟩ := HP6.out.r1.cells; obtain ⟨k0, k1, k2, j0, j1, j2, hl2⟩ := HP6.out.r2.cells; clear hr hg; unfold strV))
        all_goals
          have HF := Lib.hid ((HP6.out.s1 (n : Int) S R).s2 (m : Int) T U)
          go_wp2_with fail
          refine bodyPost_ret (v := .tuple #[strV n S R, strV m T U]) ?_ rfl (HF.out.finB (by omega) ⟨n1, n5⟩ ⟨m1, m5⟩ hS hR hT hU hSb hRb hTb hUb)
          exact results_two rfl rfl HF.out.r1 rfl HF.out.r2
end Go.Proofs.YthmhjihppbeodaaGreatDoor

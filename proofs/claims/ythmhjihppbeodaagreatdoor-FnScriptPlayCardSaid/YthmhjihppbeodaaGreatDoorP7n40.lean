/- Contracts of the program's functions and what they compute: part 40. Conditions: those that each theorem states. -/
import Derived.Test.YthmhjihppbeodaaGreatDoorP7n15
import Derived.Test.YthmhjihppbeodaaGreatDoorP7n37
namespace Go.Proofs.YthmhjihppbeodaaGreatDoor
open Go.RowKit
set_option linter.unusedVariables false
set_option maxRecDepth 100000
/-- All bytes are bits. -/
def b01 (s : ByteArray) : Bool := s.data.toList.all is01
theorem b01_append {s t : ByteArray} (h : b01 s = true) (h2 : b01 t = true) : b01 (s ++ t) = true := by
  unfold b01 at *
  rw [ByteArray.data_append, Array.toList_append, List.all_append, h, h2]; rfl
theorem b01_bit (c : Bool) : b01 (bitS c) = true := by cases c <;> rfl
theorem b01_snoc {s : ByteArray} (h : b01 s = true) (c : Bool) : b01 (s ++ bitS c) = true := b01_append h (b01_bit c)
theorem b01_extract {s : ByteArray} (h : b01 s = true) (i j : Nat) : b01 (s.extract i j) = true := by
  unfold b01 at *
  rw [List.all_eq_true] at *
  intro x hx
  refine h x ?_
  simp only [ByteArray.data_extract, Array.toList_extract] at hx
  exact List.mem_of_mem_drop (List.mem_of_mem_take (by simpa [List.extract] using hx))
theorem b01_valid {n : Nat} {S R : ByteArray} (h1 : 1 ≤ n) (h8 : n ≤ 8) (hS : S.size = n) (hR : R.size = n * n) (bS : b01 S = true) (bR : b01 R = true) : validB n S R = true := by
  unfold validB inB bitsB
  unfold b01 at bS bR
  rw [bS, bR]
  simp [hS, hR]
  omega
theorem b01_of {n : Int} {s : ByteArray} (h : bitsB s n = true) : b01 s = true := by
  unfold bitsB at h
  unfold b01
  rw [Bool.and_eq_true] at h
  exact h.2
/-- What a draw of a structure leaves. -/
def StrB (b K : Nat) (n : Int) (ns nr : Nat) (w : World) (e : Ending) (w' : World) : Prop := ∃ (S R : ByteArray), S.size = ns ∧ R.size = nr ∧ b01 S = true ∧ b01 R = true ∧ e = .returned (strV n S R) ∧ RdB w' b K ∧ w.grownBy w' (some b)
set_option maxHeartbeats 4000000 in
theorem l1DrawB_any (b K n : Nat) (h1 : 1 ≤ n) (h5 : n ≤ 5) (w : World) (h : RdB w b K) (hk : K < 100000000000) :
    Calls Tryz.prog 38 #[.pointer (some ⟨b, 0, none⟩), .int .i64 (n : Int)] w (StrB b (K + 60) (n : Int) n (n * n) w) := by
  have hb := h.block
  have HD : Hid (Dst w b K (w.heap.size + 1) w.heap.size (n : Int) ⟨#[]⟩ ⟨#[]⟩ ((w.alloc (.cells #[.int .i64 0, .string ByteArray.empty, .string ByteArray.empty] 24)).alloc (.cells #[.int .i64 (n : Int), .string ⟨#[]⟩, .string ⟨#[]⟩] 24))) := by
    have hB : Below w.heap.size w (w.alloc (.cells #[.int .i64 0, .string ByteArray.empty, .string ByteArray.empty] 24)) := (Below.refl _ _).alloc (Nat.le_refl _) _
    have hB2 := hB.alloc (o := .cells #[.int .i64 (n : Int), .string ⟨#[]⟩, .string ⟨#[]⟩] 24) hB.size
    refine ⟨rdB_bel h hB2, ?_, ?_, ⟨by omega, hb, by omega⟩, ⟨by omega, Nat.le_refl _⟩, grown_belowS hB2⟩
    · have := SBlk.new (w.alloc (.cells #[.int .i64 0, .string ByteArray.empty, .string ByteArray.empty] 24)) (n : Int) ⟨#[]⟩ ⟨#[]⟩
      simpa using this
    · have := SBlk.new w 0 ByteArray.empty ByteArray.empty
      exact this.below ((Below.refl (w.heap.size + 1) _).alloc (by simp) _) (by simp)
  clear h
  generalize hgz : w.heap.size = Z at *
  go_enter Tryz.func38, Tryz.ntmps38
  go_wp2_with fail
  refine (pickB _ b _ 8 HD.out.rd (by omega) (by omega) (by omega)).mono ?_; rintro e w1 ⟨v, rfl, v0, v1, hr, hg⟩
  have HD1 := Lib.hid (HD.out.pick hr hg)
  clear hr hg HD
  obtain ⟨j, rfl⟩ := Int.eq_ofNat_of_zero_le v0
  have hj8 : j < 8 := by omega
  clear v0 v1
  go_wp2_with fail
  go_loopw [7] (fun q wr => ∃ (x : Nat) (S R : ByteArray), x ≤ n ∧ q = .int .i64 (x : Int) ∧ S.size = x ∧ R.size = x * n ∧ Hid (Dst w b (K + 1 + 7 * x) (Z + 1) Z (n : Int) S R wr) ∧ Hid (b01 S = true ∧ b01 R = true)) (fun q _ => n - (intOf q).toNat)
  case atStart => exact ⟨0, _, _, by omega, rfl, rfl, by simp; rfl, HD1.out.mono (by omega), ⟨rfl, rfl⟩⟩
  case round =>
    obtain ⟨x, S, R, hx, rfl, hS, hR, HX, HQ⟩ := hrel
    clear HD1
    by_cases hlt : x < n
    · have hltI : (x : Int) < (n : Int) := by omega
      have hSz : S.size ≤ 8 := by omega
      go_upto_region 6 with fail
      go_cut [7] (fun q wx => q = .int .i64 (x : Int) ∧ ∃ S' : ByteArray, S'.size = x + 1 ∧ Hid (Dst w b (K + 1 + 7 * x + 1) (Z + 1) Z (n : Int) S' R wx) ∧ Hid (b01 S' = true))
      case first =>
        obtain ⟨c0, c1, c2, f0, f1, f2, hbb⟩ := HX.out.out.cells
        have hbs : (bitS false).size ≤ 1 := Nat.le_refl _
        by_cases hj2 : j ≤ 2
        · have hj2I : (j : Int) ≤ 2 := by omega
          have hj2B : decide ((2 : Int) < (j : Int)) = false := decide_eq_false (by omega)
          have hj2N : ¬ (2 : Int) < (j : Int) := by omega
          have HS : Hid (∀ B, (S ++ bitS B).size = x + 1) := fun B => by rw [ByteArray.size_append, hS]; cases B <;> rfl
          have hz : ¬ 9223372036854775807 < S.size + (bitS false).size := by omega
          have q0 := fun s => Since.cell c1 s
          have HB1 := Lib.hid (fun W => bitL false W)
          refine wp_region_since_tail 12 (by kernel_rfl) (by kernel_rfl) ?_
          simp only [List.take_succ_cons, List.take_zero, List.drop_succ_cons, List.drop_zero]
          repeat (go_big_quiet_step (first | (with_reducible exact Since.call (HB1.out _))))
          refine wpQuiet_nil ?_
          intro w2 hb2
          have HX2 := Lib.hid (HX.out.below hb2)
          obtain ⟨i0, i1, i2, j0, j1, j2, hbc⟩ := HX2.out.out.cells
          clear hb2 q0 hz
          go_wp2_with fail
          go_meet
          exact ⟨rfl, _, HS.out _, HX2.out.set1.mono (by omega), b01_snoc HQ.out.1 _⟩
        · have hj2I : (2 : Int) < (j : Int) := by omega
          have hj2B : decide ((2 : Int) < (j : Int)) = true := decide_eq_true hj2I
          have HS : Hid (∀ B, (S ++ bitS B).size = x + 1) := fun B => by rw [ByteArray.size_append, hS]; cases B <;> rfl
          have HZ : Hid (∀ B, ¬ 9223372036854775807 < S.size + (bitS B).size) := fun B => by have : (bitS B).size = 1 := bitS_size B; omega
          go_region_with (first | (go_at_call 71; refine (l1Bit_any _ _).mono ?_; rintro e w' ⟨rfl, rfl⟩) | (go_at_call 16; refine (pickB _ b _ 3 HX.out.drew.rd (by omega) (by omega) (by omega)).mono ?_; rintro e w2 ⟨v, rfl, v0, v1, hr, hg⟩; have HX2 := Lib.hid (HX.out.drew.pick hr hg); clear hr hg; obtain ⟨d0, d1, d2, g0, g1, g2, hbc⟩ := HX2.out.out.cells; obtain ⟨B, hB⟩ : ∃ B, (v == 0) = B := ⟨_, rfl⟩; have hz := HZ.out B))
          all_goals
            go_wp2_with fail
            go_meet
            exact ⟨rfl, _, HS.out _, HX2.out.set1.mono (by omega), b01_snoc HQ.out.1 _⟩
      case rest =>
        obtain ⟨rfl, S', hS', HX', HQS⟩ := hcut
        clear HX hS hSz
        go_wp2_with fail
        go_loopw [8] (fun q wr => ∃ (y : Nat) (R' : ByteArray), y ≤ n ∧ q = .int .i64 (y : Int) ∧ R'.size = x * n + y ∧ Hid (Dst w b (K + 1 + 7 * x + 1 + y) (Z + 1) Z (n : Int) S' R' wr) ∧ Hid (b01 R' = true)) (fun q _ => n - (intOf q).toNat)
        case atStart => exact ⟨0, R, by omega, rfl, by omega, HX'.out, HQ.out.2⟩
        case round =>
          obtain ⟨y, R', hy, rfl, hR', HY, HQR⟩ := hrel
          clear HX'
          by_cases hlt2 : y < n
          · have hlt2I : (y : Int) < (n : Int) := by omega
            have hxn : x * n ≤ 5 * 5 := Nat.mul_le_mul (by omega) h5
            have hRz : R'.size ≤ 40 := by omega
            have hn0 : ((n : Int) == 0) = false := by simp; omega
            have hn0' : ¬ (n : Int) = 0 := by omega
            go_wp2_with fail
            refine (pickB _ b _ 3 HY.out.rd (by omega) (by omega) (by omega)).mono ?_; rintro e w2 ⟨v, rfl, v0, v1, hr, hg⟩
            have HY2 := Lib.hid (HY.out.pick hr hg)
            clear hr hg HY
            obtain ⟨B, hB⟩ : ∃ B, (v == 0) = B := ⟨_, rfl⟩
            go_upto_region 11 with fail
            have b2 : ∀ c : Bool, c = true ∨ c = false := fun c => by cases c <;> simp
            have hcase : j = 0 ∨ j = 1 ∨ (j = 2 ∧ ((x : Int) != (y : Int)) = true) ∨ (j = 2 ∧ ((x : Int) != (y : Int)) = false) ∨ (j = 3 ∧ ((x : Int) == (y : Int)) = true) ∨ (j = 3 ∧ ((x : Int) == (y : Int)) = false ∧ ((y : Int) == (x : Int) + 1) = true) ∨ (j = 3 ∧ ((x : Int) == (y : Int)) = false ∧ ((y : Int) == (x : Int) + 1) = false) ∨ (j = 4 ∧ B = true) ∨ (j = 4 ∧ B = false) ∨ (j = 5 ∧ (((x : Int) + 1) / 2 == ((y : Int) + 1) / 2) = true) ∨ (j = 5 ∧ (((x : Int) + 1) / 2 == ((y : Int) + 1) / 2) = false) ∨ (((j : Int) == 0) = false ∧ ((j : Int) == 1) = false ∧ ((j : Int) == 2) = false ∧ ((j : Int) == 3) = false ∧ ((j : Int) == 4) = false ∧ ((j : Int) == 5) = false) := by
              rcases (by omega : j = 0 ∨ j = 1 ∨ j = 2 ∨ j = 3 ∨ j = 4 ∨ j = 5 ∨ 5 < j) with h | h | h | h | h | h | h
              · exact .inl h
              · exact .inr (.inl h)
              · rcases b2 ((x : Int) != (y : Int)) with h1 | h1
                · exact .inr (.inr (.inl ⟨h, h1⟩))
                · exact .inr (.inr (.inr (.inl ⟨h, h1⟩)))
              · rcases b2 ((x : Int) == (y : Int)) with h1 | h1
                · exact .inr (.inr (.inr (.inr (.inl ⟨h, h1⟩))))
                · rcases b2 ((y : Int) == (x : Int) + 1) with h3 | h3
                  · exact .inr (.inr (.inr (.inr (.inr (.inl ⟨h, h1, h3⟩)))))
                  · exact .inr (.inr (.inr (.inr (.inr (.inr (.inl ⟨h, h1, h3⟩))))))
              · rcases b2 B with h1 | h1
                · exact .inr (.inr (.inr (.inr (.inr (.inr (.inr (.inl ⟨h, h1⟩)))))))
                · exact .inr (.inr (.inr (.inr (.inr (.inr (.inr (.inr (.inl ⟨h, h1⟩))))))))
              · rcases b2 (((x : Int) + 1) / 2 == ((y : Int) + 1) / 2) with h1 | h1
                · exact .inr (.inr (.inr (.inr (.inr (.inr (.inr (.inr (.inr (.inl ⟨h, h1⟩)))))))))
                · exact .inr (.inr (.inr (.inr (.inr (.inr (.inr (.inr (.inr (.inr (.inl ⟨h, h1⟩))))))))))
              · refine .inr (.inr (.inr (.inr (.inr (.inr (.inr (.inr (.inr (.inr (.inr ⟨?_, ?_, ?_, ?_, ?_, ?_⟩))))))))))
                all_goals
                  simp
                  omega
            clear b2
            rcases hcase with rfl | rfl | ⟨rfl, e1⟩ | ⟨rfl, e1⟩ | ⟨rfl, e1⟩ | ⟨rfl, e1, e2⟩ | ⟨rfl, e1, e2⟩ | ⟨rfl, rfl⟩ | ⟨rfl, rfl⟩ | ⟨rfl, e1⟩ | ⟨rfl, e1⟩ | ⟨e1, e2, e3, e4, e5, e6⟩
            all_goals
              go_upto_region 24 with fail
              obtain ⟨t1, hc1⟩ : ∃ c, ((y : Int) == ((x : Int) + 1) % (n : Int)) = c := ⟨_, rfl⟩
              obtain ⟨t2, hc2⟩ : ∃ c, decide (x < y) = c := ⟨_, rfl⟩
              obtain ⟨t3, hc3⟩ : ∃ c, (((x : Int) + (y : Int)) % 2 == 1) = c := ⟨_, rfl⟩
              obtain ⟨t4, hc4⟩ : ∃ c, ((x : Int) == (y : Int) + 1) = c := ⟨_, rfl⟩
              obtain ⟨t5, hc5⟩ : ∃ c, ((x : Int) != (y : Int)) = c := ⟨_, rfl⟩
              try rw [hc1]
              try rw [hc2]
              try rw [hc3]
              try rw [hc4]
              try rw [hc5]
              clear hc1 hc2 hc3 hc4 hc5
              obtain ⟨c0, c1, c2, f0, f1, f2, hbb⟩ := HY2.out.out.cells
              have hz : ∀ c, ¬ 9223372036854775807 < R'.size + (bitS c).size := fun c => by have : (bitS c).size = 1 := bitS_size c; omega
              have z1 := hz t1
              have z2 := hz t2
              have z3 := hz t3
              have z4 := hz t4
              have z5 := hz t5
              try have z6 := hz B
              have z7 := hz true
              have z8 := hz false
              have HS : Hid (∀ c, (R' ++ bitS c).size = x * n + (y + 1)) := fun c => by rw [ByteArray.size_append, hR', bitS_size]; omega
              have q0 := fun s => Since.cell c2 s
              refine wp_region_since_tail 6 (by kernel_rfl) (by kernel_rfl) ?_
              simp only [List.take_succ_cons, List.take_zero, List.drop_succ_cons, List.drop_zero]
              repeat (go_big_quiet_step (first | (with_reducible exact Since.call (bitL t1 _)) | (with_reducible exact Since.call (bitL t2 _)) | (with_reducible exact Since.call (bitL t3 _)) | (with_reducible exact Since.call (bitL t4 _)) | (with_reducible exact Since.call (bitL t5 _)) | (with_reducible exact Since.call (bitL B _)) | (with_reducible exact Since.call (bitL true _)) | (with_reducible exact Since.call (bitL false _))))
              refine wpQuiet_nil ?_
              intro w3 hb3
              have HY3 := Lib.hid (HY2.out.below hb3)
              obtain ⟨i0, i1, i2, j0, j1, j2, hbc⟩ := HY3.out.out.cells
              have HY4 := Lib.hid (fun c => HY3.out.set2 (R' := R' ++ bitS c))
              clear hb3 q0 hz z1 z2 z3 z4 z5 z7 z8
              try clear z6
              go_wp2_with fail
              go_roundw
              case rel => exact ⟨y + 1, _, by omega, by go_num, HS.out _, (HY4.out _).mono (by omega), b01_snoc HQR.out _⟩
              case measure => simp [intOf]; omega
          · obtain rfl : y = n := by omega
            go_wp2_with fail
            go_roundw
            case rel => exact ⟨x + 1, S', R', by omega, by go_num, hS', by rw [hR', Nat.add_mul, Nat.one_mul], HY.out.mono (by omega), ⟨HQS.out, HQR.out⟩⟩
            case measure => simp [intOf]; omega
    · obtain rfl : x = n := by omega
      obtain ⟨c0, c1, c2, f0, f1, f2, hbb⟩ := HX.out.out.cells
      obtain ⟨d0, d1, d2, g0, g1, g2, hbc⟩ := HX.out.res.cells
      have HP : Hid (RdB (((wr.setCell ⟨Z, 0, none⟩ (.int .i64 (x : Int))).setCell ⟨Z, 1, none⟩ (.string S)).setCell ⟨Z, 2, none⟩ (.string R)) b (K + 60) ∧ w.grownBy (((wr.setCell ⟨Z, 0, none⟩ (.int .i64 (x : Int))).setCell ⟨Z, 1, none⟩ (.string S)).setCell ⟨Z, 2, none⟩ (.string R)) (some b)) :=
        ⟨rdB_set (rdB_set (rdB_set (HX.out.rd.mono (by omega)) hb) hb) hb, grown_setS (grown_setS (grown_setS HX.out.old HX.out.lo.2) HX.out.lo.2) HX.out.lo.2⟩
      go_wp2_with fail
      refine bodyPost_ret (v := strV x S R) ?_ rfl ⟨S, R, hS, hR, HQ.out.1, HQ.out.2, rfl, HP.out.1, HP.out.2⟩
      exact results_str rfl rfl HX.out.res.set3
set_option maxHeartbeats 4000000 in
theorem l1SomeB_any (b K : Nat) (w : World) (h : RdB w b K) (hk : K < 10000000000) :
    Calls Tryz.prog 34 #[.pointer (some ⟨b, 0, none⟩)] w fun e w' => ∃ n : Nat, 1 ≤ n ∧ n ≤ 5 ∧ StrB b (K + 61) (n : Int) n (n * n) w e w' := by
  have hb := h.block
  have HB0 : Hid (Below w.heap.size w (w.alloc (.cells #[.int .i64 0, .string ⟨#[]⟩, .string ⟨#[]⟩] 24))) := (Below.refl _ _).alloc (Nat.le_refl _) _
  have HB1 : Hid (SBlk (w.alloc (.cells #[.int .i64 0, .string ⟨#[]⟩, .string ⟨#[]⟩] 24)) w.heap.size 0 ⟨#[]⟩ ⟨#[]⟩) := SBlk.new w 0 ⟨#[]⟩ ⟨#[]⟩
  have HR := Lib.hid (rdB_bel h HB0.out)
  clear h
  obtain ⟨W, hW⟩ : ∃ W, w.alloc (.cells #[.int .i64 0, .string ⟨#[]⟩, .string ⟨#[]⟩] 24) = W := ⟨_, rfl⟩
  have HN := Lib.hid (fun T => num_list W b K [3, 4, 2, 1, 5, 3] T (hW ▸ HR.out) (by omega) (by decide) (by decide))
  have hz : w.heap.size + 1 = W.heap.size := by rw [← hW]; simp
  rw [hW] at HB0 HB1 HR
  have HWW := Lib.hid hW
  have HZ := Lib.hid hz
  clear hW hz
  go_enter Tryz.func34, Tryz.ntmps34
  go_wp2_with fail
  rw [HWW.out, HZ.out]
  refine (HN.out _).mono ?_; rintro e w1 ⟨v, hv, rfl, hr, hg⟩
  have hv' : ∃ n : Nat, v = (n : Int) ∧ 1 ≤ n ∧ n ≤ 5 := by
    simp at hv
    rcases hv with rfl | rfl | rfl | rfl | rfl | rfl
    · exact ⟨3, rfl, by omega, by omega⟩
    · exact ⟨4, rfl, by omega, by omega⟩
    · exact ⟨2, rfl, by omega, by omega⟩
    · exact ⟨1, rfl, by omega, by omega⟩
    · exact ⟨5, rfl, by omega, by omega⟩
    · exact ⟨3, rfl, by omega, by omega⟩
  obtain ⟨n, rfl, n1, n5⟩ := hv'
  clear hv
  have HR1 := Lib.hid hr
  have HG1 := Lib.hid hg
  clear hr hg
  go_wp2_with fail
  refine (l1DrawB_any b (K + 1) n n1 n5 w1 HR1.out (by omega)).mono ?_; rintro e w2 ⟨S, R, hS, hR, hSb, hRb, rfl, hr, hg⟩
  have HR2 := Lib.hid hr
  have HG2 := Lib.hid (HG1.out.trans hg)
  have HX : Hid (SBlk w2 w.heap.size 0 ⟨#[]⟩ ⟨#[]⟩) := (HG2.out.block w.heap.size HB1.out.cells.2.2.2.2.2.2 (by intro e; injection e; omega)).trans HB1.out
  clear hr hg
  obtain ⟨d0, d1, d2, g0, g1, g2, hbc⟩ := HX.out.cells
  have HP : Hid (RdB (((w2.setCell ⟨w.heap.size, 0, none⟩ (.int .i64 (n : Int))).setCell ⟨w.heap.size, 1, none⟩ (.string S)).setCell ⟨w.heap.size, 2, none⟩ (.string R)) b (K + 61) ∧ w.grownBy (((w2.setCell ⟨w.heap.size, 0, none⟩ (.int .i64 (n : Int))).setCell ⟨w.heap.size, 1, none⟩ (.string S)).setCell ⟨w.heap.size, 2, none⟩ (.string R)) (some b)) :=
    ⟨rdB_set (rdB_set (rdB_set (HR2.out.mono (by omega)) hb) hb) hb, grown_setS (grown_setS (grown_setS ((grown_belowS HB0.out).trans HG2.out) (Nat.le_refl _)) (Nat.le_refl _)) (Nat.le_refl _)⟩
  unfold strV
  go_wp2_with fail
  refine bodyPost_ret (v := strV n S R) ?_ rfl ⟨n, n1, n5, S, R, hS, hR, hSb, hRb, rfl, HP.out.1, HP.out.2⟩
  exact results_str rfl rfl HX.out.set3
end Go.Proofs.YthmhjihppbeodaaGreatDoor

/- Contracts of the program's functions and what they compute: part 37. Conditions: those that each theorem states. -/
import Derived.Test.YtdonjgjkhndfcaaGreatDoorP52n6
import Derived.Test.YtdonjgjkhndfcaaGreatDoorP52n13
import Derived.Test.YtdonjgjkhndfcaaGreatDoorP52n36
namespace Go.Proofs.YtdonjgjkhndfcaaGreatDoor
open Go.RowKit
set_option linter.unusedVariables false
set_option maxRecDepth 100000
theorem rdB_set {w : World} {b K g i : Nat} {u : Value} (h : RdB w b K) (hg : b < g) : RdB (w.setCell ⟨g, i, none⟩ u) b K := by
  obtain ⟨k, h1, a, len, cap, f, c0, c1, fr, short, room, row⟩ := h
  have cc : ∀ (p : Addr) v, p.block ≤ b → w.cell? p = some v → (w.setCell ⟨g, i, none⟩ u).cell? p = some v := fun p v hp h => by
    rw [World.cell?_setCell_other _ _ _ _ (by intro e; subst e; simp at hp; omega)]; exact h
  refine ⟨k, h1, a, len, cap, f, cc _ _ (Nat.le_refl _) c0, cc _ _ (Nat.le_refl _) c1, ?_, short, room, ?_⟩
  · rw [World.frozen?_setCell]; exact fr
  · rcases row with h | ⟨b', off, rfl, hb', hc, hf⟩
    · exact .inl h
    · exact .inr ⟨b', off, rfl, hb', fun j hj => cc _ _ (Nat.le_of_lt hb') (hc j hj), hf⟩
theorem rdB_drew {w : World} {b K : Nat} (h : RdB w b K) : RdB w.drew b K := rdB_bel h (Below.refl _ _).drew
theorem grown_belowS {w w' : World} {row : Option Nat} (h : Below w.heap.size w w') : w.grownBy w' row := ⟨h.os, h.tape, h.output, h.size, fun i hi _ => h.block i hi⟩
theorem grown_setS {w wr : World} {row : Option Nat} {g i : Nat} {u : Value} (h : w.grownBy wr row) (hg : w.heap.size ≤ g) : w.grownBy (wr.setCell ⟨g, i, none⟩ u) row :=
  ⟨h.os, h.tape, h.output, by simpa using h.size, fun k hk hne => (Below.heap_setCell wr ⟨g, i, none⟩ u k (by simp; omega)).trans (h.block k hk hne)⟩
/-- A structure that is drawn: its box, the box of the result, and the reader. -/
structure Dst (w : World) (b K g go : Nat) (n : Int) (S R : ByteArray) (wr : World) : Prop where
  rd : RdB wr b K
  out : SBlk wr g n S R
  res : SBlk wr go 0 ByteArray.empty ByteArray.empty
  ne : b < g ∧ b < go ∧ g ≠ go
  lo : w.heap.size ≤ g ∧ w.heap.size ≤ go
  old : w.grownBy wr (some b)
theorem Dst.drew {w : World} {b K g go : Nat} {n : Int} {S R : ByteArray} {wr : World} (h : Dst w b K g go n S R wr) : Dst w b K g go n S R wr.drew :=
  ⟨rdB_drew h.rd, h.out.drew, h.res.drew, h.ne, h.lo, h.old.trans (grown_belowS (Below.refl _ _).drew)⟩
theorem Dst.mono {w : World} {b K K' g go : Nat} {n : Int} {S R : ByteArray} {wr : World} (h : Dst w b K g go n S R wr) (hk : K ≤ K') : Dst w b K' g go n S R wr :=
  ⟨h.rd.mono hk, h.out, h.res, h.ne, h.lo, h.old⟩
theorem Dst.pick {w : World} {b K K' g go : Nat} {n : Int} {S R : ByteArray} {wr w' : World} (h : Dst w b K g go n S R wr) (hr : RdB w' b K') (hg : wr.grownBy w' (some b)) : Dst w b K' g go n S R w' := by
  have l1 := h.out.cells.2.2.2.2.2.2
  have l2 := h.res.cells.2.2.2.2.2.2
  obtain ⟨n1, n2, n3⟩ := h.ne
  refine ⟨hr, (hg.block g l1 (by intro e; injection e; omega)).trans h.out, (hg.block go l2 (by intro e; injection e; omega)).trans h.res, h.ne, h.lo, h.old.trans hg⟩
theorem Dst.set1 {w : World} {b K g go : Nat} {n : Int} {S R S' : ByteArray} {wr : World} (h : Dst w b K g go n S R wr) : Dst w b K g go n S' R (wr.setCell ⟨g, 1, none⟩ (.string S')) :=
  ⟨rdB_set h.rd h.ne.1, h.out.set1, h.res.far (fun e => h.ne.2.2 e.symm) _, h.ne, h.lo, grown_setS h.old h.lo.1⟩
theorem Dst.set2 {w : World} {b K g go : Nat} {n : Int} {S R R' : ByteArray} {wr : World} (h : Dst w b K g go n S R wr) : Dst w b K g go n S R' (wr.setCell ⟨g, 2, none⟩ (.string R')) :=
  ⟨rdB_set h.rd h.ne.1, h.out.set2, h.res.far (fun e => h.ne.2.2 e.symm) _, h.ne, h.lo, grown_setS h.old h.lo.1⟩
theorem Dst.below {w : World} {b K g go : Nat} {n : Int} {S R : ByteArray} {wr w' : World} (h : Dst w b K g go n S R wr) (hb : Below wr.heap.size wr w') : Dst w b K g go n S R w' :=
  ⟨rdB_bel h.rd hb, h.out.below hb h.out.cells.2.2.2.2.2.2, h.res.below hb h.res.cells.2.2.2.2.2.2, h.ne, h.lo, h.old.trans (grown_belowS hb)⟩
theorem bitL (b : Bool) (W : World) : Calls Tryz.prog 49 #[.bool b] W fun e w' => e = .returned (.string (bitS b)) ∧ Below W.heap.size W w' := (l1Bit_any b W).mono fun _ _ h => ⟨h.1, by rw [← h.2]; exact Below.refl _ _⟩
/-- What a draw of a structure leaves. -/
def StrD (b K : Nat) (n : Int) (ns nr : Nat) (w : World) (e : Ending) (w' : World) : Prop := ∃ (S R : ByteArray), S.size = ns ∧ R.size = nr ∧ e = .returned (strV n S R) ∧ RdB w' b K ∧ w.grownBy w' (some b)
set_option maxHeartbeats 4000000 in
theorem l1Draw_any (b K n : Nat) (h1 : 1 ≤ n) (h5 : n ≤ 5) (w : World) (h : RdB w b K) (hk : K < 100000000000) :
    Calls Tryz.prog 79 #[.pointer (some ⟨b, 0, none⟩), .int .i64 (n : Int)] w (StrD b (K + 60) (n : Int) n (n * n) w) := by
  have hb := h.block
  have HD : Hid (Dst w b K (w.heap.size + 1) w.heap.size (n : Int) ⟨#[]⟩ ⟨#[]⟩ ((w.alloc (.cells #[.int .i64 0, .string ByteArray.empty, .string ByteArray.empty] 24)).alloc (.cells #[.int .i64 (n : Int), .string ⟨#[]⟩, .string ⟨#[]⟩] 24))) := by
    have hB : Below w.heap.size w (w.alloc (.cells #[.int .i64 0, .string ByteArray.empty, .string ByteArray.empty] 24)) := (Below.refl _ _).alloc (Nat.le_refl _) _
    have hB2 := hB.alloc (o := .cells #[.int .i64 (n : Int), .string ⟨#[]⟩, .string ⟨#[]⟩] 24) hB.size
    refine ⟨rdB_bel h hB2, ?_, ?_, ⟨by omega, hb, by omega⟩, ⟨by omega, Nat.le_refl _⟩, grown_belowS hB2⟩
    · have := SBlk.new (w.alloc (.cells #[.int .i64 0, .string ByteArray.empty, .string ByteArray.empty] 24)) (n : Int) ⟨#[]⟩ ⟨#[]⟩
      simpa using this
    · have := SBlk.new w 0 ByteArray.empty ByteArray.empty
      exact this.below ((Below.refl (w.heap.size + 1) _).alloc (by simp) _) (by simp)
  clear h
  generalize hgz : w.heap.size = Z at *
  go_enter Tryz.func79, Tryz.ntmps79
  go_wp2_with fail
  refine (pickB _ b _ 8 HD.out.rd (by omega) (by omega) (by omega)).mono ?_; rintro e w1 ⟨v, rfl, v0, v1, hr, hg⟩
  have HD1 := Lib.hid (HD.out.pick hr hg)
  clear hr hg HD
  obtain ⟨j, rfl⟩ := Int.eq_ofNat_of_zero_le v0
  have hj8 : j < 8 := by omega
  clear v0 v1
  go_wp2_with fail
  go_loopw [7] (fun q wr => ∃ (x : Nat) (S R : ByteArray), x ≤ n ∧ q = .int .i64 (x : Int) ∧ S.size = x ∧ R.size = x * n ∧ Hid (Dst w b (K + 1 + 7 * x) (Z + 1) Z (n : Int) S R wr)) (fun q _ => n - (intOf q).toNat)
  case atStart => exact ⟨0, _, _, by omega, rfl, rfl, by simp; rfl, HD1.out.mono (by omega)⟩
  case round =>
    obtain ⟨x, S, R, hx, rfl, hS, hR, HX⟩ := hrel
    clear HD1
    by_cases hlt : x < n
    · have hltI : (x : Int) < (n : Int) := by omega
      have hSz : S.size ≤ 8 := by omega
      go_upto_region 6 with fail
      go_cut [7] (fun q wx => q = .int .i64 (x : Int) ∧ ∃ S' : ByteArray, S'.size = x + 1 ∧ Hid (Dst w b (K + 1 + 7 * x + 1) (Z + 1) Z (n : Int) S' R wx))
      case first =>
        obtain ⟨c0, c1, c2, f0, f1, f2, hbb⟩ := HX.out.out.cells
        have hbs : (bitS false).size ≤ 1 := Nat.le_refl _
        by_cases hj2 : j ≤ 2
        · have hj2I : (j : Int) ≤ 2 := by omega
          have hj2B : decide ((2 : Int) < (j : Int)) = false := decide_eq_false (by omega)
          have hj2N : ¬ (2 : Int) < (j : Int) := by omega
          have HS : Hid (∀ B, (S ++ bitS B).size = x + 1) := fun B => by rw [ByteArray.size_append, hS]; cases B <;> rfl
          have hz : ¬ 9223372036854775807 < S.size + (bitS false).size := by omega
          have q0 := fun s => Since.cell c1 s
          have HB1 := Lib.hid (fun W => bitL false W)
          refine wp_region_since_tail 12 (by kernel_rfl) (by kernel_rfl) ?_
          simp only [List.take_succ_cons, List.take_zero, List.drop_succ_cons, List.drop_zero]
          repeat (go_big_quiet_step (first | (with_reducible exact Since.call (HB1.out _))))
          refine wpQuiet_nil ?_
          intro w2 hb2
          have HX2 := Lib.hid (HX.out.below hb2)
          obtain ⟨i0, i1, i2, j0, j1, j2, hbc⟩ := HX2.out.out.cells
          clear hb2 q0 hz
          go_wp2_with fail
          go_meet
          exact ⟨rfl, _, HS.out _, HX2.out.set1.mono (by omega)⟩
        · have hj2I : (2 : Int) < (j : Int) := by omega
          have hj2B : decide ((2 : Int) < (j : Int)) = true := decide_eq_true hj2I
          have HS : Hid (∀ B, (S ++ bitS B).size = x + 1) := fun B => by rw [ByteArray.size_append, hS]; cases B <;> rfl
          have HZ : Hid (∀ B, ¬ 9223372036854775807 < S.size + (bitS B).size) := fun B => by have : (bitS B).size = 1 := bitS_size B; omega
          go_region_with (first | (go_at_call 49; refine (l1Bit_any _ _).mono ?_; rintro e w' ⟨rfl, rfl⟩) | (go_at_call 41; refine (pickB _ b _ 3 HX.out.drew.rd (by omega) (by omega) (by omega)).mono ?_; rintro e w2 ⟨v, rfl, v0, v1, hr, hg⟩; have HX2 := Lib.hid (HX.out.drew.pick hr hg); clear hr hg; obtain ⟨d0, d1, d2, g0, g1, g2, hbc⟩ := HX2.out.out.cells; obtain ⟨B, hB⟩ : ∃ B, (v == 0) = B := ⟨_, rfl⟩; have hz := HZ.out B))
          all_goals
            go_wp2_with fail
            go_meet
            exact ⟨rfl, _, HS.out _, HX2.out.set1.mono (by omega)⟩
      case rest =>
        obtain ⟨rfl, S', hS', HX'⟩ := hcut
        clear HX hS hSz
        go_wp2_with fail
        go_loopw [8] (fun q wr => ∃ (y : Nat) (R' : ByteArray), y ≤ n ∧ q = .int .i64 (y : Int) ∧ R'.size = x * n + y ∧ Hid (Dst w b (K + 1 + 7 * x + 1 + y) (Z + 1) Z (n : Int) S' R' wr)) (fun q _ => n - (intOf q).toNat)
        case atStart => exact ⟨0, R, by omega, rfl, by omega, HX'.out⟩
        case round =>
          obtain ⟨y, R', hy, rfl, hR', HY⟩ := hrel
          clear HX'
          by_cases hlt2 : y < n
          · have hlt2I : (y : Int) < (n : Int) := by omega
            have hxn : x * n ≤ 5 * 5 := Nat.mul_le_mul (by omega) h5
            have hRz : R'.size ≤ 40 := by omega
            have hn0 : ((n : Int) == 0) = false := by simp; omega
            have hn0' : ¬ (n : Int) = 0 := by omega
            go_wp2_with fail
            refine (pickB _ b _ 3 HY.out.rd (by omega) (by omega) (by omega)).mono ?_; rintro e w2 ⟨v, rfl, v0, v1, hr, hg⟩
            have HY2 := Lib.hid (HY.out.pick hr hg)
            clear hr hg HY
            obtain ⟨B, hB⟩ : ∃ B, (v == 0) = B := ⟨_, rfl⟩
            go_upto_region 11 with fail
            have b2 : ∀ c : Bool, c = true ∨ c = false := fun c => by cases c <;> simp
            have hcase : j = 0 ∨ j = 1 ∨ (j = 2 ∧ ((x : Int) != (y : Int)) = true) ∨ (j = 2 ∧ ((x : Int) != (y : Int)) = false) ∨ (j = 3 ∧ ((x : Int) == (y : Int)) = true) ∨ (j = 3 ∧ ((x : Int) == (y : Int)) = false ∧ ((y : Int) == (x : Int) + 1) = true) ∨ (j = 3 ∧ ((x : Int) == (y : Int)) = false ∧ ((y : Int) == (x : Int) + 1) = false) ∨ (j = 4 ∧ B = true) ∨ (j = 4 ∧ B = false) ∨ (j = 5 ∧ (((x : Int) + 1) / 2 == ((y : Int) + 1) / 2) = true) ∨ (j = 5 ∧ (((x : Int) + 1) / 2 == ((y : Int) + 1) / 2) = false) ∨ (((j : Int) == 0) = false ∧ ((j : Int) == 1) = false ∧ ((j : Int) == 2) = false ∧ ((j : Int) == 3) = false ∧ ((j : Int) == 4) = false ∧ ((j : Int) == 5) = false) := by
              rcases (by omega : j = 0 ∨ j = 1 ∨ j = 2 ∨ j = 3 ∨ j = 4 ∨ j = 5 ∨ 5 < j) with h | h | h | h | h | h | h
              · exact .inl h
              · exact .inr (.inl h)
              · rcases b2 ((x : Int) != (y : Int)) with h1 | h1
                · exact .inr (.inr (.inl ⟨h, h1⟩))
                · exact .inr (.inr (.inr (.inl ⟨h, h1⟩)))
              · rcases b2 ((x : Int) == (y : Int)) with h1 | h1
                · exact .inr (.inr (.inr (.inr (.inl ⟨h, h1⟩))))
                · rcases b2 ((y : Int) == (x : Int) + 1) with h3 | h3
                  · exact .inr (.inr (.inr (.inr (.inr (.inl ⟨h, h1, h3⟩)))))
                  · exact .inr (.inr (.inr (.inr (.inr (.inr (.inl ⟨h, h1, h3⟩))))))
              · rcases b2 B with h1 | h1
                · exact .inr (.inr (.inr (.inr (.inr (.inr (.inr (.inl ⟨h, h1⟩)))))))
                · exact .inr (.inr (.inr (.inr (.inr (.inr (.inr (.inr (.inl ⟨h, h1⟩))))))))
              · rcases b2 (((x : Int) + 1) / 2 == ((y : Int) + 1) / 2) with h1 | h1
                · exact .inr (.inr (.inr (.inr (.inr (.inr (.inr (.inr (.inr (.inl ⟨h, h1⟩)))))))))
                · exact .inr (.inr (.inr (.inr (.inr (.inr (.inr (.inr (.inr (.inr (.inl ⟨h, h1⟩))))))))))
              · refine .inr (.inr (.inr (.inr (.inr (.inr (.inr (.inr (.inr (.inr (.inr ⟨?_, ?_, ?_, ?_, ?_, ?_⟩))))))))))
                all_goals
                  simp
                  omega
            clear b2
            rcases hcase with rfl | rfl | ⟨rfl, e1⟩ | ⟨rfl, e1⟩ | ⟨rfl, e1⟩ | ⟨rfl, e1, e2⟩ | ⟨rfl, e1, e2⟩ | ⟨rfl, rfl⟩ | ⟨rfl, rfl⟩ | ⟨rfl, e1⟩ | ⟨rfl, e1⟩ | ⟨e1, e2, e3, e4, e5, e6⟩
            all_goals
              go_upto_region 24 with fail
              obtain ⟨t1, hc1⟩ : ∃ c, ((y : Int) == ((x : Int) + 1) % (n : Int)) = c := ⟨_, rfl⟩
              obtain ⟨t2, hc2⟩ : ∃ c, decide (x < y) = c := ⟨_, rfl⟩
              obtain ⟨t3, hc3⟩ : ∃ c, (((x : Int) + (y : Int)) % 2 == 1) = c := ⟨_, rfl⟩
              obtain ⟨t4, hc4⟩ : ∃ c, ((x : Int) == (y : Int) + 1) = c := ⟨_, rfl⟩
              obtain ⟨t5, hc5⟩ : ∃ c, ((x : Int) != (y : Int)) = c := ⟨_, rfl⟩
              try rw [hc1]
              try rw [hc2]
              try rw [hc3]
              try rw [hc4]
              try rw [hc5]
              clear hc1 hc2 hc3 hc4 hc5
              obtain ⟨c0, c1, c2, f0, f1, f2, hbb⟩ := HY2.out.out.cells
              have hz : ∀ c, ¬ 9223372036854775807 < R'.size + (bitS c).size := fun c => by have : (bitS c).size = 1 := bitS_size c; omega
              have z1 := hz t1
              have z2 := hz t2
              have z3 := hz t3
              have z4 := hz t4
              have z5 := hz t5
              try have z6 := hz B
              have z7 := hz true
              have z8 := hz false
              have HS : Hid (∀ c, (R' ++ bitS c).size = x * n + (y + 1)) := fun c => by rw [ByteArray.size_append, hR', bitS_size]; omega
              have q0 := fun s => Since.cell c2 s
              refine wp_region_since_tail 6 (by kernel_rfl) (by kernel_rfl) ?_
              simp only [List.take_succ_cons, List.take_zero, List.drop_succ_cons, List.drop_zero]
              repeat (go_big_quiet_step (first | (with_reducible exact Since.call (bitL t1 _)) | (with_reducible exact Since.call (bitL t2 _)) | (with_reducible exact Since.call (bitL t3 _)) | (with_reducible exact Since.call (bitL t4 _)) | (with_reducible exact Since.call (bitL t5 _)) | (with_reducible exact Since.call (bitL B _)) | (with_reducible exact Since.call (bitL true _)) | (with_reducible exact Since.call (bitL false _))))
              refine wpQuiet_nil ?_
              intro w3 hb3
              have HY3 := Lib.hid (HY2.out.below hb3)
              obtain ⟨i0, i1, i2, j0, j1, j2, hbc⟩ := HY3.out.out.cells
              have HY4 := Lib.hid (fun c => HY3.out.set2 (R' := R' ++ bitS c))
              clear hb3 q0 hz z1 z2 z3 z4 z5 z7 z8
              try clear z6
              go_wp2_with fail
              go_roundw
              case rel => exact ⟨y + 1, _, by omega, by go_num, HS.out _, (HY4.out _).mono (by omega)⟩
              case measure => simp [intOf]; omega
          · obtain rfl : y = n := by omega
            go_wp2_with fail
            go_roundw
            case rel => exact ⟨x + 1, S', R', by omega, by go_num, hS', by rw [hR', Nat.add_mul, Nat.one_mul], HY.out.mono (by omega)⟩
            case measure => simp [intOf]; omega
    · obtain rfl : x = n := by omega
      obtain ⟨c0, c1, c2, f0, f1, f2, hbb⟩ := HX.out.out.cells
      obtain ⟨d0, d1, d2, g0, g1, g2, hbc⟩ := HX.out.res.cells
      have HP : Hid (RdB (((wr.setCell ⟨Z, 0, none⟩ (.int .i64 (x : Int))).setCell ⟨Z, 1, none⟩ (.string S)).setCell ⟨Z, 2, none⟩ (.string R)) b (K + 60) ∧ w.grownBy (((wr.setCell ⟨Z, 0, none⟩ (.int .i64 (x : Int))).setCell ⟨Z, 1, none⟩ (.string S)).setCell ⟨Z, 2, none⟩ (.string R)) (some b)) :=
        ⟨rdB_set (rdB_set (rdB_set (HX.out.rd.mono (by omega)) hb) hb) hb, grown_setS (grown_setS (grown_setS HX.out.old HX.out.lo.2) HX.out.lo.2) HX.out.lo.2⟩
      go_wp2_with fail
      refine bodyPost_ret (v := strV x S R) ?_ rfl ⟨S, R, hS, hR, rfl, HP.out.1, HP.out.2⟩
      exact results_str rfl rfl HX.out.res.set3
end Go.Proofs.YtdonjgjkhndfcaaGreatDoor

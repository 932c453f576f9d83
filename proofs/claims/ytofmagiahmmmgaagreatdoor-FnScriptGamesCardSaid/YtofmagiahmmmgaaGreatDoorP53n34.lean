/- Contracts of the program's functions and what they compute: part 34. Conditions: those that each theorem states. -/
import Derived.Test.YtofmagiahmmmgaaGreatDoorP53n33
import Derived.Test.YtofmagiahmmmgaaGreatDoorP53n4
import Derived.Test.YtofmagiahmmmgaaGreatDoorP53n14
import Derived.Test.YtofmagiahmmmgaaGreatDoorP53n31
import Derived.Lib.ConvBytes
namespace Go.Proofs.YtofmagiahmmmgaaGreatDoor
open Go.RowKit
set_option linter.unusedVariables false
set_option maxRecDepth 100000
theorem u8_wrap (z : Int) : ∃ d : UInt8, IntKind.u8.wrap z = ((d.toNat : Nat) : Int) := by
  have h : IntKind.u8.wrap z = z % 256 := by rfl
  refine ⟨UInt8.ofNat (z % 256).toNat, ?_⟩
  rw [h]
  have h0 : 0 ≤ z % 256 := Int.emod_nonneg _ (by decide)
  have h1 : z % 256 < 256 := Int.emod_lt_of_pos _ (by decide)
  rw [UInt8.toNat_ofNat']
  omega
/-- The byte that a text's first byte is turned into. -/
noncomputable def flipU (t : ByteArray) : UInt8 := Classical.choose (u8_wrap (97 - (((t.data.toList.getD 0 0).toNat : Nat) : Int)))
theorem flipU_is (t : ByteArray) : IntKind.u8.wrap (97 - (((t.data.toList.getD 0 0).toNat : Nat) : Int)) = (((flipU t).toNat : Nat) : Int) := Classical.choose_spec (u8_wrap (97 - (((t.data.toList.getD 0 0).toNat : Nat) : Int)))
/-- What the flipping keeps. -/
def Fl (w wr : World) (d : UInt8) : Prop := wr.cell? ⟨w.heap.size, 0, none⟩ = some (.int .u8 ((d.toNat : Nat) : Int)) ∧ wr.frozen? ⟨w.heap.size, 0, none⟩ = false ∧ Below w.heap.size w wr
theorem l1Flip_one (t : ByteArray) (ht : t.size = 1) (w : World) :
    Calls Tryz.prog 38 #[.string t] w fun e w' => e = .returned (.string ⟨#[flipU t]⟩) ∧ Below w.heap.size w w' := by
  have hd2 := flipU_is t
  have cs := Lib.run_convert_string_bytes (P := Tryz.prog) w 9 22 5 t Tryz.underlying9 Tryz.underlying22 Tryz.underlying5
  have HF0 : Hid (Fl w (Lib.bytesWorld w 5 t) (t.data.toList.getD 0 0)) := by
    refine ⟨Lib.bytesWorld_cell w 5 t 0 (by omega), ?_, ⟨rfl, rfl, rfl, by rw [Lib.bytesWorld_size]; omega, fun k hk => Lib.bytesWorld_at_old _ _ _ _ hk⟩⟩
    unfold World.frozen?
    rw [Lib.bytesWorld_at_new]
    have hs : 1 ≤ (Lib.bytesCells w 5 t).size := by
      unfold Lib.bytesCells
      have : t.data.size = 1 := ht
      simp; omega
    show (decide ((Lib.bytesCells w 5 t).size ≤ 0) && _) = false
    rw [decide_eq_false (by omega)]; rfl
  rw [ht] at cs
  obtain ⟨W1, hW1⟩ : ∃ W1, Lib.bytesWorld w 5 t = W1 := ⟨_, rfl⟩
  rw [hW1] at cs HF0
  clear hW1 ht
  generalize flipU t = d2 at *
  generalize t.data.toList.getD 0 0 = d0 at *
  generalize grownCap w 1 0 5 = cap at *
  have cb : ∀ (W : World) (d : UInt8), W.cell? ⟨w.heap.size, 0, none⟩ = some (.int .u8 ((d.toNat : Nat) : Int)) → (convert 22 9 (.slice (some ⟨w.heap.size, 0, none⟩) 1 cap)).run Tryz.prog W = .ok (.string ⟨#[d]⟩) W := fun W d hd =>
    run_convert_bytes_back W 22 9 5 ⟨w.heap.size, 0, none⟩ cap [d] Tryz.underlying22 Tryz.underlying5 Tryz.underlying9 (fun j hj => by
      have hj0 : j = 0 := by simpa using hj
      subst hj0
      exact hd)
  have HCB := Lib.hid cb
  clear cb
  go_enter Tryz.func38, Tryz.ntmps38
  go_wp2_with fail
  go_loopw [4] (fun q wr => ∃ j : Nat, j ≤ 1 ∧ q = .int .i64 (j : Int) ∧ Hid (Fl w wr (if j = 0 then d0 else d2))) (fun q _ => 1 - (intOf q).toNat)
  case atStart => exact ⟨0, by omega, rfl, HF0.out⟩
  case round =>
    clear HF0
    obtain ⟨j, hj, rfl, HL⟩ := hrel
    by_cases hlt : j < 1
    · have hj0 : j = 0 := by omega
      subst hj0
      obtain ⟨hd, hfz, hb⟩ : Fl w wr d0 := HL.out
      have HL2 : Hid (Fl w (wr.setCell ⟨w.heap.size, 0, none⟩ (.int .u8 ((d2.toNat : Nat) : Int))) d2) := by
        exact ⟨World.cell?_setCell_same' _ _ _ (by rw [hd]; rfl), by rw [World.frozen?_setCell]; exact hfz, hb.setCell (by simp) _⟩
      clear hb
      go_wp2_with fail
      go_roundw
      case rel => exact ⟨1, by omega, by go_num, HL2.out⟩
      case measure => simp [intOf]
    · have hj1 : j = 1 := by omega
      subst hj1
      obtain ⟨hd, hfz, hb⟩ : Fl w wr d2 := HL.out
      have HB := Lib.hid hb
      have hcb := HCB.out wr d2 hd
      clear hb
      go_wp2_with fail
      go_ret
      exact ⟨rfl, HB.out⟩
end Go.Proofs.YtofmagiahmmmgaaGreatDoor

namespace Go.Proofs.YtofmagiahmmmgaaGreatDoor
open Go.RowKit
set_option linter.unusedVariables false
set_option maxRecDepth 100000
theorem rdB_set {w : World} {b K g i : Nat} {u : Value} (h : RdB w b K) (hg : b < g) : RdB (w.setCell ⟨g, i, none⟩ u) b K := by
  obtain ⟨k, h1, a, len, cap, f, c0, c1, fr, short, room, row⟩ := h
  have cc : ∀ (p : Addr) v, p.block ≤ b → w.cell? p = some v → (w.setCell ⟨g, i, none⟩ u).cell? p = some v := fun p v hp h => by
    rw [World.cell?_setCell_other _ _ _ _ (by intro e; subst e; simp at hp; omega)]; exact h
  refine ⟨k, h1, a, len, cap, f, cc _ _ (Nat.le_refl _) c0, cc _ _ (Nat.le_refl _) c1, ?_, short, room, ?_⟩
  · rw [World.frozen?_setCell]; exact fr
  · rcases row with h | ⟨b', off, rfl, hb', hc, hf⟩
    · exact .inl h
    · exact .inr ⟨b', off, rfl, hb', fun j hj => cc _ _ (Nat.le_of_lt hb') (hc j hj), hf⟩
theorem rdB_drew {w : World} {b K : Nat} (h : RdB w b K) : RdB w.drew b K := rdB_bel h (Below.refl _ _).drew
theorem grown_belowS {w w' : World} {row : Option Nat} (h : Below w.heap.size w w') : w.grownBy w' row := ⟨h.os, h.tape, h.output, h.size, fun i hi _ => h.block i hi⟩
theorem grown_setS {w wr : World} {row : Option Nat} {g i : Nat} {u : Value} (h : w.grownBy wr row) (hg : w.heap.size ≤ g) : w.grownBy (wr.setCell ⟨g, i, none⟩ u) row :=
  ⟨h.os, h.tape, h.output, by simpa using h.size, fun k hk hne => (Below.heap_setCell wr ⟨g, i, none⟩ u k (by simp; omega)).trans (h.block k hk hne)⟩
/-- A structure that is drawn: its box, the box of the result, and the reader. -/
structure Dst (w : World) (b K g go : Nat) (n : Int) (S R : ByteArray) (wr : World) : Prop where
  rd : RdB wr b K
  out : SBlk wr g n S R
  res : SBlk wr go 0 ByteArray.empty ByteArray.empty
  ne : b < g ∧ b < go ∧ g ≠ go
  lo : w.heap.size ≤ g ∧ w.heap.size ≤ go
  old : w.grownBy wr (some b)
theorem Dst.drew {w : World} {b K g go : Nat} {n : Int} {S R : ByteArray} {wr : World} (h : Dst w b K g go n S R wr) : Dst w b K g go n S R wr.drew :=
  ⟨rdB_drew h.rd, h.out.drew, h.res.drew, h.ne, h.lo, h.old.trans (grown_belowS (Below.refl _ _).drew)⟩
theorem Dst.mono {w : World} {b K K' g go : Nat} {n : Int} {S R : ByteArray} {wr : World} (h : Dst w b K g go n S R wr) (hk : K ≤ K') : Dst w b K' g go n S R wr :=
  ⟨h.rd.mono hk, h.out, h.res, h.ne, h.lo, h.old⟩
theorem Dst.pick {w : World} {b K K' g go : Nat} {n : Int} {S R : ByteArray} {wr w' : World} (h : Dst w b K g go n S R wr) (hr : RdB w' b K') (hg : wr.grownBy w' (some b)) : Dst w b K' g go n S R w' := by
  have l1 := h.out.cells.2.2.2.2.2.2
  have l2 := h.res.cells.2.2.2.2.2.2
  obtain ⟨n1, n2, n3⟩ := h.ne
  refine ⟨hr, (hg.block g l1 (by intro e; injection e; omega)).trans h.out, (hg.block go l2 (by intro e; injection e; omega)).trans h.res, h.ne, h.lo, h.old.trans hg⟩
theorem Dst.set1 {w : World} {b K g go : Nat} {n : Int} {S R S' : ByteArray} {wr : World} (h : Dst w b K g go n S R wr) : Dst w b K g go n S' R (wr.setCell ⟨g, 1, none⟩ (.string S')) :=
  ⟨rdB_set h.rd h.ne.1, h.out.set1, h.res.far (fun e => h.ne.2.2 e.symm) _, h.ne, h.lo, grown_setS h.old h.lo.1⟩
theorem Dst.set2 {w : World} {b K g go : Nat} {n : Int} {S R R' : ByteArray} {wr : World} (h : Dst w b K g go n S R wr) : Dst w b K g go n S R' (wr.setCell ⟨g, 2, none⟩ (.string R')) :=
  ⟨rdB_set h.rd h.ne.1, h.out.set2, h.res.far (fun e => h.ne.2.2 e.symm) _, h.ne, h.lo, grown_setS h.old h.lo.1⟩
theorem Dst.below {w : World} {b K g go : Nat} {n : Int} {S R : ByteArray} {wr w' : World} (h : Dst w b K g go n S R wr) (hb : Below wr.heap.size wr w') : Dst w b K g go n S R w' :=
  ⟨rdB_bel h.rd hb, h.out.below hb h.out.cells.2.2.2.2.2.2, h.res.below hb h.res.cells.2.2.2.2.2.2, h.ne, h.lo, h.old.trans (grown_belowS hb)⟩
theorem bitL (b : Bool) (W : World) : Calls Tryz.prog 83 #[.bool b] W fun e w' => e = .returned (.string (bitS b)) ∧ Below W.heap.size W w' := (l1Bit_any b W).mono fun _ _ h => ⟨h.1, by rw [← h.2]; exact Below.refl _ _⟩
end Go.Proofs.YtofmagiahmmmgaaGreatDoor

namespace Go.Proofs.YtofmagiahmmmgaaGreatDoor
open Go.RowKit
set_option linter.unusedVariables false
set_option maxRecDepth 100000
theorem Dst.set0 {w : World} {b K g go : Nat} {n n' : Int} {S R : ByteArray} {wr : World} (h : Dst w b K g go n S R wr) : Dst w b K g go n' S R (wr.setCell ⟨g, 0, none⟩ (.int .i64 n')) := by
  refine ⟨rdB_set h.rd h.ne.1, ?_, h.res.far (fun e => h.ne.2.2 e.symm) _, h.ne, h.lo, grown_setS h.old h.lo.1⟩
  have := h.out
  unfold SBlk at this ⊢
  simp [World.setCell, Array.getElem?_modify, this]
/-- A structure that is drawn, sometimes one that is not valid. -/
def StrO (b K : Nat) (w : World) (e : Ending) (w' : World) : Prop := ∃ (n : Int) (S R : ByteArray), -1 ≤ n ∧ n ≤ 9223372036854775807 ∧ S.size ≤ 10 ∧ R.size ≤ 100 ∧ e = .returned (strV n S R) ∧ RdB w' b K ∧ w.grownBy w' (some b)
theorem Dst.fin {w : World} {b K g go : Nat} {n : Int} {S R : ByteArray} {wr : World} (h : Dst w b K g go n S R wr) {m : Int} {T U : ByteArray} (m0 : -1 ≤ m) (m1 : m ≤ 9223372036854775807) (hT : T.size ≤ 10) (hU : U.size ≤ 100) :
    SBlk (((wr.setCell ⟨go, 0, none⟩ (.int .i64 m)).setCell ⟨go, 1, none⟩ (.string T)).setCell ⟨go, 2, none⟩ (.string U)) go m T U ∧ StrO b K w (.returned (strV m T U)) (((wr.setCell ⟨go, 0, none⟩ (.int .i64 m)).setCell ⟨go, 1, none⟩ (.string T)).setCell ⟨go, 2, none⟩ (.string U)) :=
  ⟨h.res.set3, m, T, U, m0, m1, hT, hU, rfl, rdB_set (rdB_set (rdB_set h.rd h.ne.2.1) h.ne.2.1) h.ne.2.1, grown_setS (grown_setS (grown_setS h.old h.lo.2) h.lo.2) h.lo.2⟩
set_option maxHeartbeats 4000000 in
theorem l1Bad_any (b K n : Nat) (S R : ByteArray) (h1 : 1 ≤ n) (h5 : n ≤ 5) (hS : S.size = n) (hR : R.size = n * n) (w : World) (h : RdB w b K) (hk : K < 1000000000) :
    Calls Tryz.prog 19 #[.pointer (some ⟨b, 0, none⟩), strV n S R] w (StrO b (K + 2) w) := by
  have hb := h.block
  have hnn : n * n ≤ 25 := Nat.mul_le_mul h5 h5
  have hn1 : 1 ≤ n * n := Nat.mul_le_mul h1 h1
  have HD : Hid (Dst w b K w.heap.size (w.heap.size + 1) (n : Int) S R ((w.alloc (.cells #[.int .i64 (n : Int), .string S, .string R] 24)).alloc (.cells #[.int .i64 0, .string ByteArray.empty, .string ByteArray.empty] 24))) := by
    have hB : Below w.heap.size w (w.alloc (.cells #[.int .i64 (n : Int), .string S, .string R] 24)) := (Below.refl _ _).alloc (Nat.le_refl _) _
    have hB2 := hB.alloc (o := .cells #[.int .i64 0, .string ByteArray.empty, .string ByteArray.empty] 24) hB.size
    refine ⟨rdB_bel h hB2, ?_, ?_, ⟨by omega, by omega, by omega⟩, ⟨Nat.le_refl _, by omega⟩, grown_belowS hB2⟩
    · exact (SBlk.new w (n : Int) S R).below ((Below.refl (w.heap.size + 1) _).alloc (by simp) _) (by simp)
    · have := SBlk.new (w.alloc (.cells #[.int .i64 (n : Int), .string S, .string R] 24)) 0 ByteArray.empty ByteArray.empty
      simpa using this
  clear h
  generalize hgz : w.heap.size = Z at *
  unfold strV
  go_enter Tryz.func19, Tryz.ntmps19
  go_wp2_with fail
  refine (pickB _ b K _ HD.out.rd (by omega) (by omega) (by omega)).mono ?_; rintro e w1 ⟨v, rfl, v0, v1, hr, hg⟩
  have HD1 := Lib.hid (HD.out.pick hr hg)
  clear hr hg HD
  have hnI : (1 : Int) ≤ (n : Int) ∧ (n : Int) ≤ 5 := by omega
  by_cases c0 : v = 0
  · subst c0
    obtain ⟨c0, c1, c2, f0, f1, f2, hbb⟩ := HD1.out.out.cells
    have hwr : IntKind.i64.wrap ((n : Int) + 1) = (n : Int) + 1 := IntWalk.i64_in _ (by omega)
    have HN := Lib.hid (fun T => num_list w1 b (K + 1) [0, -1, (n : Int) + 1, 9, 9223372036854775807] T HD1.out.rd (by omega) (by simp) (by simp))
    go_wp2_with fail
    refine (HN.out _).mono ?_; rintro e w2 ⟨u, hu, rfl, hr, hg⟩
    have hu2 : -1 ≤ u ∧ u ≤ 9223372036854775807 := by
      simp at hu
      rcases hu with rfl | rfl | rfl | rfl | rfl <;> omega
    have HD2 := Lib.hid (HD1.out.pick hr hg)
    have HD3 := Lib.hid (HD2.out.set0 (n' := u))
    clear hr hg hu c0 c1 c2 f0 f1 f2 hbb HN
    obtain ⟨a0, a1, a2, k0, k1, k2, hac⟩ := HD2.out.out.cells
    obtain ⟨c0, c1, c2, f0, f1, f2, hbb⟩ := HD3.out.out.cells
    obtain ⟨d0, d1, d2, g0, g1, g2, hbc⟩ := HD3.out.res.cells
    have HF := Lib.hid (HD3.out.fin (m := u) (T := S) (U := R) hu2.1 hu2.2 (by omega) (by omega))
    go_wp2_with fail
    refine bodyPost_ret (v := strV u S R) ?_ rfl HF.out.2
    exact results_str rfl rfl HF.out.1
  · have c0B : (v == 0) = false := by simpa using c0
    by_cases c1 : v = 1
    · subst c1
      have HD3 := Lib.hid (HD1.out.set1 (S' := S ++ ⟨#[48]⟩))
      obtain ⟨a0, a1, a2, k0, k1, k2, hac⟩ := HD1.out.out.cells
      obtain ⟨c0, c1, c2, f0, f1, f2, hbb⟩ := HD3.out.out.cells
      obtain ⟨d0, d1, d2, g0, g1, g2, hbc⟩ := HD3.out.res.cells
      have hz : ¬ 9223372036854775807 < S.size + (⟨#[48]⟩ : ByteArray).size := by have : (⟨#[48]⟩ : ByteArray).size = 1 := rfl; omega
      have HF := Lib.hid ((HD3.out.mono (K' := K + 2) (by omega)).fin (m := (n : Int)) (T := S ++ ⟨#[48]⟩) (U := R) (by omega) (by omega) (by rw [ByteArray.size_append]; have : (⟨#[48]⟩ : ByteArray).size = 1 := rfl; omega) (by omega))
      go_wp2_with fail
      refine bodyPost_ret (v := strV n (S ++ ⟨#[48]⟩) R) ?_ rfl HF.out.2
      exact results_str rfl rfl HF.out.1
    · have c1B : (v == 1) = false := by simpa using c1
      by_cases c2 : v = 2
      · subst c2
        obtain ⟨a0, a1, a2, k0, k1, k2, hac⟩ := HD1.out.out.cells
        have hwr : IntKind.i64.wrap ((R.size : Int) - 1) = (R.size : Int) - 1 := IntWalk.i64_in _ (by omega)
        have hsl : ∀ wx, (Instr.slice 9 (.string R) none (some (.int .i64 ((R.size : Int) - 1))) none).run Tryz.prog wx = .ok (.string (R.extract 0 (R.size - 1))) wx := fun wx => by
          rw [run_slice_string_to_if wx _ R _ _ Tryz.underlying9, if_pos ⟨by omega, by omega⟩, show ((R.size : Int) - 1).toNat = R.size - 1 by omega]
        have HRD := Lib.hid HD1.out.drew.rd
        have hx : (R.extract 0 (R.size - 1)).size = R.size - 1 := by rw [ByteArray.size_extract]; omega
        have HXS := Lib.hid hx
        generalize R.extract 0 (R.size - 1) = X at *
        clear hx
        have hXz : X.size ≤ 30 := by rw [HXS.out]; omega
        have hRI : (1 : Int) ≤ (R.size : Int) ∧ (R.size : Int) ≤ 25 := by omega
        have HSz := Lib.hid hS
        clear hR hS
        go_upto_region 8 with fail
        go_region_with (first | (go_at_call 40; refine (of_list w1.drew b _ 2 [⟨#[]⟩, ⟨#[50]⟩, ⟨#[48, 49]⟩] _ HRD.out (by omega) (by decide) (by decide) (by intro x hx; simp at hx; rcases hx with rfl | rfl | rfl <;> decide)).mono ?_; rintro e wz ⟨o, o2, rfl, hr, hg⟩; have HD2 := Lib.hid (HD1.out.drew.pick hr hg); clear hr hg; have hz : ¬ 9223372036854775807 < X.size + o.size := (by omega); obtain ⟨b0, b1, b2, m0, m1, m2, hbd⟩ := HD2.out.out.cells))
        all_goals
          have HD3 := Lib.hid (HD2.out.set2 (R' := X ++ o))
          obtain ⟨c0, c1, c2, f0, f1, f2, hbb⟩ := HD3.out.out.cells
          obtain ⟨d0, d1, d2, g0, g1, g2, hbc⟩ := HD3.out.res.cells
          have HF := Lib.hid (HD3.out.fin (m := (n : Int)) (T := S) (U := X ++ o) (by omega) (by omega) (by have := HSz.out; omega) (by rw [ByteArray.size_append]; omega))
          go_wp2_with fail
          refine bodyPost_ret (v := strV n S (X ++ o)) ?_ rfl HF.out.2
          exact results_str rfl rfl HF.out.1
      · have c2B : (v == 2) = false := by simpa using c2
        obtain ⟨a0, a1, a2, k0, k1, k2, hac⟩ := HD1.out.out.cells
        obtain ⟨d0, d1, d2, g0, g1, g2, hbc⟩ := HD1.out.res.cells
        by_cases c3 : v = 3
        · subst c3
          have r0 := rep_size ⟨#[48]⟩ 9
          have r1 := rep_size ⟨#[49]⟩ 81
          have HM0 := Lib.hid (fun W => l15Many_any ⟨#[48]⟩ 9 W (by decide) (by decide))
          have HM1 := Lib.hid (fun W => l15Many_any ⟨#[49]⟩ 81 W (by decide) (by decide))
          generalize rep ⟨#[48]⟩ 9 = T at *
          generalize rep ⟨#[49]⟩ 81 = U at *
          have hT : T.size = 9 := r0
          have hU : U.size = 81 := r1
          have HF := Lib.hid ((HD1.out.mono (K' := K + 2) (by omega)).fin (m := 9) (T := T) (U := U) (by omega) (by omega) (by omega) (by omega))
          go_wp2_with fail
          refine (HM0.out _).mono ?_; rintro e w2 ⟨rfl, hw⟩; rw [← hw]; clear hw
          go_wp2_with fail
          refine (HM1.out _).mono ?_; rintro e w2 ⟨rfl, hw⟩; rw [← hw]; clear hw
          go_wp2_with fail
          refine bodyPost_ret (v := strV 9 T U) ?_ rfl HF.out.2
          exact results_str rfl rfl HF.out.1
        · have c3B : (v == 3) = false := by simpa using c3
          have HF := Lib.hid ((HD1.out.mono (K' := K + 2) (by omega)).fin (m := (n : Int)) (T := S) (U := R) (by omega) (by omega) (by omega) (by omega))
          go_wp2_with fail
          refine bodyPost_ret (v := strV n S R) ?_ rfl HF.out.2
          exact results_str rfl rfl HF.out.1
end Go.Proofs.YtofmagiahmmmgaaGreatDoor

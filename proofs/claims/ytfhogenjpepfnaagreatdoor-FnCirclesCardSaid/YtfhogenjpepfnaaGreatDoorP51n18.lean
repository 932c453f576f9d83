/- Contracts of the program's functions and what they compute: part 18. Conditions: those that each theorem states. -/
import Derived.Test.YtfhogenjpepfnaaGreatDoorP51n4
import Derived.Test.YtfhogenjpepfnaaGreatDoorP51n17
import Derived.IntWalk
import Derived.Deep.LoopGhost
namespace Go.Proofs.YtfhogenjpepfnaaGreatDoor
open Go.RowKit
set_option linter.unusedVariables false
def is01 (b : UInt8) : Bool := b == 48 || b == 49
/-- Whether a text has n bits. -/
def bitsB (s : ByteArray) (n : Int) : Bool := decide ((s.size : Int) = n) && s.data.toList.all is01
/-- Whether a structure is valid. -/
def validB (n : Int) (S R : ByteArray) : Bool := inB n 1 8 && (bitsB S n && bitsB R (n * n))
theorem trimS_01 (l : List UInt8) : /- 59 -/ (Lib.trimS l [48, 49]).isEmpty = l.all is01 := by
  have h := trim_nil ([48, 49].contains ·) l
  have e : l.all ([48, 49].contains ·) = l.all is01 := by
    congr 1
    funext b
    rw [Bool.eq_iff_iff]
    simp [is01]
  rw [e] at h
  rw [Bool.eq_iff_iff, List.isEmpty_iff]
  exact h
theorem trim_01 (s : ByteArray) (w : World) (hs : s.size ≤ 9223372036854775807) :
    Calls Tryz.prog 59 #[.string s, .string ⟨#[48, 49]⟩] w fun e w' => (∃ t : ByteArray, e = .returned (.string t) ∧ t.toList.isEmpty = s.data.toList.all is01) ∧ Below w.heap.size w w' := by
  have hcon := Any.strings_Trim_laid Tryz.lays160 (by kernel_rfl) s ⟨#[48, 49]⟩ w hs (by decide) (ascii_of_all (by decide))
  refine hcon.mono fun e w' ⟨h1, h2⟩ => ⟨⟨_, h1, ?_⟩, h2⟩
  rw [Lib.toList_data]
  exact trimS_01 _
theorem areBits_any (s : ByteArray) (n : Int) (w : World) (hs : s.size ≤ 9223372036854775807) :
    Calls Tryz.prog 39 #[.string s, .int .i64 n] w fun e w' => e = .returned (.bool (bitsB s n)) ∧ Below w.heap.size w w' := by
  by_cases h : (s.size : Int) = n
  · subst h
    have HW : Hid (s.data.toList.all is01 = bitsB s (s.size : Int)) := by simp [Hid, bitsB]
    go_enter Tryz.func39, Tryz.ntmps39
    go_wp2_with fail
    refine (trim_01 s _ hs).mono ?_
    rintro e w1 ⟨⟨t, rfl, ht⟩, hb⟩
    have HB := Lib.hid hb; clear hb
    generalize s.data.toList.all is01 = b at *
    go_wp2_with fail
    go_ret
    exact ⟨ret_bool HW.out, HB.out⟩
  · have e1 : ((s.size : Int) == n) = false := by simp; exact h
    have HW : Hid (bitsB s n = false) := by simp [Hid, bitsB, h]
    clear h
    go_enter Tryz.func39, Tryz.ntmps39
    go_wp2_with fail
    go_ret
    exact ⟨ret_bool HW.out.symm, Below.refl _ _⟩
theorem bits_take_succ (s : ByteArray) (k : Nat) (h : k < s.size) : (s.data.toList.take (k + 1)).all is01 = ((s.data.toList.take k).all is01 && is01 s[k]) := by
  rw [List.take_succ_eq_append_getElem (by simpa using h), List.all_append]
  simp
  rfl
theorem l1Bits_any (s : ByteArray) (n : Int) (w : World) (hs : s.size ≤ 9223372036854775807) :
    Calls Tryz.prog 70 #[.string s, .int .i64 n] w fun e w' => e = .returned (.bool (bitsB s n)) ∧ w = w' := by
  go_enter Tryz.func70, Tryz.ntmps70
  go_wp2_with fail
  go_loop [5] (fun i => ∃ k : Nat, k ≤ s.size ∧ i = .int .i64 k ∧ Hid ((s.data.toList.take k).all is01 = true)) (fun i => s.size - (intOf i).toNat)
  case atStart => exact ⟨0, by omega, rfl, rfl⟩
  case round =>
    obtain ⟨k, hk, rfl, HK⟩ := hrel
    by_cases hlt : k < s.size
    · have HS := Lib.hid (bits_take_succ s k hlt)
      obtain ⟨c, hc⟩ : ∃ c, s[k] = c := ⟨_, rfl⟩
      have HC := Lib.hid hc
      by_cases hx : c = 48
      · have e1 : ((c.toNat : Int) == 48) = true := by rw [hx]; rfl
        have e1' : ((c.toNat : Int) != 48) = false := by rw [hx]; rfl
        have HX := Lib.hid hx; clear hx
        go_wp2_with fail
        go_round
        case rel =>
          refine ⟨k + 1, by omega, by go_num, ?_⟩
          rw [HS.out, HK.out, HC.out, HX.out]; rfl
        case measure => simp [intOf]; omega
      · have hx' : c.toNat ≠ 48 := fun h => hx (UInt8.toNat_inj.1 h)
        have e1 : ((c.toNat : Int) == 48) = false := by simp; omega
        have e1' : ((c.toNat : Int) != 48) = true := by simp; omega
        by_cases hy : c = 49
        · have e2 : ((c.toNat : Int) == 49) = true := by rw [hy]; rfl
          have e2' : ((c.toNat : Int) != 49) = false := by rw [hy]; rfl
          have HY := Lib.hid hy; clear hx hy hx'
          go_wp2_with fail
          go_round
          case rel =>
            refine ⟨k + 1, by omega, by go_num, ?_⟩
            rw [HS.out, HK.out, HC.out, HY.out]; rfl
          case measure => simp [intOf]; omega
        · have hy' : c.toNat ≠ 49 := fun h => hy (UInt8.toNat_inj.1 h)
          have e2 : ((c.toNat : Int) == 49) = false := by simp; omega
          have e2' : ((c.toNat : Int) != 49) = true := by simp; omega
          have HR : Hid (bitsB s n = false) := by
            have h1 : is01 s[k] = false := by rw [HC.out]; simp [is01, hx, hy]
            have h2 : s.data.toList.all is01 = false := by
              rw [← Bool.not_eq_true, List.all_eq_true]
              intro h
              have := h s[k] (by
                show s.data[k] ∈ s.data.toList
                simp)
              rw [h1] at this; cases this
            simp [Hid, bitsB, h2]
          clear hx hy hx' hy'
          go_wp2_with fail
          go_ret
          exact ⟨ret_bool HR.out.symm, rfl⟩
    · have HR : Hid (bitsB s n = ((s.size : Int) == n)) := by
        have h := HK.out
        rw [List.take_of_length_le (by simp; omega)] at h
        simp [Hid, bitsB, h]
        rfl
      go_wp2_with fail
      go_ret
      exact ⟨ret_bool HR.out.symm, rfl⟩
theorem isStructure_any (n : Int) (S R : ByteArray) (w : World) (hS : S.size ≤ 9223372036854775807) (hR : R.size ≤ 9223372036854775807) :
    Calls Tryz.prog 20 #[strV n S R] w fun e w' => e = .returned (.bool (validB n S R)) ∧ Below w.heap.size w w' := by
  unfold strV
  by_cases h1 : 1 ≤ n
  · by_cases h8 : n ≤ 8
    · have HI := Lib.hid (inB_true h1 h8)
      have hw : IntKind.i64.wrap (n * n) = n * n := IntWalk.i64_in _ (by
        have a1 : n * n ≤ 8 * 8 := Int.mul_le_mul h8 h8 (by omega) (by omega)
        have a2 : 0 ≤ n * n := Int.mul_nonneg (by omega) (by omega)
        omega)
      cases h2 : bitsB S n
      · have HE := Lib.hid h2
        have HV : Hid (validB n S R = false) := by simp [Hid, validB, h2]
        clear h2
        go_enter Tryz.func20, Tryz.ntmps20
        go_wp2_with fail
        refine (areBits_any S n _ hS).mono ?_; rintro e w1 ⟨rfl, hb⟩
        have hb' : Below w.heap.size w w1 := ((Below.refl _ _).alloc (Nat.le_refl _) _).trans (hb.mono (by simp))
        have HB := Lib.hid hb'; clear hb'
        rw [HE.out]
        go_wp2_with fail
        go_ret
        exact ⟨ret_bool HV.out.symm, HB.out⟩
      · have HE := Lib.hid h2
        have HV : Hid (bitsB R (n * n) = validB n S R) := by simp [Hid, validB, h2, HI.out]
        clear h2
        go_enter Tryz.func20, Tryz.ntmps20
        go_wp2_with fail
        refine (areBits_any S n _ hS).mono ?_; rintro e w1 ⟨rfl, hb⟩
        have hR1 : SBlk w1 w.heap.size n S R := (SBlk.new w n S R).below hb (by simp)
        have hb' : Below w.heap.size w w1 := ((Below.refl _ _).alloc (Nat.le_refl _) _).trans (hb.mono (by simp))
        have HB := Lib.hid hb'; clear hb' hb
        obtain ⟨c0, c1, c2, f0, f1, f2, hs1⟩ := hR1.cells
        clear hR1
        rw [HE.out]
        go_wp2_with fail
        refine (areBits_any R (n * n) _ hR).mono ?_; rintro e w2 ⟨rfl, hb⟩
        have HB2 := Lib.hid (HB.out.trans (hb.mono HB.out.size)); clear hb
        generalize bitsB R (n * n) = b at *
        go_wp2_with fail
        go_ret
        exact ⟨ret_bool HV.out, HB2.out⟩
    · have HI := Lib.hid (inB_hi (lo := 1) h8)
      go_enter Tryz.func20, Tryz.ntmps20
      go_wp2_with fail
      go_ret
      exact ⟨ret_bool (by simp [validB, HI.out]), (Below.refl _ _).alloc (Nat.le_refl _) _⟩
  · have HI := Lib.hid (inB_lo (hi := 8) h1)
    go_enter Tryz.func20, Tryz.ntmps20
    go_wp2_with fail
    go_ret
    exact ⟨ret_bool (by simp [validB, HI.out]), (Below.refl _ _).alloc (Nat.le_refl _) _⟩
theorem specValid_any (n : Int) (S R : ByteArray) (w : World) (hS : S.size ≤ 9223372036854775807) (hR : R.size ≤ 9223372036854775807) :
    Calls Tryz.prog 57 #[strV n S R] w fun e w' => e = .returned (.bool (validB n S R)) ∧ Below w.heap.size w w' := by
  unfold strV
  cases h1 : inB n 1 8
  · have HI := Lib.hid h1
    have HV : Hid (validB n S R = false) := by simp [Hid, validB, h1]
    clear h1
    go_enter Tryz.func57, Tryz.ntmps57
    go_wp2_with fail
    refine (l1In_any _ _ _ _).mono ?_; rintro e w' ⟨rfl, rfl⟩
    rw [HI.out]
    go_wp2_with fail
    go_ret
    exact ⟨ret_bool HV.out.symm, (Below.refl _ _).alloc (Nat.le_refl _) _⟩
  · have HI := Lib.hid h1
    have hw : IntKind.i64.wrap (n * n) = n * n := IntWalk.i64_in _ (by
      obtain ⟨a1, a8⟩ := inB_iff.1 h1
      have a1 : n * n ≤ 8 * 8 := Int.mul_le_mul a8 a8 (by omega) (by omega)
      have a2 : 0 ≤ n * n := Int.mul_nonneg (by omega) (by omega)
      omega)
    cases h2 : bitsB S n
    · have HE := Lib.hid h2
      have HV : Hid (validB n S R = false) := by simp [Hid, validB, h2]
      clear h1 h2
      go_enter Tryz.func57, Tryz.ntmps57
      go_wp2_with fail
      refine (l1In_any _ _ _ _).mono ?_; rintro e w' ⟨rfl, rfl⟩
      rw [HI.out]
      go_wp2_with fail
      refine (l1Bits_any S n _ hS).mono ?_; rintro e w' ⟨rfl, rfl⟩
      rw [HE.out]
      go_wp2_with fail
      go_ret
      exact ⟨ret_bool HV.out.symm, (Below.refl _ _).alloc (Nat.le_refl _) _⟩
    · have HE := Lib.hid h2
      have HV : Hid (bitsB R (n * n) = validB n S R) := by simp [Hid, validB, h2, h1]
      clear h1 h2
      go_enter Tryz.func57, Tryz.ntmps57
      go_wp2_with fail
      refine (l1In_any _ _ _ _).mono ?_; rintro e w' ⟨rfl, rfl⟩
      rw [HI.out]
      go_wp2_with fail
      refine (l1Bits_any S n _ hS).mono ?_; rintro e w' ⟨rfl, rfl⟩
      rw [HE.out]
      go_wp2_with fail
      refine (l1Bits_any R (n * n) _ hR).mono ?_; rintro e w' ⟨rfl, rfl⟩
      generalize bitsB R (n * n) = b at *
      go_wp2_with fail
      go_ret
      exact ⟨ret_bool HV.out, (Below.refl _ _).alloc (Nat.le_refl _) _⟩
end Go.Proofs.YtfhogenjpepfnaaGreatDoor

namespace Go.Proofs.YtfhogenjpepfnaaGreatDoor
open Go.RowKit
theorem l1In_is {b : Bool} {n lo hi : Int} (w : World) (h : inB n lo hi = b) :
    Calls Tryz.prog 17 #[.int .i64 n, .int .i64 lo, .int .i64 hi] w fun e w' => e = .returned (.bool b) ∧ w = w' := by
  subst h; exact l1In_any _ _ _ _
/-- How far a test holds from k on, for at most so many numbers. -/
def cnt (p : Nat → Bool) : Nat → Nat → Nat
  | 0, k => k
  | f + 1, k => if p k then cnt p f (k + 1) else k
end Go.Proofs.YtfhogenjpepfnaaGreatDoor

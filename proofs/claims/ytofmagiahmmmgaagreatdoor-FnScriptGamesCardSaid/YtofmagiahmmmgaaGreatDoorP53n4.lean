/- Contracts of the program's functions and what they compute: part 4. Conditions: those that each theorem states. -/
import Derived.Test.YtofmagiahmmmgaaGreatDoorP53n1
import Derived.Test.YtofmagiahmmmgaaGreatDoorP53n3
import Derived.Test.YtofmagiahmmmgaaGreatDoorShelf
import Derived.StillTailTactics
import Derived.IntWalk
import Derived.Deep.LoopGhost
namespace Go.Proofs.YtofmagiahmmmgaaGreatDoor
open Go.RowKit
def inB (n lo hi : Int) : Bool := decide (lo ≤ n) && decide (n ≤ hi)
theorem inB_true {n lo hi : Int} (h : lo ≤ n) (h' : n ≤ hi) : inB n lo hi = true := by simp [inB, h, h']
theorem inB_lo {n lo hi : Int} (h : ¬ lo ≤ n) : inB n lo hi = false := by simp [inB, h]
theorem inB_hi {n lo hi : Int} (h : ¬ n ≤ hi) : inB n lo hi = false := by simp [inB, h]
theorem inB_iff {n lo hi : Int} : inB n lo hi = true ↔ lo ≤ n ∧ n ≤ hi := by simp [inB]
theorem l1In_any (n lo hi : Int) (w : World) :
    Calls Tryz.prog 87 #[.int .i64 n, .int .i64 lo, .int .i64 hi] w fun e w' => e = .returned (.bool (inB n lo hi)) ∧ w = w' := by
  by_cases h : lo ≤ n
  · by_cases h' : n ≤ hi
    · have H := Lib.hid (inB_true h h')
      go_enter Tryz.func87, Tryz.ntmps87
      go_wp2
      go_ret
      exact ⟨ret_bool H.out.symm, rfl⟩
    · have H := Lib.hid (inB_hi (lo := lo) h')
      go_enter Tryz.func87, Tryz.ntmps87
      go_wp2
      go_ret
      exact ⟨ret_bool H.out.symm, rfl⟩
  · have H := Lib.hid (inB_lo (hi := hi) h)
    go_enter Tryz.func87, Tryz.ntmps87
    go_wp2
    go_ret
    exact ⟨ret_bool H.out.symm, rfl⟩
end Go.Proofs.YtofmagiahmmmgaaGreatDoor

namespace Go.Proofs.YtofmagiahmmmgaaGreatDoor
open Go.RowKit
theorem dropWhile_nil (p : UInt8 → Bool) : ∀ l : List UInt8, l.dropWhile p = [] ↔ l.all p = true
  | [] => by simp
  | x :: l => by
    have ih := dropWhile_nil p l
    cases h : p x
    · simp [List.dropWhile, h]
    · simp only [List.dropWhile, h, List.all_cons, Bool.true_and]; exact ih
theorem dropWhile_head (p : UInt8 → Bool) : ∀ l : List UInt8, ∀ x m, l.dropWhile p = x :: m → p x = false
  | [], _, _, h => by simp at h
  | y :: l, x, m, h => by
    cases hy : p y
    · simp only [List.dropWhile, hy, List.cons.injEq] at h
      rw [← h.1]; exact hy
    · simp only [List.dropWhile, hy] at h
      exact dropWhile_head p l x m h
theorem trim_nil (p : UInt8 → Bool) (l : List UInt8) : ((l.reverse.dropWhile p).reverse.dropWhile p = []) ↔ l.all p = true := by
  rw [dropWhile_nil, List.all_reverse]
  cases h : l.reverse.dropWhile p with
  | nil =>
    have := (dropWhile_nil p _).1 h
    rw [List.all_reverse] at this
    simp [this]
  | cons x m =>
    have hx := dropWhile_head p _ x m h
    constructor
    · intro ha
      simp [hx] at ha
    · intro ha
      rw [← List.all_reverse] at ha
      rw [(dropWhile_nil p _).2 ha] at h
      cases h
end Go.Proofs.YtofmagiahmmmgaaGreatDoor

namespace Go.Proofs.YtofmagiahmmmgaaGreatDoor
open Go.RowKit
set_option linter.unusedVariables false
def is01 (b : UInt8) : Bool := b == 48 || b == 49
/-- Whether a text has n bits. -/
def bitsB (s : ByteArray) (n : Int) : Bool := decide ((s.size : Int) = n) && s.data.toList.all is01
/-- Whether a structure is valid. -/
def validB (n : Int) (S R : ByteArray) : Bool := inB n 1 8 && (bitsB S n && bitsB R (n * n))
theorem trimS_01 (l : List UInt8) : /- 90 -/ (Lib.trimS l [48, 49]).isEmpty = l.all is01 := by
  have h := trim_nil ([48, 49].contains ·) l
  have e : l.all ([48, 49].contains ·) = l.all is01 := by
    congr 1
    funext b
    rw [Bool.eq_iff_iff]
    simp [is01]
  rw [e] at h
  rw [Bool.eq_iff_iff, List.isEmpty_iff]
  exact h
theorem trim_01 (s : ByteArray) (w : World) (hs : s.size ≤ 9223372036854775807) :
    Calls Tryz.prog 90 #[.string s, .string ⟨#[48, 49]⟩] w fun e w' => (∃ t : ByteArray, e = .returned (.string t) ∧ t.toList.isEmpty = s.data.toList.all is01) ∧ Below w.heap.size w w' := by
  have hcon := Any.strings_Trim_laid Tryz.lays160 (by kernel_rfl) s ⟨#[48, 49]⟩ w hs (by decide) (ascii_of_all (by decide))
  refine hcon.mono fun e w' ⟨h1, h2⟩ => ⟨⟨_, h1, ?_⟩, h2⟩
  rw [Lib.toList_data]
  exact trimS_01 _
theorem areBits_any (s : ByteArray) (n : Int) (w : World) (hs : s.size ≤ 9223372036854775807) :
    Calls Tryz.prog 45 #[.string s, .int .i64 n] w fun e w' => e = .returned (.bool (bitsB s n)) ∧ Below w.heap.size w w' := by
  by_cases h : (s.size : Int) = n
  · subst h
    have HW : Hid (s.data.toList.all is01 = bitsB s (s.size : Int)) := by simp [Hid, bitsB]
    go_enter Tryz.func45, Tryz.ntmps45
    go_wp2_with fail
    refine (trim_01 s _ hs).mono ?_
    rintro e w1 ⟨⟨t, rfl, ht⟩, hb⟩
    have HB := Lib.hid hb; clear hb
    generalize s.data.toList.all is01 = b at *
    go_wp2_with fail
    go_ret
    exact ⟨ret_bool HW.out, HB.out⟩
  · have e1 : ((s.size : Int) == n) = false := by simp; exact h
    have HW : Hid (bitsB s n = false) := by simp [Hid, bitsB, h]
    clear h
    go_enter Tryz.func45, Tryz.ntmps45
    go_wp2_with fail
    go_ret
    exact ⟨ret_bool HW.out.symm, Below.refl _ _⟩
theorem bits_take_succ (s : ByteArray) (k : Nat) (h : k < s.size) : (s.data.toList.take (k + 1)).all is01 = ((s.data.toList.take k).all is01 && is01 s[k]) := by
  rw [List.take_succ_eq_append_getElem (by simpa using h), List.all_append]
  simp
  rfl
theorem l1Bits_any (s : ByteArray) (n : Int) (w : World) (hs : s.size ≤ 9223372036854775807) :
    Calls Tryz.prog 289 #[.string s, .int .i64 n] w fun e w' => e = .returned (.bool (bitsB s n)) ∧ w = w' := by
  go_enter Tryz.func289, Tryz.ntmps289
  go_wp2_with fail
  go_loop [5] (fun i => ∃ k : Nat, k ≤ s.size ∧ i = .int .i64 k ∧ Hid ((s.data.toList.take k).all is01 = true)) (fun i => s.size - (intOf i).toNat)
  case atStart => exact ⟨0, by omega, rfl, rfl⟩
  case round =>
    obtain ⟨k, hk, rfl, HK⟩ := hrel
    by_cases hlt : k < s.size
    · have HS := Lib.hid (bits_take_succ s k hlt)
      obtain ⟨c, hc⟩ : ∃ c, s[k] = c := ⟨_, rfl⟩
      have HC := Lib.hid hc
      by_cases hx : c = 48
      · have e1 : ((c.toNat : Int) == 48) = true := by rw [hx]; rfl
        have e1' : ((c.toNat : Int) != 48) = false := by rw [hx]; rfl
        have HX := Lib.hid hx; clear hx
        go_wp2_with fail
        go_round
        case rel =>
          refine ⟨k + 1, by omega, by go_num, ?_⟩
          rw [HS.out, HK.out, HC.out, HX.out]; rfl
        case measure => simp [intOf]; omega
      · have hx' : c.toNat ≠ 48 := fun h => hx (UInt8.toNat_inj.1 h)
        have e1 : ((c.toNat : Int) == 48) = false := by simp; omega
        have e1' : ((c.toNat : Int) != 48) = true := by simp; omega
        by_cases hy : c = 49
        · have e2 : ((c.toNat : Int) == 49) = true := by rw [hy]; rfl
          have e2' : ((c.toNat : Int) != 49) = false := by rw [hy]; rfl
          have HY := Lib.hid hy; clear hx hy hx'
          go_wp2_with fail
          go_round
          case rel =>
            refine ⟨k + 1, by omega, by go_num, ?_⟩
            rw [HS.out, HK.out, HC.out, HY.out]; rfl
          case measure => simp [intOf]; omega
        · have hy' : c.toNat ≠ 49 := fun h => hy (UInt8.toNat_inj.1 h)
          have e2 : ((c.toNat : Int) == 49) = false := by simp; omega
          have e2' : ((c.toNat : Int) != 49) = true := by simp; omega
          have HR : Hid (bitsB s n = false) := by
            have h1 : is01 s[k] = false := by rw [HC.out]; simp [is01, hx, hy]
            have h2 : s.data.toList.all is01 = false := by
              rw [← Bool.not_eq_true, List.all_eq_true]
              intro h
              have := h s[k] (by
                show s.data[k] ∈ s.data.toList
                simp)
              rw [h1] at this; cases this
            simp [Hid, bitsB, h2]
          clear hx hy hx' hy'
          go_wp2_with fail
          go_ret
          exact ⟨ret_bool HR.out.symm, rfl⟩
    · have HR : Hid (bitsB s n = ((s.size : Int) == n)) := by
        have h := HK.out
        rw [List.take_of_length_le (by simp; omega)] at h
        simp [Hid, bitsB, h]
        rfl
      go_wp2_with fail
      go_ret
      exact ⟨ret_bool HR.out.symm, rfl⟩
theorem isStructure_any (n : Int) (S R : ByteArray) (w : World) (hS : S.size ≤ 9223372036854775807) (hR : R.size ≤ 9223372036854775807) :
    Calls Tryz.prog 23 #[strV n S R] w fun e w' => e = .returned (.bool (validB n S R)) ∧ Below w.heap.size w w' := by
  unfold strV
  by_cases h1 : 1 ≤ n
  · by_cases h8 : n ≤ 8
    · have HI := Lib.hid (inB_true h1 h8)
      have hw : IntKind.i64.wrap (n * n) = n * n := IntWalk.i64_in _ (by
        have a1 : n * n ≤ 8 * 8 := Int.mul_le_mul h8 h8 (by omega) (by omega)
        have a2 : 0 ≤ n * n := Int.mul_nonneg (by omega) (by omega)
        omega)
      cases h2 : bitsB S n
      · have HE := Lib.hid h2
        have HV : Hid (validB n S R = false) := by simp [Hid, validB, h2]
        clear h2
        go_enter Tryz.func23, Tryz.ntmps23
        go_wp2_with fail
        refine (areBits_any S n _ hS).mono ?_; rintro e w1 ⟨rfl, hb⟩
        have hb' : Below w.heap.size w w1 := ((Below.refl _ _).alloc (Nat.le_refl _) _).trans (hb.mono (by simp))
        have HB := Lib.hid hb'; clear hb'
        rw [HE.out]
        go_wp2_with fail
        go_ret
        exact ⟨ret_bool HV.out.symm, HB.out⟩
      · have HE := Lib.hid h2
        have HV : Hid (bitsB R (n * n) = validB n S R) := by simp [Hid, validB, h2, HI.out]
        clear h2
        go_enter Tryz.func23, Tryz.ntmps23
        go_wp2_with fail
        refine (areBits_any S n _ hS).mono ?_; rintro e w1 ⟨rfl, hb⟩
        have hR1 : SBlk w1 w.heap.size n S R := (SBlk.new w n S R).below hb (by simp)
        have hb' : Below w.heap.size w w1 := ((Below.refl _ _).alloc (Nat.le_refl _) _).trans (hb.mono (by simp))
        have HB := Lib.hid hb'; clear hb' hb
        obtain ⟨c0, c1, c2, f0, f1, f2, hs1⟩ := hR1.cells
        clear hR1
        rw [HE.out]
        go_wp2_with fail
        refine (areBits_any R (n * n) _ hR).mono ?_; rintro e w2 ⟨rfl, hb⟩
        have HB2 := Lib.hid (HB.out.trans (hb.mono HB.out.size)); clear hb
        generalize bitsB R (n * n) = b at *
        go_wp2_with fail
        go_ret
        exact ⟨ret_bool HV.out, HB2.out⟩
    · have HI := Lib.hid (inB_hi (lo := 1) h8)
      go_enter Tryz.func23, Tryz.ntmps23
      go_wp2_with fail
      go_ret
      exact ⟨ret_bool (by simp [validB, HI.out]), (Below.refl _ _).alloc (Nat.le_refl _) _⟩
  · have HI := Lib.hid (inB_lo (hi := 8) h1)
    go_enter Tryz.func23, Tryz.ntmps23
    go_wp2_with fail
    go_ret
    exact ⟨ret_bool (by simp [validB, HI.out]), (Below.refl _ _).alloc (Nat.le_refl _) _⟩
theorem specValid_any (n : Int) (S R : ByteArray) (w : World) (hS : S.size ≤ 9223372036854775807) (hR : R.size ≤ 9223372036854775807) :
    Calls Tryz.prog 230 #[strV n S R] w fun e w' => e = .returned (.bool (validB n S R)) ∧ Below w.heap.size w w' := by
  unfold strV
  cases h1 : inB n 1 8
  · have HI := Lib.hid h1
    have HV : Hid (validB n S R = false) := by simp [Hid, validB, h1]
    clear h1
    go_enter Tryz.func230, Tryz.ntmps230
    go_wp2_with fail
    refine (l1In_any _ _ _ _).mono ?_; rintro e w' ⟨rfl, rfl⟩
    rw [HI.out]
    go_wp2_with fail
    go_ret
    exact ⟨ret_bool HV.out.symm, (Below.refl _ _).alloc (Nat.le_refl _) _⟩
  · have HI := Lib.hid h1
    have hw : IntKind.i64.wrap (n * n) = n * n := IntWalk.i64_in _ (by
      obtain ⟨a1, a8⟩ := inB_iff.1 h1
      have a1 : n * n ≤ 8 * 8 := Int.mul_le_mul a8 a8 (by omega) (by omega)
      have a2 : 0 ≤ n * n := Int.mul_nonneg (by omega) (by omega)
      omega)
    cases h2 : bitsB S n
    · have HE := Lib.hid h2
      have HV : Hid (validB n S R = false) := by simp [Hid, validB, h2]
      clear h1 h2
      go_enter Tryz.func230, Tryz.ntmps230
      go_wp2_with fail
      refine (l1In_any _ _ _ _).mono ?_; rintro e w' ⟨rfl, rfl⟩
      rw [HI.out]
      go_wp2_with fail
      refine (l1Bits_any S n _ hS).mono ?_; rintro e w' ⟨rfl, rfl⟩
      rw [HE.out]
      go_wp2_with fail
      go_ret
      exact ⟨ret_bool HV.out.symm, (Below.refl _ _).alloc (Nat.le_refl _) _⟩
    · have HE := Lib.hid h2
      have HV : Hid (bitsB R (n * n) = validB n S R) := by simp [Hid, validB, h2, h1]
      clear h1 h2
      go_enter Tryz.func230, Tryz.ntmps230
      go_wp2_with fail
      refine (l1In_any _ _ _ _).mono ?_; rintro e w' ⟨rfl, rfl⟩
      rw [HI.out]
      go_wp2_with fail
      refine (l1Bits_any S n _ hS).mono ?_; rintro e w' ⟨rfl, rfl⟩
      rw [HE.out]
      go_wp2_with fail
      refine (l1Bits_any R (n * n) _ hR).mono ?_; rintro e w' ⟨rfl, rfl⟩
      generalize bitsB R (n * n) = b at *
      go_wp2_with fail
      go_ret
      exact ⟨ret_bool HV.out, (Below.refl _ _).alloc (Nat.le_refl _) _⟩
end Go.Proofs.YtofmagiahmmmgaaGreatDoor

namespace Go.Proofs.YtofmagiahmmmgaaGreatDoor
open Go.RowKit
/-- How far a test holds from k on, for at most so many numbers. -/
def cnt (p : Nat → Bool) : Nat → Nat → Nat
  | 0, k => k
  | f + 1, k => if p k then cnt p f (k + 1) else k
end Go.Proofs.YtofmagiahmmmgaaGreatDoor

namespace Go.Proofs.YtofmagiahmmmgaaGreatDoor
open Go.RowKit
theorem ba_assoc (a b c : ByteArray) : a ++ b ++ c = a ++ (b ++ c) := by
  apply ByteArray.ext
  simp [ByteArray.data_append, Array.append_assoc]
theorem ba_nil (a : ByteArray) : a ++ ByteArray.empty = a := by
  apply ByteArray.ext
  simp
theorem nil_ba (a : ByteArray) : ByteArray.empty ++ a = a := by
  apply ByteArray.ext
  simp
/-- A text n times. -/
def rep (s : ByteArray) : Nat → ByteArray
  | 0 => ByteArray.empty
  | n + 1 => s ++ rep s n
theorem rep_double (s : ByteArray) (n : Nat) : rep (s ++ s) n = rep s (2 * n) := by
  induction n with
  | zero => rfl
  | succ n ih =>
    rw [show 2 * (n + 1) = 2 * n + 1 + 1 by omega]
    simp only [rep, ih, ba_assoc]
theorem rep_size (s : ByteArray) (n : Nat) : (rep s n).size = n * s.size := by
  induction n with
  | zero => simp [rep]
  | succ n ih => simp only [rep, ByteArray.size_append, ih, Nat.succ_mul]; omega
theorem many_step (out s T : ByteArray) (m : Nat) (h : out ++ rep s m = T) : (if m % 2 = 1 then out ++ s else out) ++ rep (s ++ s) (m / 2) = T := by
  rw [rep_double]
  by_cases h1 : m % 2 = 1
  · rw [if_pos h1, ba_assoc, ← h]
    congr 1
    rw [show m = 2 * (m / 2) + 1 by omega]
    show s ++ rep s (2 * ((2 * (m / 2) + 1) / 2)) = rep s (2 * (m / 2) + 1)
    rw [show (2 * (m / 2) + 1) / 2 = m / 2 by omega]
    rfl
  · rw [if_neg h1, ← h, show 2 * (m / 2) = m by omega]
theorem l15Many_any (s : ByteArray) (n : Nat) (w : World) (hs : s.size ≤ 100) (hn : n ≤ 100) :
    Calls Tryz.prog 41 #[.string s, .int .i64 (n : Int)] w fun e w' => e = .returned (.string (rep s n)) ∧ w = w' := by
  obtain ⟨T, hT⟩ : ∃ T, rep s n = T := ⟨_, rfl⟩
  have HT := Lib.hid hT
  rw [hT]; clear hT
  go_enter Tryz.func41, Tryz.ntmps41
  go_wp2_with fail
  go_loop [0, 1, 5] (fun a b c => ∃ (t out : ByteArray) (m : Nat), a = .string t ∧ b = .int .i64 m ∧ c = .string out ∧ m ≤ 100 ∧ (0 < m → t.size ≤ 10000) ∧ out.size ≤ 10000 ∧ Hid (out ++ rep t m = T) ∧ Hid (T.size ≤ 10000)) (fun _ b _ => (intOf b).toNat)
  case atStart =>
    refine ⟨s, ByteArray.empty, n, rfl, rfl, rfl, hn, fun _ => by omega, by simp, ?_, ?_⟩
    · show ByteArray.empty ++ rep s n = T
      rw [nil_ba]; exact HT.out
    · show T.size ≤ 10000
      rw [← HT.out, rep_size]
      exact Nat.mul_le_mul hn hs
  case round =>
    obtain ⟨t, out, m, rfl, rfl, rfl, hm, ht, ho, HO, HZ⟩ := hrel
    by_cases h0 : 0 < m
    · have ht := ht h0
      have HS := Lib.hid (many_step out t T m HO.out)
      have HB : Hid (0 < m / 2 → (t ++ t).size ≤ 10000) := by
        intro h
        have h1 := congrArg ByteArray.size HO.out
        rw [ByteArray.size_append, rep_size] at h1
        have h2 := HZ.out
        have h3 : 2 * t.size ≤ m * t.size := Nat.mul_le_mul_right _ (by omega)
        rw [ByteArray.size_append]
        omega
      have HC : Hid (m % 2 = 1 → (out ++ t).size ≤ 10000) := by
        intro h
        have h1 := congrArg ByteArray.size HO.out
        rw [ByteArray.size_append, rep_size] at h1
        have h2 := HZ.out
        have h3 : 1 * t.size ≤ m * t.size := Nat.mul_le_mul_right _ (by omega)
        rw [ByteArray.size_append]
        omega
      by_cases h1 : m % 2 = 1
      · have e1 : ((m : Int) % 2 == 1) = true := by simp; omega
        have HC' := Lib.hid (HC.out h1)
        have HS' : Hid (out ++ t ++ rep (t ++ t) (m / 2) = T) := by
          have := HS.out
          rw [if_pos h1] at this
          exact this
        clear h1 HS HC
        go_wp2_with fail
        go_round
        case rel => exact ⟨t ++ t, out ++ t, m / 2, rfl, by go_num, rfl, by omega, HB.out, HC'.out, HS'.out, HZ.out⟩
        case measure => simp [intOf]; omega
      · have e1 : ((m : Int) % 2 == 1) = false := by simp; omega
        have HS' : Hid (out ++ rep (t ++ t) (m / 2) = T) := by
          have := HS.out
          rw [if_neg h1] at this
          exact this
        clear h1 HS HC
        go_wp2_with fail
        go_round
        case rel => exact ⟨t ++ t, out, m / 2, rfl, by go_num, rfl, by omega, HB.out, ho, HS'.out, HZ.out⟩
        case measure => simp [intOf]; omega
    · have hm0 : m = 0 := by omega
      subst hm0
      have HE : Hid (out = T) := by
        have h := HO.out
        show out = T
        simpa [rep, ba_nil] using h
      clear ht
      go_wp2_with fail
      go_ret
      exact ⟨by rw [← HE.out]; rfl, rfl⟩
end Go.Proofs.YtofmagiahmmmgaaGreatDoor

namespace Go.Proofs.YtofmagiahmmmgaaGreatDoor
open Go.RowKit
set_option linter.unusedVariables false
theorem valid_is {n : Nat} {S R : ByteArray} (h : validB n S R = true) : 1 ≤ n ∧ n ≤ 8 ∧ S.size = n ∧ R.size = n * n ∧ bitsB S n = true ∧ bitsB R (n * n : Nat) = true := by
  simp only [validB, Bool.and_eq_true, inB_iff] at h
  obtain ⟨⟨h1, h8⟩, h2, h3⟩ := h
  have h3' : bitsB R ((n * n : Nat) : Int) = true := by rw [Int.natCast_mul]; exact h3
  refine ⟨by omega, by omega, ?_, ?_, h2, h3'⟩
  · simp only [bitsB, Bool.and_eq_true, decide_eq_true_eq] at h2
    omega
  · simp only [bitsB, Bool.and_eq_true, decide_eq_true_eq] at h3'
    omega
theorem bitsB_bitsOf (f : Nat → Bool) (n : Nat) : bitsB (bitsOf f n) n = true := by
  simp only [bitsB, Bool.and_eq_true, decide_eq_true_eq, bitsOf_size, true_and]
  rw [List.all_eq_true]
  intro c hc
  have hc : c ∈ (List.range n).map fun i => bit (f i) := hc
  obtain ⟨i, _, rfl⟩ := List.mem_map.1 hc
  cases f i
  · rfl
  · rfl
end Go.Proofs.YtofmagiahmmmgaaGreatDoor

/- Contracts of the program's functions and what they compute: part 7. Conditions: those that each theorem states. -/
import Derived.Test.YtdcnpjekmnlgjaaGreatDoorP56n6
import Derived.Test.YtdcnpjekmnlgjaaGreatDoorP56n5
import Derived.Deep.LoopGhost
import Derived.StillTailTactics
import Derived.Lib.ItoaNum
namespace Go.Proofs.YtdcnpjekmnlgjaaGreatDoor
open Go.RowKit
/-- How far a test holds from k on, for at most so many numbers. -/
def cnt (p : Nat → Bool) : Nat → Nat → Nat
  | 0, k => k
  | f + 1, k => if p k then cnt p f (k + 1) else k
end Go.Proofs.YtdcnpjekmnlgjaaGreatDoor

namespace Go.Proofs.YtdcnpjekmnlgjaaGreatDoor
open Go.RowKit
theorem ba_assoc (a b c : ByteArray) : a ++ b ++ c = a ++ (b ++ c) := by
  apply ByteArray.ext
  simp [ByteArray.data_append, Array.append_assoc]
theorem ba_nil (a : ByteArray) : a ++ ByteArray.empty = a := by
  apply ByteArray.ext
  simp
theorem nil_ba (a : ByteArray) : ByteArray.empty ++ a = a := by
  apply ByteArray.ext
  simp
/-- A text n times. -/
def rep (s : ByteArray) : Nat → ByteArray
  | 0 => ByteArray.empty
  | n + 1 => s ++ rep s n
theorem rep_double (s : ByteArray) (n : Nat) : rep (s ++ s) n = rep s (2 * n) := by
  induction n with
  | zero => rfl
  | succ n ih =>
    rw [show 2 * (n + 1) = 2 * n + 1 + 1 by omega]
    simp only [rep, ih, ba_assoc]
theorem rep_size (s : ByteArray) (n : Nat) : (rep s n).size = n * s.size := by
  induction n with
  | zero => simp [rep]
  | succ n ih => simp only [rep, ByteArray.size_append, ih, Nat.succ_mul]; omega
theorem many_step (out s T : ByteArray) (m : Nat) (h : out ++ rep s m = T) : (if m % 2 = 1 then out ++ s else out) ++ rep (s ++ s) (m / 2) = T := by
  rw [rep_double]
  by_cases h1 : m % 2 = 1
  · rw [if_pos h1, ba_assoc, ← h]
    congr 1
    rw [show m = 2 * (m / 2) + 1 by omega]
    show s ++ rep s (2 * ((2 * (m / 2) + 1) / 2)) = rep s (2 * (m / 2) + 1)
    rw [show (2 * (m / 2) + 1) / 2 = m / 2 by omega]
    rfl
  · rw [if_neg h1, ← h, show 2 * (m / 2) = m by omega]
theorem l15Many_any (s : ByteArray) (n : Nat) (w : World) (hs : s.size ≤ 100) (hn : n ≤ 100) :
    Calls Tryz.prog 73 #[.string s, .int .i64 (n : Int)] w fun e w' => e = .returned (.string (rep s n)) ∧ w = w' := by
  obtain ⟨T, hT⟩ : ∃ T, rep s n = T := ⟨_, rfl⟩
  have HT := Lib.hid hT
  rw [hT]; clear hT
  go_enter Tryz.func73, Tryz.ntmps73
  go_wp2_with fail
  go_loop [0, 1, 5] (fun a b c => ∃ (t out : ByteArray) (m : Nat), a = .string t ∧ b = .int .i64 m ∧ c = .string out ∧ m ≤ 100 ∧ (0 < m → t.size ≤ 10000) ∧ out.size ≤ 10000 ∧ Hid (out ++ rep t m = T) ∧ Hid (T.size ≤ 10000)) (fun _ b _ => (intOf b).toNat)
  case atStart =>
    refine ⟨s, ByteArray.empty, n, rfl, rfl, rfl, hn, fun _ => by omega, by simp, ?_, ?_⟩
    · show ByteArray.empty ++ rep s n = T
      rw [nil_ba]; exact HT.out
    · show T.size ≤ 10000
      rw [← HT.out, rep_size]
      exact Nat.mul_le_mul hn hs
  case round =>
    obtain ⟨t, out, m, rfl, rfl, rfl, hm, ht, ho, HO, HZ⟩ := hrel
    by_cases h0 : 0 < m
    · have ht := ht h0
      have HS := Lib.hid (many_step out t T m HO.out)
      have HB : Hid (0 < m / 2 → (t ++ t).size ≤ 10000) := by
        intro h
        have h1 := congrArg ByteArray.size HO.out
        rw [ByteArray.size_append, rep_size] at h1
        have h2 := HZ.out
        have h3 : 2 * t.size ≤ m * t.size := Nat.mul_le_mul_right _ (by omega)
        rw [ByteArray.size_append]
        omega
      have HC : Hid (m % 2 = 1 → (out ++ t).size ≤ 10000) := by
        intro h
        have h1 := congrArg ByteArray.size HO.out
        rw [ByteArray.size_append, rep_size] at h1
        have h2 := HZ.out
        have h3 : 1 * t.size ≤ m * t.size := Nat.mul_le_mul_right _ (by omega)
        rw [ByteArray.size_append]
        omega
      by_cases h1 : m % 2 = 1
      · have e1 : ((m : Int) % 2 == 1) = true := by simp; omega
        have HC' := Lib.hid (HC.out h1)
        have HS' : Hid (out ++ t ++ rep (t ++ t) (m / 2) = T) := by
          have := HS.out
          rw [if_pos h1] at this
          exact this
        clear h1 HS HC
        go_wp2_with fail
        go_round
        case rel => exact ⟨t ++ t, out ++ t, m / 2, rfl, by go_num, rfl, by omega, HB.out, HC'.out, HS'.out, HZ.out⟩
        case measure => simp [intOf]; omega
      · have e1 : ((m : Int) % 2 == 1) = false := by simp; omega
        have HS' : Hid (out ++ rep (t ++ t) (m / 2) = T) := by
          have := HS.out
          rw [if_neg h1] at this
          exact this
        clear h1 HS HC
        go_wp2_with fail
        go_round
        case rel => exact ⟨t ++ t, out, m / 2, rfl, by go_num, rfl, by omega, HB.out, ho, HS'.out, HZ.out⟩
        case measure => simp [intOf]; omega
    · have hm0 : m = 0 := by omega
      subst hm0
      have HE : Hid (out = T) := by
        have h := HO.out
        show out = T
        simpa [rep, ba_nil] using h
      clear ht
      go_wp2_with fail
      go_ret
      exact ⟨by rw [← HE.out]; rfl, rfl⟩
end Go.Proofs.YtdcnpjekmnlgjaaGreatDoor

namespace Go.Proofs.YtdcnpjekmnlgjaaGreatDoor
open Go.RowKit
set_option linter.unusedVariables false
theorem valid_is {n : Nat} {S R : ByteArray} (h : validB n S R = true) : 1 ≤ n ∧ n ≤ 8 ∧ S.size = n ∧ R.size = n * n ∧ bitsB S n = true ∧ bitsB R (n * n : Nat) = true := by
  simp only [validB, Bool.and_eq_true, inB_iff] at h
  obtain ⟨⟨h1, h8⟩, h2, h3⟩ := h
  have h3' : bitsB R ((n * n : Nat) : Int) = true := by rw [Int.natCast_mul]; exact h3
  refine ⟨by omega, by omega, ?_, ?_, h2, h3'⟩
  · simp only [bitsB, Bool.and_eq_true, decide_eq_true_eq] at h2
    omega
  · simp only [bitsB, Bool.and_eq_true, decide_eq_true_eq] at h3'
    omega
theorem bitsB_bitsOf (f : Nat → Bool) (n : Nat) : bitsB (bitsOf f n) n = true := by
  simp only [bitsB, Bool.and_eq_true, decide_eq_true_eq, bitsOf_size, true_and]
  rw [List.all_eq_true]
  intro c hc
  have hc : c ∈ (List.range n).map fun i => bit (f i) := hc
  obtain ⟨i, _, rfl⟩ := List.mem_map.1 hc
  cases f i
  · rfl
  · rfl
theorem valid_bits {n : Nat} (h1 : 1 ≤ n) (h8 : n ≤ 8) (s : Nat → Bool) (r : Nat → Nat → Bool) : validB n (bitsOf s n) (gridOf r n) = true := by
  simp only [validB, Bool.and_eq_true]
  refine ⟨inB_iff.2 ⟨by omega, by omega⟩, bitsB_bitsOf _ _, ?_⟩
  rw [← Int.natCast_mul]
  exact bitsB_bitsOf _ _
end Go.Proofs.YtdcnpjekmnlgjaaGreatDoor

namespace Go.Proofs.YtdcnpjekmnlgjaaGreatDoor.Gs
/-- A structure: how many elements, which are in the set, which are related. -/
structure St where
  n : Nat
  s : Nat → Bool
  r : Nat → Nat → Bool
def bitU (b : Bool) : UInt8 := if b then 49 else 48
/-- The atoms of an element behind others. -/
def atomsAt (a : St) (asL : List Nat) (x : Nat) : List UInt8 :=
  bitU (a.s x) :: ((asL ++ [x]).flatMap fun y => [bitU (decide (x = y)), bitU (a.r x y), bitU (a.r y x)])
def atomsTo (a : St) (asL : List Nat) : Nat → List UInt8
  | 0 => []
  | i + 1 => atomsTo a asL i ++ atomsAt a (asL.take i) (asL.getD i 0)
/-- The atoms of a list. -/
def atoms (a : St) (asL : List Nat) : List UInt8 := atomsTo a asL asL.length
end Go.Proofs.YtdcnpjekmnlgjaaGreatDoor.Gs

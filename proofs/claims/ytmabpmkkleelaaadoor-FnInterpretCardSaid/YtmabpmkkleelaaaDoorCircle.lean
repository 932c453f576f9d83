/- Circles: l15Many, the circles of the program and of the reference, CircleOf, and the law FnExactCircleOf: it returns true. No condition but that the integers fit their kind. -/
import Derived.Test.YtmabpmkkleelaaaDoorBits
import Derived.Test.YtmabpmkkleelaaaDoorOrd
namespace Go.Proofs.YtmabpmkkleelaaaDoor
open Go.RowKit

theorem ba_assoc (a b c : ByteArray) : a ++ b ++ c = a ++ (b ++ c) := by
  apply ByteArray.ext
  simp [ByteArray.data_append, Array.append_assoc]
theorem ba_nil (a : ByteArray) : a ++ ByteArray.empty = a := by
  apply ByteArray.ext
  simp
theorem nil_ba (a : ByteArray) : ByteArray.empty ++ a = a := by
  apply ByteArray.ext
  simp
/-- A text n times. -/
def rep (s : ByteArray) : Nat → ByteArray
  | 0 => ByteArray.empty
  | n + 1 => s ++ rep s n
theorem rep_double (s : ByteArray) (n : Nat) : rep (s ++ s) n = rep s (2 * n) := by
  induction n with
  | zero => rfl
  | succ n ih =>
    rw [show 2 * (n + 1) = 2 * n + 1 + 1 by omega]
    simp only [rep, ih, ba_assoc]
theorem rep_size (s : ByteArray) (n : Nat) : (rep s n).size = n * s.size := by
  induction n with
  | zero => simp [rep]
  | succ n ih => simp only [rep, ByteArray.size_append, ih, Nat.succ_mul]; omega

theorem many_step (out s T : ByteArray) (m : Nat) (h : out ++ rep s m = T) : (if m % 2 = 1 then out ++ s else out) ++ rep (s ++ s) (m / 2) = T := by
  rw [rep_double]
  by_cases h1 : m % 2 = 1
  · rw [if_pos h1, ba_assoc, ← h]
    congr 1
    rw [show m = 2 * (m / 2) + 1 by omega]
    show s ++ rep s (2 * ((2 * (m / 2) + 1) / 2)) = rep s (2 * (m / 2) + 1)
    rw [show (2 * (m / 2) + 1) / 2 = m / 2 by omega]
    rfl
  · rw [if_neg h1, ← h, show 2 * (m / 2) = m by omega]

theorem l15Many_any (s : ByteArray) (n : Nat) (w : World) (hs : s.size ≤ 100) (hn : n ≤ 100) :
    Calls Tryd.prog 168 #[.string s, .int .i64 (n : Int)] w fun e w' => e = .returned (.string (rep s n)) ∧ w = w' := by
  obtain ⟨T, hT⟩ : ∃ T, rep s n = T := ⟨_, rfl⟩
  have HT := Lib.hid hT
  rw [hT]; clear hT
  go_enter Tryd.func168, Tryd.ntmps168
  go_wp2_with fail
  go_loop [0, 1, 5] (fun a b c => ∃ (t out : ByteArray) (m : Nat), a = .string t ∧ b = .int .i64 m ∧ c = .string out ∧ m ≤ 100 ∧ (0 < m → t.size ≤ 10000) ∧ out.size ≤ 10000 ∧ Hid (out ++ rep t m = T) ∧ Hid (T.size ≤ 10000)) (fun _ b _ => (intOf b).toNat)
  case atStart =>
    refine ⟨s, ByteArray.empty, n, rfl, rfl, rfl, hn, fun _ => by omega, by simp, ?_, ?_⟩
    · show ByteArray.empty ++ rep s n = T
      rw [nil_ba]; exact HT.out
    · show T.size ≤ 10000
      rw [← HT.out, rep_size]
      exact Nat.mul_le_mul hn hs
  case round =>
    obtain ⟨t, out, m, rfl, rfl, rfl, hm, ht, ho, HO, HZ⟩ := hrel
    by_cases h0 : 0 < m
    · have ht := ht h0
      have HS := Lib.hid (many_step out t T m HO.out)
      have HB : Hid (0 < m / 2 → (t ++ t).size ≤ 10000) := by
        intro h
        have h1 := congrArg ByteArray.size HO.out
        rw [ByteArray.size_append, rep_size] at h1
        have h2 := HZ.out
        have h3 : 2 * t.size ≤ m * t.size := Nat.mul_le_mul_right _ (by omega)
        rw [ByteArray.size_append]
        omega
      have HC : Hid (m % 2 = 1 → (out ++ t).size ≤ 10000) := by
        intro h
        have h1 := congrArg ByteArray.size HO.out
        rw [ByteArray.size_append, rep_size] at h1
        have h2 := HZ.out
        have h3 : 1 * t.size ≤ m * t.size := Nat.mul_le_mul_right _ (by omega)
        rw [ByteArray.size_append]
        omega
      by_cases h1 : m % 2 = 1
      · have e1 : ((m : Int) % 2 == 1) = true := by simp; omega
        have HC' := Lib.hid (HC.out h1)
        have HS' : Hid (out ++ t ++ rep (t ++ t) (m / 2) = T) := by
          have := HS.out
          rw [if_pos h1] at this
          exact this
        clear h1 HS HC
        go_wp2_with fail
        go_round
        case rel => exact ⟨t ++ t, out ++ t, m / 2, rfl, by go_num, rfl, by omega, HB.out, HC'.out, HS'.out, HZ.out⟩
        case measure => simp [intOf]; omega
      · have e1 : ((m : Int) % 2 == 1) = false := by simp; omega
        have HS' : Hid (out ++ rep (t ++ t) (m / 2) = T) := by
          have := HS.out
          rw [if_neg h1] at this
          exact this
        clear h1 HS HC
        go_wp2_with fail
        go_round
        case rel => exact ⟨t ++ t, out, m / 2, rfl, by go_num, rfl, by omega, HB.out, ho, HS'.out, HZ.out⟩
        case measure => simp [intOf]; omega
    · have hm0 : m = 0 := by omega
      subst hm0
      have HE : Hid (out = T) := by
        have h := HO.out
        show out = T
        simpa [rep, ba_nil] using h
      clear ht
      go_wp2_with fail
      go_ret
      exact ⟨by rw [← HE.out]; rfl, rfl⟩

theorem mod_beq (n x y : Nat) : (((x : Int) + 1) % (n : Int) == (y : Int)) = decide ((x + 1) % n = y) := by
  rw [show ((x : Int) + 1) = ((x + 1 : Nat) : Int) by omega, ← Int.natCast_emod]
  generalize (x + 1) % n = k
  rw [Bool.eq_iff_iff, beq_iff_eq, decide_eq_true_eq]
  omega
/-- Whether two places of a circle of n are next to each other. -/
def nextB (n x y : Nat) : Bool := decide ((x + 1) % n = y) || decide ((y + 1) % n = x)

def circleV (n : Nat) : Value := strV n (bitsOf (fun _ => false) n) (gridOf (nextB n) n)

end Go.Proofs.YtmabpmkkleelaaaDoor

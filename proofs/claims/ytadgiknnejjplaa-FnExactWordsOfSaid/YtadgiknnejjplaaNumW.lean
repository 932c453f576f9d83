/- The reference's l12Word: the word with a number. Condition: at most eight letters. -/
import Derived.Test.YtadgiknnejjplaaWords
import Derived.Test.YtadgiknnejjplaaNum
import Derived.IntWalk
namespace Go.Proofs.Ytadgiknnejjplaa
open Go.RowKit
set_option linter.unusedVariables false

theorem b_assoc' (a b c : ByteArray) : a ++ b ++ c = a ++ (b ++ c) := by
  apply ByteArray.ext
  simp [ByteArray.data_append, Array.append_assoc]
theorem b_nil' (a : ByteArray) : a ++ ByteArray.empty = a := by
  apply ByteArray.ext
  simp
/-- The letter of a bit. -/
def letS (b : Nat) : ByteArray := if b = 0 then ⟨#[120]⟩ else ⟨#[121]⟩
/-- The word with a number. -/
def numW : Nat → Nat → ByteArray
  | 0, _ => ByteArray.empty
  | l + 1, n => numW l (n / 2) ++ letS (n % 2)
theorem numW_all : ∀ l, (List.range (2 ^ l)).map (numW l) = allW l
  | 0 => rfl
  | l + 1 => by
    have ih := numW_all l
    have h : ∀ m, (List.range (2 * m)).map (numW (l + 1)) = ((List.range m).map (numW l)).flatMap fun u => [u ++ ⟨#[120]⟩, u ++ ⟨#[121]⟩] := by
      intro m
      induction m with
      | zero => rfl
      | succ m ih =>
        rw [show 2 * (m + 1) = 2 * m + 1 + 1 by omega, List.range_succ, List.range_succ, List.range_succ]
        simp only [List.map_append, List.flatMap_append, ih, List.map_cons, List.map_nil, List.append_assoc]
        congr 1
        simp only [numW, List.flatMap_cons, List.flatMap_nil, List.append_nil, List.cons_append, List.nil_append]
        rw [show 2 * m / 2 = m by omega, show 2 * m % 2 = 0 by omega, show (2 * m + 1) / 2 = m by omega, show (2 * m + 1) % 2 = 1 by omega]
        rfl
    rw [Nat.pow_succ, Nat.mul_comm, h, ih]
    rfl
/-- The word's last letters, from the bit i - 1 on. -/
def tailW (n : Nat) : Nat → ByteArray
  | 0 => ByteArray.empty
  | i + 1 => letS (n / 2 ^ i % 2) ++ tailW n i
theorem tailW_num (n : Nat) : ∀ l, tailW n l = numW l (n % 2 ^ l) := by
  intro l
  induction l generalizing n with
  | zero => rfl
  | succ l ih =>
    have key : ∀ n l, tailW n (l + 1) = tailW (n / 2) l ++ letS (n % 2) := by
      intro n l
      induction l with
      | zero => simp [tailW]
      | succ l ih2 =>
        rw [tailW, ih2]
        show _ = (letS (n / 2 / 2 ^ l % 2) ++ tailW (n / 2) l) ++ letS (n % 2)
        rw [b_assoc', Nat.div_div_eq_div_mul, Nat.pow_succ, Nat.mul_comm]
    rw [key, ih]
    have e1 : n % 2 ^ (l + 1) / 2 = n / 2 % 2 ^ l := by
      rw [Nat.pow_succ, Nat.mul_comm, Nat.mod_mul_right_div_self]
    have e2 : n % 2 ^ (l + 1) % 2 = n % 2 := by
      rw [Nat.pow_succ, Nat.mul_comm, Nat.mod_mul_right_mod]
    simp only [numW, e1, e2]

theorem ofInt_i64' (a : Nat) (ha : a < 9223372036854775808) : (BitVec.ofInt 64 (a : Int)).toNat = a := by
  rw [BitVec.ofInt_natCast, BitVec.toNat_ofNat]; exact Nat.mod_eq_of_lt (by omega)
theorem i64_and1 (a : Nat) (ha : a < 9223372036854775808) : bits .and .i64 (a : Int) 1 = ((a % 2 : Nat) : Int) := by
  show IntKind.i64.wrap ((BitVec.ofInt 64 (a : Int) &&& BitVec.ofInt 64 ((1 : Nat) : Int)).toNat : Int) = _
  rw [BitVec.toNat_and, ofInt_i64' a ha, ofInt_i64' 1 (by omega), Nat.and_one_is_mod]
  exact IntWalk.i64_in _ (by omega)

set_option maxRecDepth 100000 in
theorem l12Word_any (n l : Nat) (w : World) (hn : n < 2 ^ l) (hl : l ≤ 8) : Calls Try.prog 14 #[.int .i64 (n : Int), .int .i64 (l : Int)] w fun e w' => e = .returned (.string (numW l n)) ∧ w = w' := by
  have HT : Hid (tailW n l = numW l n) := by
    show _ = _
    rw [tailW_num, Nat.mod_eq_of_lt hn]
  have hn256 : n < 256 := Nat.lt_of_lt_of_le hn (pow_8 hl)
  obtain ⟨RES, hres⟩ : ∃ r, numW l n = r := ⟨_, rfl⟩
  rw [hres] at HT ⊢
  clear hres hn
  go_enter Try.func14, Try.ntmps14
  go_wp2_with fail
  go_loop [6, 5] (fun i o => ∃ (z : Int) (j : Nat) (out : ByteArray), i = .int .i64 z ∧ o = .string out ∧ -1 ≤ z ∧ z < 8 ∧ out.size ≤ 8 - j ∧ j ≤ 8 ∧ Hid (z = (j : Int) - 1) ∧ Hid (out ++ tailW n j = RES)) (fun i _ => (intOf i + 1).toNat)
  case atStart =>
    refine ⟨(l : Int) - 1, l, ByteArray.empty, rfl, rfl, by omega, by omega, by simp, hl, rfl, ?_⟩
    show ByteArray.empty ++ tailW n l = RES
    rw [HT.out]; apply ByteArray.ext; simp
  case round =>
    obtain ⟨z, j, out, rfl, rfl, hz1, hz2, ho, hj, HZ, HO⟩ := hrel
    by_cases hz : 0 ≤ z
    · obtain ⟨m, rfl⟩ := Int.eq_ofNat_of_zero_le hz
      have hjm : j = m + 1 := by have := HZ.out; omega
      have HO2 : Hid (out ++ letS (n / 2 ^ m % 2) ++ tailW n m = RES) := by
        have h := HO.out
        rw [hjm] at h
        show _ = _
        rw [b_assoc']; exact h
      have ho2 : out.size ≤ 8 - (m + 1) := by omega
      have hb := i64_and1 (n / 2 ^ m) (Nat.lt_of_le_of_lt (Nat.div_le_self _ _) (by omega))
      have hcast : ((n / 2 ^ m : Nat) : Int) = (n : Int) / 2 ^ m := by simp
      rw [hcast] at hb
      have hm2 : n / 2 ^ m % 2 = 0 ∨ n / 2 ^ m % 2 = 1 := by omega
      clear hcast HZ HO
      rcases hm2 with h0 | h0
      · rw [h0] at hb HO2
        clear h0 hjm
        have hb : bits BinOp.and IntKind.i64 ((n : Int) / 2 ^ m) 1 = 0 := hb
        go_wp2_with fail
        go_round
        case rel =>
          refine ⟨(m : Int) - 1, m, _, by go_num, rfl, by omega, by omega, ?_, by omega, rfl, ?_⟩
          · rw [ByteArray.size_append]
            have : (ByteArray.extract ⟨#[120, 121]⟩ 0 1).size = 1 := rfl
            omega
          · exact HO2.out
        case measure => simp [intOf]
      · rw [h0] at hb HO2
        clear h0 hjm
        have hb : bits BinOp.and IntKind.i64 ((n : Int) / 2 ^ m) 1 = 1 := hb
        go_wp2_with fail
        go_round
        case rel =>
          refine ⟨(m : Int) - 1, m, _, by go_num, rfl, by omega, by omega, ?_, by omega, rfl, ?_⟩
          · rw [ByteArray.size_append]
            have : (ByteArray.extract ⟨#[120, 121]⟩ 1 2).size = 1 := rfl
            omega
          · exact HO2.out
        case measure => simp [intOf]
    · have hj0 : j = 0 := by have := HZ.out; omega
      have HE : Hid (out = RES) := by
        have h := HO.out
        rw [hj0] at h
        show _ = _
        rw [← h]
        exact (b_nil' out).symm
      clear HZ HO hj0
      go_wp2_with fail
      go_ret
      exact ⟨congrArg (fun s => Ending.returned (.string s)) HE.out, rfl⟩
end Go.Proofs.Ytadgiknnejjplaa

/- The holder's map: a truth that is asked for, a formula that is new, a truth that is kept. No condition but that what is there is right. -/
import Derived.Test.YtnhlhjehocngcaaDoorMapP
import Derived.Test.YtnhlhjehocngcaaDoorFmEnd
import Derived.Test.YtnhlhjehocngcaaDoorNode
import Derived.Deep.DeepCutAuto
namespace Go.Proofs.YtnhlhjehocngcaaDoor
open Go.RowKit
set_option linter.unusedVariables false
set_option maxRecDepth 100000

section
variable {F G : Nat → Prop} {w : World} {kb : Nat} {a : Gs.St} {φ : Fm.T} {p : Nat}
theorem known_found {es : Array MapEntry} (hes : ∀ y ∈ es.toList, ∃ (k : Nat) (b : Bool), y.key = .int .i64 (k : Int) ∧ y.val = .bool b ∧ ∀ e : Fm.Env, (∀ v, e v < 8) → Fm.keyN φ e = k → b = Fm.holds a φ e) (z : Int) : Found Tryd.prog w 3 (.int .i64 z) es.toList :=
  found_int Tryd.underlying3 z _ (fun e he => by
    obtain ⟨k, b, e1, _⟩ := hes e he
    exact ⟨_, e1⟩)
end
end Go.Proofs.YtnhlhjehocngcaaDoor
/- The program's isTrue: whether a formula is true of elements, by what is known or found. Conditions: the structure is valid, the elements are its own. -/
namespace Go.Proofs.YtnhlhjehocngcaaDoor
open Go.RowKit
set_option linter.unusedVariables false

theorem ofInt_nat64 (a : Nat) (ha : a < 9223372036854775808) : (BitVec.ofInt 64 (a : Int)).toNat = a := by
  rw [BitVec.toNat_ofInt]; omega
theorem i64_and_one (a : Nat) (ha : a < 9223372036854775808) : bits .and .i64 (a : Int) 1 = ((a % 2 : Nat) : Int) := by
  show IntKind.i64.wrap ((BitVec.ofInt 64 (a : Int) &&& BitVec.ofInt 64 ((1 : Nat) : Int)).toNat : Int) = _
  rw [BitVec.toNat_and, ofInt_nat64 a ha, ofInt_nat64 1 (by omega), Nat.and_one_is_mod]
  exact IntWalk.i64_in _ (by omega)
theorem bit_cases (fr c : Nat) (hf : fr < 16) : (bits .and .i64 ((fr : Int) / (c : Int)) 1 = 0 ∧ ¬ fr / c % 2 = 1) ∨ (bits .and .i64 ((fr : Int) / (c : Int)) 1 = 1 ∧ fr / c % 2 = 1) := by
  have h := i64_and_one (fr / c) (Nat.lt_of_le_of_lt (Nat.div_le_self _ _) (by omega))
  rw [Int.natCast_ediv] at h
  rcases (show fr / c % 2 = 0 ∨ fr / c % 2 = 1 by omega) with h0 | h0
  · rw [h0] at h
    exact .inl ⟨h, by omega⟩
  · rw [h0] at h
    exact .inr ⟨h, h0⟩
theorem i64_or_nat (a b : Nat) (ha : a < 9223372036854775808) (hb : b < 9223372036854775808) : bits .or .i64 (a : Int) (b : Int) = ((a ||| b : Nat) : Int) := by
  show IntKind.i64.wrap ((BitVec.ofInt 64 (a : Int) ||| BitVec.ofInt 64 (b : Int)).toNat : Int) = _
  rw [BitVec.toNat_or, ofInt_nat64 a ha, ofInt_nat64 b hb]
  have : a ||| b < 2 ^ 63 := Nat.or_lt_two_pow ha hb
  exact IntWalk.i64_in _ (by omega)

end Go.Proofs.YtnhlhjehocngcaaDoor

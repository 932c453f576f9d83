/- Contracts of the program's functions and what they compute: part 15. Conditions: those that each theorem states. -/
import Derived.Test.YtlkemhhkcanmoaaGreatDoorP54n7
namespace Go.Proofs.YtlkemhhkcanmoaaGreatDoor
open Go.RowKit
set_option linter.unusedVariables false
/-- The first place of a byte in a text, -1 if there is none. -/
def posB (c : UInt8) : List UInt8 → Nat → Int
  | [], _ => -1
  | x :: l, k => if x = c then (k : Int) else posB c l (k + 1)
theorem posB_drop (c : UInt8) (l : List UInt8) (k : Nat) (h : k < l.length) : posB c (l.drop k) k = if l[k] = c then (k : Int) else posB c (l.drop (k + 1)) (k + 1) := by
  rw [List.drop_eq_getElem_cons h]; rfl
theorem l15FindP_any (s : ByteArray) (c : UInt8) (w : World) (hs : s.size ≤ 9223372036854775807) :
    Calls Tryz.prog 189 #[.string s, .int .u8 (c.toNat : Int)] w fun e w' => e = .returned (.int .i64 (posB c s.data.toList 0)) ∧ w' = w := by
  obtain ⟨F, hF⟩ : ∃ F, posB c s.data.toList 0 = F := ⟨_, rfl⟩
  have HF := Lib.hid hF
  rw [hF]; clear hF
  go_enter Tryz.func189, Tryz.ntmps189
  go_wp2_with fail
  go_loop [5] (fun i => ∃ k : Nat, k ≤ s.size ∧ i = .int .i64 k ∧ Hid (posB c (s.data.toList.drop k) k = F)) (fun i => s.size - (intOf i).toNat)
  case atStart => exact ⟨0, by omega, rfl, HF.out⟩
  case round =>
    obtain ⟨k, hk, rfl, HK⟩ := hrel
    by_cases hlt : k < s.size
    · have HD := Lib.hid (posB_drop c s.data.toList k (by simpa using hlt))
      obtain ⟨x, hx⟩ : ∃ x, s[k] = x := ⟨_, rfl⟩
      have hx' : s.data.toList[k]'(by simpa using hlt) = x := by rw [← hx]; rfl
      have HX : Hid (F = if x = c then (k : Int) else posB c (s.data.toList.drop (k + 1)) (k + 1)) := by
        show F = _
        rw [← HK.out, HD.out, hx']
      clear hx' HD
      by_cases hq : x = c
      · have HE : Hid ((k : Int) = F) := by show _ = _; rw [HX.out, if_pos hq]
        have e1 : ((x.toNat : Int) == (c.toNat : Int)) = true := by rw [hq]; simp
        clear HX hq
        go_wp2_with fail
        go_ret
        exact ⟨congrArg (fun s => Ending.returned (.int .i64 s)) HE.out, rfl⟩
      · have HE : Hid (posB c (s.data.toList.drop (k + 1)) (k + 1) = F) := by show _ = _; rw [HX.out, if_neg hq]
        have hq' : x.toNat ≠ c.toNat := fun h => hq (UInt8.toNat_inj.1 h)
        have e1 : ((x.toNat : Int) == (c.toNat : Int)) = false := by simp; omega
        clear HX hq hq'
        go_wp2_with fail
        go_round
        case rel => exact ⟨k + 1, by omega, by go_num, HE.out⟩
        case measure => simp [intOf]; omega
    · have HE : Hid (-1 = F) := by
        have h := HK.out
        rw [List.drop_eq_nil_of_le (by simp; omega)] at h
        exact h
      go_wp2_with fail
      go_ret
      exact ⟨congrArg (fun s => Ending.returned (.int .i64 s)) HE.out, rfl⟩
end Go.Proofs.YtlkemhhkcanmoaaGreatDoor

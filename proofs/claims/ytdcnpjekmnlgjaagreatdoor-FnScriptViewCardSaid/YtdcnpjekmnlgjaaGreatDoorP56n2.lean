/- Contracts of the program's functions and what they compute: part 2. Conditions: those that each theorem states. -/
import Derived.Test.YtdcnpjekmnlgjaaGreatDoorP56n1
import Derived.Lib.Strings
import Derived.Lib.Slices
import Derived.Lib.Walk
import Derived.Lib.Bytealg
import Derived.Lib.Split
import Derived.Lib.CutLaws
import Derived.IntWalk
import Derived.OwnWalk
import Derived.Deep.AppendLies
namespace Go.Proofs.YtdcnpjekmnlgjaaGreatDoor
open Go.RowKit
set_option linter.unusedVariables false
set_option maxHeartbeats 1000000 in
set_option maxRecDepth 100000 in
theorem liteIndexByte_any (s : ByteArray) (c : Int) (w : World) :
    Calls Tryz.prog 126 #[.string s, .int .u8 c] w fun e w' => e = .returned (.int .i64 (Lib.indexByte s.data.toList c.toNat.toUInt8)) ∧ w' = w := by
  go_enter Tryz.func126, Tryz.ntmps126
  go_wp2
  rw [run_callFunc_extern Tryz.func185 (by kernel_rfl) (by kernel_rfl) (by kernel_rfl) (e := Extern.BytealgIndexByte.indexByte) (by kernel_rfl), Lib.run_indexByteString]
  simp only [Result.andThen]
  rw [Oper.upon_value]
  go_wp2
  go_ret
  exact ⟨rfl, rfl⟩
set_option maxHeartbeats 1000000 in
theorem indexByte_any (s : ByteArray) (c : Int) (w : World) :
    Calls Tryz.prog 83 #[.string s, .int .u8 c] w fun e w' => e = .returned (.int .i64 (Lib.indexByte s.data.toList c.toNat.toUInt8)) ∧ w' = w := by
  go_enter Tryz.func83, Tryz.ntmps83
  go_wp2_with (go_at_call 126; refine (liteIndexByte_any _ _ _).mono ?_; rintro e w' ⟨rfl, rfl⟩)
  go_ret
  exact ⟨rfl, rfl⟩
set_option maxHeartbeats 2000000 in
set_option maxRecDepth 100000 in
theorem liteIndex_one (s : ByteArray) (c : UInt8) (w : World) :
    Calls Tryz.prog 131 #[.string s, .string ⟨#[c]⟩] w fun e w' => e = .returned (.int .i64 (Lib.indexByte s.data.toList c)) ∧ w' = w := by
  go_enter Tryz.func131, Tryz.ntmps131
  go_wp2_with (go_at_call 126; refine (liteIndexByte_any _ _ _).mono ?_; rintro e w' ⟨rfl, rfl⟩)
  · have h : ([c] == s.toList) = true := by assumption
    go_ret
    refine ⟨?_, rfl⟩
    have e : s.data.toList = [c] := by rw [← Lib.toList_data]; exact (beq_iff_eq.1 h).symm
    rw [e]
    simp [Lib.indexByte]
  · go_ret
    exact ⟨rfl, rfl⟩
set_option maxHeartbeats 1000000 in
theorem index_one (s : ByteArray) (c : UInt8) (w : World) :
    Calls Tryz.prog 88 #[.string s, .string ⟨#[c]⟩] w fun e w' => e = .returned (.int .i64 (Lib.indexByte s.data.toList c)) ∧ w' = w := by
  go_enter Tryz.func88, Tryz.ntmps88
  go_wp2_with (go_at_call 131; refine (liteIndex_one _ _ _).mono ?_; rintro e w' ⟨rfl, rfl⟩)
  go_ret
  exact ⟨rfl, rfl⟩
set_option maxHeartbeats 1000000 in
theorem contains_one (s : ByteArray) (c : UInt8) (w : World) :
    Calls Tryz.prog 65 #[.string s, .string ⟨#[c]⟩] w fun e w' => e = .returned (.bool (decide (0 ≤ Lib.indexByte s.data.toList c))) ∧ w' = w := by
  go_enter Tryz.func65, Tryz.ntmps65
  go_wp2_with (go_at_call 88; refine (index_one _ _ _).mono ?_; rintro e w' ⟨rfl, rfl⟩)
  go_ret
  exact ⟨rfl, rfl⟩
end Go.Proofs.YtdcnpjekmnlgjaaGreatDoor

namespace Go.Proofs.YtdcnpjekmnlgjaaGreatDoor
open Go.RowKit
set_option linter.unusedVariables false
set_option maxRecDepth 100000
/-- A byte that is not there is not found. -/
theorem index_no (c : UInt8) : ∀ l : List UInt8, c ∉ l → Lib.index l [c] = -1
  | [], _ => by simp [Lib.index]
  | b :: l, h => by
    have h1 : c ≠ b := fun e => h (by simp [e])
    have h2 := index_no c l (fun e => h (by simp [e]))
    unfold Lib.index
    rw [h2]
    have : List.isPrefixOf [c] (b :: l) = false := by simp [List.isPrefixOf, h1]
    rw [this]
    simp
/-- The first place of a byte behind others. -/
theorem index_at (c : UInt8) (r : List UInt8) : ∀ l : List UInt8, c ∉ l → Lib.index (l ++ c :: r) [c] = (l.length : Int)
  | [], _ => by simp [Lib.index, List.isPrefixOf]
  | b :: l, h => by
    have h1 : c ≠ b := fun e => h (by simp [e])
    have h2 := index_at c r l (fun e => h (by simp [e]))
    show Lib.index (b :: (l ++ c :: r)) [c] = _
    unfold Lib.index
    rw [h2]
    have : List.isPrefixOf [c] (b :: (l ++ c :: r)) = false := by simp [List.isPrefixOf, h1]
    rw [this]
    simp only [Bool.false_eq_true, ↓reduceIte, List.length_cons]
    rw [if_neg (by simp)]
    omega
/-- Lines, each with its end. -/
def linesL : List (List UInt8) → List UInt8
  | [] => []
  | l :: ls => l ++ 10 :: linesL ls
theorem linesL_append (a b : List (List UInt8)) : linesL (a ++ b) = linesL a ++ linesL b := by
  induction a with
  | nil => rfl
  | cons x a ih =>
    show x ++ 10 :: linesL (a ++ b) = (x ++ 10 :: linesL a) ++ linesL b
    rw [ih]
    simp
theorem linesL_len : ∀ ls : List (List UInt8), ls.length ≤ (linesL ls).length
  | [] => Nat.le_refl _
  | l :: ls => by
    have := linesL_len ls
    show ls.length + 1 ≤ (l ++ 10 :: linesL ls).length
    rw [List.length_append, List.length_cons]
    omega
/-- The lines of a script. -/
def linesB (ls : List ByteArray) : ByteArray := ⟨(linesL (ls.map fun s => s.data.toList)).toArray⟩
end Go.Proofs.YtdcnpjekmnlgjaaGreatDoor

namespace Go.Proofs.YtdcnpjekmnlgjaaGreatDoor
open Go.RowKit
set_option linter.unusedVariables false
set_option maxRecDepth 100000
theorem index_bytes (c : UInt8) : ∀ l : List UInt8, Lib.index l [c] = Lib.indexByte l c
  | [] => by simp [Lib.index, Lib.indexByte]
  | b :: l => by
    unfold Lib.index Lib.indexByte
    rw [index_bytes c l]
    by_cases h : b = c
    · subst h; simp [List.isPrefixOf]
    · have : List.isPrefixOf [c] (b :: l) = false := by simp [List.isPrefixOf, Ne.symm h]
      rw [this]
      simp [h]
set_option maxHeartbeats 1000000 in
/-- A text is cut at a byte that is there. -/
theorem liteCut_at (s : ByteArray) (c : UInt8) (k : Nat) (hk : Lib.indexByte s.data.toList c = (k : Int)) (hl : k < s.size) (hs : s.size ≤ 9223372036854775807) (w : World) :
    Calls Tryz.prog 89 #[.string s, .string ⟨#[c]⟩] w fun e w' => e = .returned (.tuple #[.string (s.extract 0 k), .string (s.extract (k + 1) s.size), .bool true]) ∧ Below w.heap.size w w' := by
  have HI := Lib.hid (fun w => liteIndex_one s c w)
  rw [hk] at HI
  have h1 : (⟨#[c]⟩ : ByteArray).size = 1 := rfl
  have hkI : (k : Int) ≤ (s.size : Int) := by omega
  have hk1 : (k : Int) + 1 ≤ (s.size : Int) := by omega
  have hwr : IntKind.i64.wrap ((k : Int) + 1) = (k : Int) + 1 := IntWalk.i64_in _ (by omega)
  have hsl1 : ∀ wx, (Instr.slice 9 (.string s) none (some (.int .i64 (k : Int))) none).run Tryz.prog wx = .ok (.string (s.extract 0 k)) wx := fun wx => by
    rw [run_slice_string_to_if wx _ s _ _ Tryz.underlying9, if_pos ⟨by omega, by omega⟩, Int.toNat_natCast]
  have hsl2 : ∀ wx, (Instr.slice 9 (.string s) (some (.int .i64 ((k : Int) + 1))) none none).run Tryz.prog wx = .ok (.string (s.extract (k + 1) s.size)) wx := fun wx => by
    rw [run_slice_string_from_if wx _ s _ _ Tryz.underlying9, if_pos ⟨by omega, by omega⟩, show ((k : Int) + 1).toNat = k + 1 by omega]
  clear hk
  go_enter Tryz.func89, Tryz.ntmps89
  go_wp2_with fail
  refine (HI.out _).mono ?_; rintro _ w1 ⟨rfl, hw1⟩; rw [hw1]; clear hw1 w1
  go_wp2_with fail
  go_region
  all_goals
    go_wp2_with fail
    go_ret3
    exact ⟨rfl, (Below.refl _ _).drew⟩
set_option maxHeartbeats 1000000 in
/-- A text without the byte is not cut. -/
theorem liteCut_no (s : ByteArray) (c : UInt8) (hk : Lib.indexByte s.data.toList c = -1) (w : World) :
    Calls Tryz.prog 89 #[.string s, .string ⟨#[c]⟩] w fun e w' => e = .returned (.tuple #[.string s, .string ⟨#[]⟩, .bool false]) ∧ Below w.heap.size w w' := by
  have HI := Lib.hid (fun w => liteIndex_one s c w)
  rw [hk] at HI
  clear hk
  go_enter Tryz.func89, Tryz.ntmps89
  go_wp2_with fail
  refine (HI.out _).mono ?_; rintro _ w1 ⟨rfl, hw1⟩; rw [hw1]; clear hw1 w1
  go_wp2_with fail
  go_ret3
  exact ⟨rfl, Below.refl _ _⟩
theorem cutB_at (s : ByteArray) (c : UInt8) (k : Nat) (hk : Lib.indexByte s.data.toList c = (k : Int)) (hl : k < s.size) (hs : s.size ≤ 9223372036854775807) (w : World) :
    Calls Tryz.prog 59 #[.string s, .string ⟨#[c]⟩] w fun e w' => e = .returned (.tuple #[.string (s.extract 0 k), .string (s.extract (k + 1) s.size), .bool true]) ∧ Below w.heap.size w w' := by
  have H := Lib.hid (fun w => liteCut_at s c k hk hl hs w)
  clear hk
  go_enter Tryz.func59, Tryz.ntmps59
  go_wp2_with fail
  refine (H.out _).mono ?_; rintro _ w1 ⟨rfl, hb⟩
  have HB := Lib.hid hb
  clear hb
  go_wp2_with fail
  go_ret3
  exact ⟨rfl, HB.out⟩
theorem cutB_no (s : ByteArray) (c : UInt8) (hk : Lib.indexByte s.data.toList c = -1) (w : World) :
    Calls Tryz.prog 59 #[.string s, .string ⟨#[c]⟩] w fun e w' => e = .returned (.tuple #[.string s, .string ⟨#[]⟩, .bool false]) ∧ Below w.heap.size w w' := by
  have H := Lib.hid (fun w => liteCut_no s c hk w)
  clear hk
  go_enter Tryz.func59, Tryz.ntmps59
  go_wp2_with fail
  refine (H.out _).mono ?_; rintro _ w1 ⟨rfl, hb⟩
  have HB := Lib.hid hb
  clear hb
  go_wp2_with fail
  go_ret3
  exact ⟨rfl, HB.out⟩
/-- A line with a word and a rest. -/
theorem cut_line (p r : ByteArray) (h : (32 : UInt8) ∉ p.data.toList) (hs : (p ++ ⟨#[32]⟩ ++ r).size ≤ 9223372036854775807) (w : World) :
    Calls Tryz.prog 59 #[.string (p ++ ⟨#[32]⟩ ++ r), .string ⟨#[32]⟩] w fun e w' => e = .returned (.tuple #[.string p, .string r, .bool true]) ∧ Below w.heap.size w w' := by
  have hd : (p ++ ⟨#[32]⟩ ++ r).data.toList = p.data.toList ++ 32 :: r.data.toList := by simp [ByteArray.data_append, Array.toList_append]
  have hsz : (p ++ ⟨#[32]⟩ ++ r).size = p.size + 1 + r.size := by rw [ByteArray.size_append, ByteArray.size_append]; rfl
  have h1 : Lib.indexByte (p ++ ⟨#[32]⟩ ++ r).data.toList 32 = (p.size : Int) := by
    rw [← index_bytes, hd, index_at 32 r.data.toList p.data.toList h]
    simp
  have h2 := cutB_at (p ++ ⟨#[32]⟩ ++ r) 32 p.size h1 (by omega) hs w
  have e1 : (p ++ ⟨#[32]⟩ ++ r).extract 0 p.size = p := by
    apply ByteArray.ext
    apply Array.toList_inj.1
    rw [Lib.extract_from_zero, hd]
    simp
  have e2 : (p ++ ⟨#[32]⟩ ++ r).extract (p.size + 1) (p ++ ⟨#[32]⟩ ++ r).size = r := by
    apply ByteArray.ext
    apply Array.toList_inj.1
    rw [Lib.extract_to_end, hd]
    have : p.size = p.data.toList.length := by simp
    rw [this, List.drop_append]
    simp
  rw [e1, e2] at h2
  exact h2
theorem cut_word (p : ByteArray) (h : (32 : UInt8) ∉ p.data.toList) (w : World) :
    Calls Tryz.prog 59 #[.string p, .string ⟨#[32]⟩] w fun e w' => e = .returned (.tuple #[.string p, .string ⟨#[]⟩, .bool false]) ∧ Below w.heap.size w w' :=
  cutB_no p 32 (by rw [← index_bytes]; exact index_no 32 _ h) w
end Go.Proofs.YtdcnpjekmnlgjaaGreatDoor

namespace Go.Proofs.YtdcnpjekmnlgjaaGreatDoor
open Go.RowKit
set_option linter.unusedVariables false
theorem strInfo9 : (Tryz.prog.info? 9).map (fun i => (i.zero, i.size, i.bytes)) = some (some (.string ByteArray.empty), 1, 16) := by kernel_rfl
end Go.Proofs.YtdcnpjekmnlgjaaGreatDoor

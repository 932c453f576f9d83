/- Contracts of the program's functions and what they compute: part 2. Conditions: those that each theorem states. -/
import Derived.Test.YtdonjgjkhndfcaaGreatDoorP52n1
import Derived.Lib.Strings
import Derived.Lib.Slices
import Derived.Lib.Walk
import Derived.Lib.Bytealg
import Derived.Lib.Split
import Derived.Lib.CutLaws
import Derived.IntWalk
import Derived.OwnWalk
import Derived.Deep.AppendLies
namespace Go.Proofs.YtdonjgjkhndfcaaGreatDoor
open Go.RowKit
set_option linter.unusedVariables false
set_option maxHeartbeats 1000000 in
set_option maxRecDepth 100000 in
theorem liteIndexByte_any (s : ByteArray) (c : Int) (w : World) :
    Calls Tryz.prog 222 #[.string s, .int .u8 c] w fun e w' => e = .returned (.int .i64 (Lib.indexByte s.data.toList c.toNat.toUInt8)) ∧ w' = w := by
  go_enter Tryz.func222, Tryz.ntmps222
  go_wp2
  rw [run_callFunc_extern Tryz.func281 (by kernel_rfl) (by kernel_rfl) (by kernel_rfl) (e := Extern.BytealgIndexByte.indexByte) (by kernel_rfl), Lib.run_indexByteString]
  simp only [Result.andThen]
  rw [Oper.upon_value]
  go_wp2
  go_ret
  exact ⟨rfl, rfl⟩
set_option maxHeartbeats 2000000 in
set_option maxRecDepth 100000 in
theorem liteIndex_one (s : ByteArray) (c : UInt8) (w : World) :
    Calls Tryz.prog 149 #[.string s, .string ⟨#[c]⟩] w fun e w' => e = .returned (.int .i64 (Lib.indexByte s.data.toList c)) ∧ w' = w := by
  go_enter Tryz.func149, Tryz.ntmps149
  go_wp2_with (go_at_call 222; refine (liteIndexByte_any _ _ _).mono ?_; rintro e w' ⟨rfl, rfl⟩)
  · have h : ([c] == s.toList) = true := by assumption
    go_ret
    refine ⟨?_, rfl⟩
    have e : s.data.toList = [c] := by rw [← Lib.toList_data]; exact (beq_iff_eq.1 h).symm
    rw [e]
    simp [Lib.indexByte]
  · go_ret
    exact ⟨rfl, rfl⟩
set_option maxHeartbeats 1000000 in
theorem index_one (s : ByteArray) (c : UInt8) (w : World) :
    Calls Tryz.prog 97 #[.string s, .string ⟨#[c]⟩] w fun e w' => e = .returned (.int .i64 (Lib.indexByte s.data.toList c)) ∧ w' = w := by
  go_enter Tryz.func97, Tryz.ntmps97
  go_wp2_with (go_at_call 149; refine (liteIndex_one _ _ _).mono ?_; rintro e w' ⟨rfl, rfl⟩)
  go_ret
  exact ⟨rfl, rfl⟩
end Go.Proofs.YtdonjgjkhndfcaaGreatDoor

namespace Go.Proofs.YtdonjgjkhndfcaaGreatDoor
open Go.RowKit
set_option linter.unusedVariables false
set_option maxRecDepth 100000
/-- A byte that is not there is not found. -/
theorem index_no (c : UInt8) : ∀ l : List UInt8, c ∉ l → Lib.index l [c] = -1
  | [], _ => by simp [Lib.index]
  | b :: l, h => by
    have h1 : c ≠ b := fun e => h (by simp [e])
    have h2 := index_no c l (fun e => h (by simp [e]))
    unfold Lib.index
    rw [h2]
    have : List.isPrefixOf [c] (b :: l) = false := by simp [List.isPrefixOf, h1]
    rw [this]
    simp
/-- The first place of a byte behind others. -/
theorem index_at (c : UInt8) (r : List UInt8) : ∀ l : List UInt8, c ∉ l → Lib.index (l ++ c :: r) [c] = (l.length : Int)
  | [], _ => by simp [Lib.index, List.isPrefixOf]
  | b :: l, h => by
    have h1 : c ≠ b := fun e => h (by simp [e])
    have h2 := index_at c r l (fun e => h (by simp [e]))
    show Lib.index (b :: (l ++ c :: r)) [c] = _
    unfold Lib.index
    rw [h2]
    have : List.isPrefixOf [c] (b :: (l ++ c :: r)) = false := by simp [List.isPrefixOf, h1]
    rw [this]
    simp only [Bool.false_eq_true, ↓reduceIte, List.length_cons]
    rw [if_neg (by simp)]
    omega
/-- Lines, each with its end. -/
def linesL : List (List UInt8) → List UInt8
  | [] => []
  | l :: ls => l ++ 10 :: linesL ls
theorem linesL_append (a b : List (List UInt8)) : linesL (a ++ b) = linesL a ++ linesL b := by
  induction a with
  | nil => rfl
  | cons x a ih =>
    show x ++ 10 :: linesL (a ++ b) = (x ++ 10 :: linesL a) ++ linesL b
    rw [ih]
    simp
theorem linesL_len : ∀ ls : List (List UInt8), ls.length ≤ (linesL ls).length
  | [] => Nat.le_refl _
  | l :: ls => by
    have := linesL_len ls
    show ls.length + 1 ≤ (l ++ 10 :: linesL ls).length
    rw [List.length_append, List.length_cons]
    omega
/-- The lines of a script. -/
def linesB (ls : List ByteArray) : ByteArray := ⟨(linesL (ls.map fun s => s.data.toList)).toArray⟩
end Go.Proofs.YtdonjgjkhndfcaaGreatDoor

namespace Go.Proofs.YtdonjgjkhndfcaaGreatDoor
open Go.RowKit
set_option linter.unusedVariables false
set_option maxRecDepth 100000
theorem index_bytes (c : UInt8) : ∀ l : List UInt8, Lib.index l [c] = Lib.indexByte l c
  | [] => by simp [Lib.index, Lib.indexByte]
  | b :: l => by
    unfold Lib.index Lib.indexByte
    rw [index_bytes c l]
    by_cases h : b = c
    · subst h; simp [List.isPrefixOf]
    · have : List.isPrefixOf [c] (b :: l) = false := by simp [List.isPrefixOf, Ne.symm h]
      rw [this]
      simp [h]
set_option maxHeartbeats 1000000 in
/-- A text is cut at a byte that is there. -/
theorem liteCut_at (s : ByteArray) (c : UInt8) (k : Nat) (hk : Lib.indexByte s.data.toList c = (k : Int)) (hl : k < s.size) (hs : s.size ≤ 9223372036854775807) (w : World) :
    Calls Tryz.prog 98 #[.string s, .string ⟨#[c]⟩] w fun e w' => e = .returned (.tuple #[.string (s.extract 0 k), .string (s.extract (k + 1) s.size), .bool true]) ∧ Below w.heap.size w w' := by
  have HI := Lib.hid (fun w => liteIndex_one s c w)
  rw [hk] at HI
  have h1 : (⟨#[c]⟩ : ByteArray).size = 1 := rfl
  have hkI : (k : Int) ≤ (s.size : Int) := by omega
  have hk1 : (k : Int) + 1 ≤ (s.size : Int) := by omega
  have hwr : IntKind.i64.wrap ((k : Int) + 1) = (k : Int) + 1 := IntWalk.i64_in _ (by omega)
  have hsl1 : ∀ wx, (Instr.slice 9 (.string s) none (some (.int .i64 (k : Int))) none).run Tryz.prog wx = .ok (.string (s.extract 0 k)) wx := fun wx => by
    rw [run_slice_string_to_if wx _ s _ _ Tryz.underlying9, if_pos ⟨by omega, by omega⟩, Int.toNat_natCast]
  have hsl2 : ∀ wx, (Instr.slice 9 (.string s) (some (.int .i64 ((k : Int) + 1))) none none).run Tryz.prog wx = .ok (.string (s.extract (k + 1) s.size)) wx := fun wx => by
    rw [run_slice_string_from_if wx _ s _ _ Tryz.underlying9, if_pos ⟨by omega, by omega⟩, show ((k : Int) + 1).toNat = k + 1 by omega]
  clear hk
  go_enter Tryz.func98, Tryz.ntmps98
  go_wp2_with fail
  refine (HI.out _).mono ?_; rintro _ w1 ⟨rfl, hw1⟩; rw [hw1]; clear hw1 w1
  go_wp2_with fail
  go_region
  all_goals
    go_wp2_with fail
    go_ret3
    exact ⟨rfl, (Below.refl _ _).drew⟩
set_option maxHeartbeats 1000000 in
/-- A text without the byte is not cut. -/
theorem liteCut_no (s : ByteArray) (c : UInt8) (hk : Lib.indexByte s.data.toList c = -1) (w : World) :
    Calls Tryz.prog 98 #[.string s, .string ⟨#[c]⟩] w fun e w' => e = .returned (.tuple #[.string s, .string ⟨#[]⟩, .bool false]) ∧ Below w.heap.size w w' := by
  have HI := Lib.hid (fun w => liteIndex_one s c w)
  rw [hk] at HI
  clear hk
  go_enter Tryz.func98, Tryz.ntmps98
  go_wp2_with fail
  refine (HI.out _).mono ?_; rintro _ w1 ⟨rfl, hw1⟩; rw [hw1]; clear hw1 w1
  go_wp2_with fail
  go_ret3
  exact ⟨rfl, Below.refl _ _⟩
theorem cutB_at (s : ByteArray) (c : UInt8) (k : Nat) (hk : Lib.indexByte s.data.toList c = (k : Int)) (hl : k < s.size) (hs : s.size ≤ 9223372036854775807) (w : World) :
    Calls Tryz.prog 64 #[.string s, .string ⟨#[c]⟩] w fun e w' => e = .returned (.tuple #[.string (s.extract 0 k), .string (s.extract (k + 1) s.size), .bool true]) ∧ Below w.heap.size w w' := by
  have H := Lib.hid (fun w => liteCut_at s c k hk hl hs w)
  clear hk
  go_enter Tryz.func64, Tryz.ntmps64
  go_wp2_with fail
  refine (H.out _).mono ?_; rintro _ w1 ⟨rfl, hb⟩
  have HB := Lib.hid hb
  clear hb
  go_wp2_with fail
  go_ret3
  exact ⟨rfl, HB.out⟩
theorem cutB_no (s : ByteArray) (c : UInt8) (hk : Lib.indexByte s.data.toList c = -1) (w : World) :
    Calls Tryz.prog 64 #[.string s, .string ⟨#[c]⟩] w fun e w' => e = .returned (.tuple #[.string s, .string ⟨#[]⟩, .bool false]) ∧ Below w.heap.size w w' := by
  have H := Lib.hid (fun w => liteCut_no s c hk w)
  clear hk
  go_enter Tryz.func64, Tryz.ntmps64
  go_wp2_with fail
  refine (H.out _).mono ?_; rintro _ w1 ⟨rfl, hb⟩
  have HB := Lib.hid hb
  clear hb
  go_wp2_with fail
  go_ret3
  exact ⟨rfl, HB.out⟩
/-- A line with a word and a rest. -/
theorem cut_line (p r : ByteArray) (h : (32 : UInt8) ∉ p.data.toList) (hs : (p ++ ⟨#[32]⟩ ++ r).size ≤ 9223372036854775807) (w : World) :
    Calls Tryz.prog 64 #[.string (p ++ ⟨#[32]⟩ ++ r), .string ⟨#[32]⟩] w fun e w' => e = .returned (.tuple #[.string p, .string r, .bool true]) ∧ Below w.heap.size w w' := by
  have hd : (p ++ ⟨#[32]⟩ ++ r).data.toList = p.data.toList ++ 32 :: r.data.toList := by simp [ByteArray.data_append, Array.toList_append]
  have hsz : (p ++ ⟨#[32]⟩ ++ r).size = p.size + 1 + r.size := by rw [ByteArray.size_append, ByteArray.size_append]; rfl
  have h1 : Lib.indexByte (p ++ ⟨#[32]⟩ ++ r).data.toList 32 = (p.size : Int) := by
    rw [← index_bytes, hd, index_at 32 r.data.toList p.data.toList h]
    simp
  have h2 := cutB_at (p ++ ⟨#[32]⟩ ++ r) 32 p.size h1 (by omega) hs w
  have e1 : (p ++ ⟨#[32]⟩ ++ r).extract 0 p.size = p := by
    apply ByteArray.ext
    apply Array.toList_inj.1
    rw [Lib.extract_from_zero, hd]
    simp
  have e2 : (p ++ ⟨#[32]⟩ ++ r).extract (p.size + 1) (p ++ ⟨#[32]⟩ ++ r).size = r := by
    apply ByteArray.ext
    apply Array.toList_inj.1
    rw [Lib.extract_to_end, hd]
    have : p.size = p.data.toList.length := by simp
    rw [this, List.drop_append]
    simp
  rw [e1, e2] at h2
  exact h2
theorem cut_word (p : ByteArray) (h : (32 : UInt8) ∉ p.data.toList) (w : World) :
    Calls Tryz.prog 64 #[.string p, .string ⟨#[32]⟩] w fun e w' => e = .returned (.tuple #[.string p, .string ⟨#[]⟩, .bool false]) ∧ Below w.heap.size w w' :=
  cutB_no p 32 (by rw [← index_bytes]; exact index_no 32 _ h) w
end Go.Proofs.YtdonjgjkhndfcaaGreatDoor

namespace Go.Proofs.YtdonjgjkhndfcaaGreatDoor
open Go.RowKit
set_option linter.unusedVariables false
/-- The slice v of the world w holds the texts L; it was made since the world w0; of what w0 had nothing has turned. -/
structure Strs (w0 w : World) (v : Value) (L : List ByteArray) : Prop where
  own : w.ownsRow w0.heap.size 9 1 v L.length (L.map Value.string)
  ne : v ≠ .slice none 0 0
  old : Below w0.heap.size w0 w
theorem Strs.kept {w0 w w' : World} {v : Value} {L : List ByteArray} (h : Strs w0 w v L) (hb : Below w.heap.size w w') : Strs w0 w' v L := by
  refine ⟨h.own.kept (w' := w') (row := none) ⟨hb.os, hb.tape, hb.output, hb.size, fun i hi _ => hb.block i hi⟩ ?_, h.ne, h.old.trans (hb.mono h.old.size)⟩
  cases hv : v.ownBlock <;> simp
theorem Strs.alloc {w0 w : World} {v : Value} {L : List ByteArray} (h : Strs w0 w v L) (o : Obj) : Strs w0 (w.alloc o) v L :=
  h.kept ((Below.refl _ _).alloc (Nat.le_refl _) _)
theorem Strs.lit0 (w : World) : Strs w (w.alloc (.cells #[] 9)) (.slice (some ⟨w.heap.size, 0, none⟩) 0 0) [] :=
  ⟨World.ownsRow_made w #[] 0 (Nat.le_refl _) (by decide) rfl, by simp, (Below.refl _ _).alloc (Nat.le_refl _) _⟩
theorem Strs.cells {w0 w : World} {v : Value} {L : List ByteArray} (h : Strs w0 w v L) :
    ∃ g cap, v = .slice (some ⟨g, 0, none⟩) L.length cap ∧ w0.heap.size ≤ g ∧ g < w.heap.size ∧ L.length ≤ cap ∧ cap ≤ maxLen ∧ ∀ j (hj : j < L.length), w.cell? ⟨g, j, none⟩ = some (.string L[j]) := by
  have ho := h.own
  rcases ho.2 with ⟨h1, _⟩ | ⟨g, cap, cur, hv, hb, hg, hnc, hcm, hcs, htake⟩
  · exact absurd h1 h.ne
  · have hlt : g < w.heap.size := by
      rcases Nat.lt_or_ge g w.heap.size with h' | h'
      · exact h'
      · simp [Array.getElem?_eq_none h'] at hg
    refine ⟨g, cap, hv, hb, hlt, hnc, hcm, fun j hj => ?_⟩
    subst hv
    rw [ho.cellAt j (by omega)]
    simp [hj]
theorem strInfo9 : (Tryz.prog.info? 9).map (fun i => (i.zero, i.size, i.bytes)) = some (some (.string ByteArray.empty), 1, 16) := by kernel_rfl
theorem wpList_app1 {ops : Array Oper} {rest : List Oper} {o : Oper} {a : Act} {Q : Exit → Act → World → Prop} {w0 w : World} {v : Value} {L : List ByteArray}
    (hown : Strs w0 w v L) (hL : L.length ≤ 2000000) (hgd : o.guard = none) (s x : Operand)
    (ho : o.op = .call { callee := .builtin .append, args := #[s, x], argTypes := #[54, 54] }) (y : ByteArray)
    (B : Nat) (hB : w.heap.size = B) (hs : a.eval s = v) (hx : a.eval x = .slice (some ⟨B, 0, none⟩) 1 1)
    (h : ∀ v' w', Strs w0 w' v' (L ++ [y]) → wpList Tryz.prog ops Q rest (a.put o.dst v') w') :
    wpList Tryz.prog ops Q (o :: rest) a (w.alloc (.cells #[.string y] 9)) := by
  subst hB
  obtain ⟨i, hi, hz, h1, h2⟩ := info_parts strInfo9
  have hbase : w0.heap.size ≤ w.heap.size := hown.old.size
  refine wpList_append_own _ hgd s x 54 ho w0.heap.size 9 i (.string ByteArray.empty) 1 16 Tryz.underlying54 hi hz h1 h2 rfl (by decide) v L.length (L.map .string) hs (hown.own.alloc _) ⟨w.heap.size, 0, none⟩ 1 1 [.string y] hx rfl ?_ ?_ ?_ ?_ ?_ ?_
  · intro j u hj
    match j, hj with
    | 0, hj => simp at hj; subst hj; simp [Addr.add]
  · intro u hu
    simp at hu; subst hu; rfl
  · unfold maxLen; omega
  · omega
  · simp; omega
  · intro v' w' h2 h3 h4
    refine h v' w' ⟨?_, ?_, ?_⟩
    · simpa using h2
    · intro e
      exact hown.ne (h4.1 e).1
    · refine (hown.old.alloc hbase _).grown h3 (by simp; omega) fun k hk => ?_
      exact (hown.own.lt k hk).1
end Go.Proofs.YtdonjgjkhndfcaaGreatDoor

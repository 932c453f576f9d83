/- Contracts of the program's functions and what they compute: part 2. Conditions: those that each theorem states. -/
import Derived.Test.YtofmagiahmmmgaaGreatDoorP53n1
import Derived.Lib.Strings
import Derived.Lib.Slices
import Derived.Lib.Walk
import Derived.Lib.Bytealg
import Derived.Lib.Split
import Derived.Lib.CutLaws
import Derived.IntWalk
import Derived.OwnWalk
import Derived.Deep.AppendLies
import Derived.Laws.OwnMore
namespace Go.Proofs.YtofmagiahmmmgaaGreatDoor
open Go.RowKit
set_option linter.unusedVariables false
set_option maxHeartbeats 1000000 in
set_option maxRecDepth 100000 in
theorem liteIndexByte_any (s : ByteArray) (c : Int) (w : World) :
    Calls Tryz.prog 248 #[.string s, .int .u8 c] w fun e w' => e = .returned (.int .i64 (Lib.indexByte s.data.toList c.toNat.toUInt8)) ∧ w' = w := by
  go_enter Tryz.func248, Tryz.ntmps248
  go_wp2
  rw [run_callFunc_extern Tryz.func303 (by kernel_rfl) (by kernel_rfl) (by kernel_rfl) (e := Extern.BytealgIndexByte.indexByte) (by kernel_rfl), Lib.run_indexByteString]
  simp only [Result.andThen]
  rw [Oper.upon_value]
  go_wp2
  go_ret
  exact ⟨rfl, rfl⟩
set_option maxHeartbeats 2000000 in
set_option maxRecDepth 100000 in
theorem liteIndex_one (s : ByteArray) (c : UInt8) (w : World) :
    Calls Tryz.prog 188 #[.string s, .string ⟨#[c]⟩] w fun e w' => e = .returned (.int .i64 (Lib.indexByte s.data.toList c)) ∧ w' = w := by
  go_enter Tryz.func188, Tryz.ntmps188
  go_wp2_with (go_at_call 248; refine (liteIndexByte_any _ _ _).mono ?_; rintro e w' ⟨rfl, rfl⟩)
  · have h : ([c] == s.toList) = true := by assumption
    go_ret
    refine ⟨?_, rfl⟩
    have e : s.data.toList = [c] := by rw [← Lib.toList_data]; exact (beq_iff_eq.1 h).symm
    rw [e]
    simp [Lib.indexByte]
  · go_ret
    exact ⟨rfl, rfl⟩
set_option maxHeartbeats 1000000 in
theorem index_one (s : ByteArray) (c : UInt8) (w : World) :
    Calls Tryz.prog 111 #[.string s, .string ⟨#[c]⟩] w fun e w' => e = .returned (.int .i64 (Lib.indexByte s.data.toList c)) ∧ w' = w := by
  go_enter Tryz.func111, Tryz.ntmps111
  go_wp2_with (go_at_call 188; refine (liteIndex_one _ _ _).mono ?_; rintro e w' ⟨rfl, rfl⟩)
  go_ret
  exact ⟨rfl, rfl⟩
end Go.Proofs.YtofmagiahmmmgaaGreatDoor

namespace Go.Proofs.YtofmagiahmmmgaaGreatDoor
open Go.RowKit
set_option linter.unusedVariables false
set_option maxRecDepth 100000
/-- A byte that is not there is not found. -/
theorem index_no (c : UInt8) : ∀ l : List UInt8, c ∉ l → Lib.index l [c] = -1
  | [], _ => by simp [Lib.index]
  | b :: l, h => by
    have h1 : c ≠ b := fun e => h (by simp [e])
    have h2 := index_no c l (fun e => h (by simp [e]))
    unfold Lib.index
    rw [h2]
    have : List.isPrefixOf [c] (b :: l) = false := by simp [List.isPrefixOf, h1]
    rw [this]
    simp
/-- The first place of a byte behind others. -/
theorem index_at (c : UInt8) (r : List UInt8) : ∀ l : List UInt8, c ∉ l → Lib.index (l ++ c :: r) [c] = (l.length : Int)
  | [], _ => by simp [Lib.index, List.isPrefixOf]
  | b :: l, h => by
    have h1 : c ≠ b := fun e => h (by simp [e])
    have h2 := index_at c r l (fun e => h (by simp [e]))
    show Lib.index (b :: (l ++ c :: r)) [c] = _
    unfold Lib.index
    rw [h2]
    have : List.isPrefixOf [c] (b :: (l ++ c :: r)) = false := by simp [List.isPrefixOf, h1]
    rw [this]
    simp only [Bool.false_eq_true, ↓reduceIte, List.length_cons]
    rw [if_neg (by simp)]
    omega
/-- Lines, each with its end. -/
def linesL : List (List UInt8) → List UInt8
  | [] => []
  | l :: ls => l ++ 10 :: linesL ls
theorem linesL_append (a b : List (List UInt8)) : linesL (a ++ b) = linesL a ++ linesL b := by
  induction a with
  | nil => rfl
  | cons x a ih =>
    show x ++ 10 :: linesL (a ++ b) = (x ++ 10 :: linesL a) ++ linesL b
    rw [ih]
    simp
theorem linesL_len : ∀ ls : List (List UInt8), ls.length ≤ (linesL ls).length
  | [] => Nat.le_refl _
  | l :: ls => by
    have := linesL_len ls
    show ls.length + 1 ≤ (l ++ 10 :: linesL ls).length
    rw [List.length_append, List.length_cons]
    omega
/-- The lines of a script. -/
def linesB (ls : List ByteArray) : ByteArray := ⟨(linesL (ls.map fun s => s.data.toList)).toArray⟩
end Go.Proofs.YtofmagiahmmmgaaGreatDoor

namespace Go.Proofs.YtofmagiahmmmgaaGreatDoor
open Go.RowKit
set_option linter.unusedVariables false
set_option maxRecDepth 100000
theorem index_bytes (c : UInt8) : ∀ l : List UInt8, Lib.index l [c] = Lib.indexByte l c
  | [] => by simp [Lib.index, Lib.indexByte]
  | b :: l => by
    unfold Lib.index Lib.indexByte
    rw [index_bytes c l]
    by_cases h : b = c
    · subst h; simp [List.isPrefixOf]
    · have : List.isPrefixOf [c] (b :: l) = false := by simp [List.isPrefixOf, Ne.symm h]
      rw [this]
      simp [h]
set_option maxHeartbeats 1000000 in
/-- A text is cut at a byte that is there. -/
theorem liteCut_at (s : ByteArray) (c : UInt8) (k : Nat) (hk : Lib.indexByte s.data.toList c = (k : Int)) (hl : k < s.size) (hs : s.size ≤ 9223372036854775807) (w : World) :
    Calls Tryz.prog 112 #[.string s, .string ⟨#[c]⟩] w fun e w' => e = .returned (.tuple #[.string (s.extract 0 k), .string (s.extract (k + 1) s.size), .bool true]) ∧ Below w.heap.size w w' := by
  have HI := Lib.hid (fun w => liteIndex_one s c w)
  rw [hk] at HI
  have h1 : (⟨#[c]⟩ : ByteArray).size = 1 := rfl
  have hkI : (k : Int) ≤ (s.size : Int) := by omega
  have hk1 : (k : Int) + 1 ≤ (s.size : Int) := by omega
  have hwr : IntKind.i64.wrap ((k : Int) + 1) = (k : Int) + 1 := IntWalk.i64_in _ (by omega)
  have hsl1 : ∀ wx, (Instr.slice 9 (.string s) none (some (.int .i64 (k : Int))) none).run Tryz.prog wx = .ok (.string (s.extract 0 k)) wx := fun wx => by
    rw [run_slice_string_to_if wx _ s _ _ Tryz.underlying9, if_pos ⟨by omega, by omega⟩, Int.toNat_natCast]
  have hsl2 : ∀ wx, (Instr.slice 9 (.string s) (some (.int .i64 ((k : Int) + 1))) none none).run Tryz.prog wx = .ok (.string (s.extract (k + 1) s.size)) wx := fun wx => by
    rw [run_slice_string_from_if wx _ s _ _ Tryz.underlying9, if_pos ⟨by omega, by omega⟩, show ((k : Int) + 1).toNat = k + 1 by omega]
  clear hk
  go_enter Tryz.func112, Tryz.ntmps112
  go_wp2_with fail
  refine (HI.out _).mono ?_; rintro _ w1 ⟨rfl, hw1⟩; rw [hw1]; clear hw1 w1
  go_wp2_with fail
  go_region
  all_goals
    go_wp2_with fail
    go_ret3
    exact ⟨rfl, (Below.refl _ _).drew⟩
set_option maxHeartbeats 1000000 in
/-- A text without the byte is not cut. -/
theorem liteCut_no (s : ByteArray) (c : UInt8) (hk : Lib.indexByte s.data.toList c = -1) (w : World) :
    Calls Tryz.prog 112 #[.string s, .string ⟨#[c]⟩] w fun e w' => e = .returned (.tuple #[.string s, .string ⟨#[]⟩, .bool false]) ∧ Below w.heap.size w w' := by
  have HI := Lib.hid (fun w => liteIndex_one s c w)
  rw [hk] at HI
  clear hk
  go_enter Tryz.func112, Tryz.ntmps112
  go_wp2_with fail
  refine (HI.out _).mono ?_; rintro _ w1 ⟨rfl, hw1⟩; rw [hw1]; clear hw1 w1
  go_wp2_with fail
  go_ret3
  exact ⟨rfl, Below.refl _ _⟩
theorem cutB_at (s : ByteArray) (c : UInt8) (k : Nat) (hk : Lib.indexByte s.data.toList c = (k : Int)) (hl : k < s.size) (hs : s.size ≤ 9223372036854775807) (w : World) :
    Calls Tryz.prog 68 #[.string s, .string ⟨#[c]⟩] w fun e w' => e = .returned (.tuple #[.string (s.extract 0 k), .string (s.extract (k + 1) s.size), .bool true]) ∧ Below w.heap.size w w' := by
  have H := Lib.hid (fun w => liteCut_at s c k hk hl hs w)
  clear hk
  go_enter Tryz.func68, Tryz.ntmps68
  go_wp2_with fail
  refine (H.out _).mono ?_; rintro _ w1 ⟨rfl, hb⟩
  have HB := Lib.hid hb
  clear hb
  go_wp2_with fail
  go_ret3
  exact ⟨rfl, HB.out⟩
theorem cutB_no (s : ByteArray) (c : UInt8) (hk : Lib.indexByte s.data.toList c = -1) (w : World) :
    Calls Tryz.prog 68 #[.string s, .string ⟨#[c]⟩] w fun e w' => e = .returned (.tuple #[.string s, .string ⟨#[]⟩, .bool false]) ∧ Below w.heap.size w w' := by
  have H := Lib.hid (fun w => liteCut_no s c hk w)
  clear hk
  go_enter Tryz.func68, Tryz.ntmps68
  go_wp2_with fail
  refine (H.out _).mono ?_; rintro _ w1 ⟨rfl, hb⟩
  have HB := Lib.hid hb
  clear hb
  go_wp2_with fail
  go_ret3
  exact ⟨rfl, HB.out⟩
/-- A line with a word and a rest. -/
theorem cut_line (p r : ByteArray) (h : (32 : UInt8) ∉ p.data.toList) (hs : (p ++ ⟨#[32]⟩ ++ r).size ≤ 9223372036854775807) (w : World) :
    Calls Tryz.prog 68 #[.string (p ++ ⟨#[32]⟩ ++ r), .string ⟨#[32]⟩] w fun e w' => e = .returned (.tuple #[.string p, .string r, .bool true]) ∧ Below w.heap.size w w' := by
  have hd : (p ++ ⟨#[32]⟩ ++ r).data.toList = p.data.toList ++ 32 :: r.data.toList := by simp [ByteArray.data_append, Array.toList_append]
  have hsz : (p ++ ⟨#[32]⟩ ++ r).size = p.size + 1 + r.size := by rw [ByteArray.size_append, ByteArray.size_append]; rfl
  have h1 : Lib.indexByte (p ++ ⟨#[32]⟩ ++ r).data.toList 32 = (p.size : Int) := by
    rw [← index_bytes, hd, index_at 32 r.data.toList p.data.toList h]
    simp
  have h2 := cutB_at (p ++ ⟨#[32]⟩ ++ r) 32 p.size h1 (by omega) hs w
  have e1 : (p ++ ⟨#[32]⟩ ++ r).extract 0 p.size = p := by
    apply ByteArray.ext
    apply Array.toList_inj.1
    rw [Lib.extract_from_zero, hd]
    simp
  have e2 : (p ++ ⟨#[32]⟩ ++ r).extract (p.size + 1) (p ++ ⟨#[32]⟩ ++ r).size = r := by
    apply ByteArray.ext
    apply Array.toList_inj.1
    rw [Lib.extract_to_end, hd]
    have : p.size = p.data.toList.length := by simp
    rw [this, List.drop_append]
    simp
  rw [e1, e2] at h2
  exact h2
theorem cut_word (p : ByteArray) (h : (32 : UInt8) ∉ p.data.toList) (w : World) :
    Calls Tryz.prog 68 #[.string p, .string ⟨#[32]⟩] w fun e w' => e = .returned (.tuple #[.string p, .string ⟨#[]⟩, .bool false]) ∧ Below w.heap.size w w' :=
  cutB_no p 32 (by rw [← index_bytes]; exact index_no 32 _ h) w
end Go.Proofs.YtofmagiahmmmgaaGreatDoor

namespace Go.Proofs.YtofmagiahmmmgaaGreatDoor
open Go.RowKit
set_option linter.unusedVariables false
/-- The slice v of the world w holds the texts L; it was made since the world w0; of what w0 had nothing has turned. -/
structure Strs (w0 w : World) (v : Value) (L : List ByteArray) : Prop where
  own : w.ownsRow w0.heap.size 9 1 v L.length (L.map Value.string)
  ne : v ≠ .slice none 0 0
  old : Below w0.heap.size w0 w
theorem Strs.kept {w0 w w' : World} {v : Value} {L : List ByteArray} (h : Strs w0 w v L) (hb : Below w.heap.size w w') : Strs w0 w' v L := by
  refine ⟨h.own.kept (w' := w') (row := none) ⟨hb.os, hb.tape, hb.output, hb.size, fun i hi _ => hb.block i hi⟩ ?_, h.ne, h.old.trans (hb.mono h.old.size)⟩
  cases hv : v.ownBlock <;> simp
theorem Strs.alloc {w0 w : World} {v : Value} {L : List ByteArray} (h : Strs w0 w v L) (o : Obj) : Strs w0 (w.alloc o) v L :=
  h.kept ((Below.refl _ _).alloc (Nat.le_refl _) _)
theorem Strs.lit0 (w : World) : Strs w (w.alloc (.cells #[] 9)) (.slice (some ⟨w.heap.size, 0, none⟩) 0 0) [] :=
  ⟨World.ownsRow_made w #[] 0 (Nat.le_refl _) (by decide) rfl, by simp, (Below.refl _ _).alloc (Nat.le_refl _) _⟩
theorem Strs.cells {w0 w : World} {v : Value} {L : List ByteArray} (h : Strs w0 w v L) :
    ∃ g cap, v = .slice (some ⟨g, 0, none⟩) L.length cap ∧ w0.heap.size ≤ g ∧ g < w.heap.size ∧ L.length ≤ cap ∧ cap ≤ maxLen ∧ ∀ j (hj : j < L.length), w.cell? ⟨g, j, none⟩ = some (.string L[j]) := by
  have ho := h.own
  rcases ho.2 with ⟨h1, _⟩ | ⟨g, cap, cur, hv, hb, hg, hnc, hcm, hcs, htake⟩
  · exact absurd h1 h.ne
  · have hlt : g < w.heap.size := by
      rcases Nat.lt_or_ge g w.heap.size with h' | h'
      · exact h'
      · simp [Array.getElem?_eq_none h'] at hg
    refine ⟨g, cap, hv, hb, hlt, hnc, hcm, fun j hj => ?_⟩
    subst hv
    rw [ho.cellAt j (by omega)]
    simp [hj]
theorem strInfo9 : (Tryz.prog.info? 9).map (fun i => (i.zero, i.size, i.bytes)) = some (some (.string ByteArray.empty), 1, 16) := by kernel_rfl
theorem wpList_app1 {ops : Array Oper} {rest : List Oper} {o : Oper} {a : Act} {Q : Exit → Act → World → Prop} {w0 w : World} {v : Value} {L : List ByteArray}
    (hown : Strs w0 w v L) (hL : L.length ≤ 2000000) (hgd : o.guard = none) (s x : Operand)
    (ho : o.op = .call { callee := .builtin .append, args := #[s, x], argTypes := #[59, 59] }) (y : ByteArray)
    (B : Nat) (hB : w.heap.size = B) (hs : a.eval s = v) (hx : a.eval x = .slice (some ⟨B, 0, none⟩) 1 1)
    (h : ∀ v' w', Strs w0 w' v' (L ++ [y]) → wpList Tryz.prog ops Q rest (a.put o.dst v') w') :
    wpList Tryz.prog ops Q (o :: rest) a (w.alloc (.cells #[.string y] 9)) := by
  subst hB
  obtain ⟨i, hi, hz, h1, h2⟩ := info_parts strInfo9
  have hbase : w0.heap.size ≤ w.heap.size := hown.old.size
  refine wpList_append_own _ hgd s x 59 ho w0.heap.size 9 i (.string ByteArray.empty) 1 16 Tryz.underlying59 hi hz h1 h2 rfl (by decide) v L.length (L.map .string) hs (hown.own.alloc _) ⟨w.heap.size, 0, none⟩ 1 1 [.string y] hx rfl ?_ ?_ ?_ ?_ ?_ ?_
  · intro j u hj
    match j, hj with
    | 0, hj => simp at hj; subst hj; simp [Addr.add]
  · intro u hu
    simp at hu; subst hu; rfl
  · unfold maxLen; omega
  · omega
  · simp; omega
  · intro v' w' h2 h3 h4
    refine h v' w' ⟨?_, ?_, ?_⟩
    · simpa using h2
    · intro e
      exact hown.ne (h4.1 e).1
    · refine (hown.old.alloc hbase _).grown h3 (by simp; omega) fun k hk => ?_
      exact (hown.own.lt k hk).1
end Go.Proofs.YtofmagiahmmmgaaGreatDoor

namespace Go.Proofs.YtofmagiahmmmgaaGreatDoor
open Go.RowKit
set_option linter.unusedVariables false
set_option maxRecDepth 100000
theorem linesB_cons (l : ByteArray) (ls : List ByteArray) : (linesB (l :: ls)).data.toList = l.data.toList ++ 10 :: (linesB ls).data.toList := by simp [linesB, linesL]
theorem count_lines : ∀ ls : List ByteArray, (∀ l ∈ ls, (10 : UInt8) ∉ l.data.toList) → Lib.countByte (linesB ls).data.toList 10 = ls.length
  | [], _ => rfl
  | l :: ls, h => by
    rw [linesB_cons]
    have ih := count_lines ls (fun x hx => h x (by simp [hx]))
    unfold Lib.countByte at *
    rw [List.count_append, List.count_cons, ih, List.count_eq_zero.2 (h l (by simp))]
    simp
set_option maxHeartbeats 1000000 in
theorem count_one (s : ByteArray) (c : UInt8) (w : World) :
    Calls Tryz.prog 110 #[.string s, .string ⟨#[c]⟩] w fun e w' => e = .returned (.int .i64 (Lib.countByte s.data.toList c)) ∧ w' = w := by
  have h1 : (⟨#[c]⟩ : ByteArray).size = 1 := rfl
  go_enter Tryz.func110, Tryz.ntmps110
  go_wp2
  rw [run_callFunc_extern Tryz.func187 (by kernel_rfl) (by kernel_rfl) (by kernel_rfl) (e := Extern.BytealgCount.count) (by kernel_rfl), Lib.run_countString]
  simp only [Result.andThen]
  rw [Oper.upon_value]
  go_wp2
  go_ret
  exact ⟨rfl, rfl⟩
/-- The pieces laid so far, then empty texts. -/
def cellsAt (ls : List ByteArray) (n i : Nat) : List Value := (ls.take i).map Value.string ++ List.replicate (n - i) (.string ByteArray.empty)
theorem cellsAt_zero (ls : List ByteArray) (n : Nat) : cellsAt ls n 0 = List.replicate n (.string ByteArray.empty) := by simp [cellsAt]
theorem cellsAt_set (ls : List ByteArray) (n i : Nat) (hi : i < ls.length) (hn : ls.length ≤ n) : (cellsAt ls n i).set i (.string ls[i]) = cellsAt ls n (i + 1) := by
  unfold cellsAt
  have hl : ((ls.take i).map Value.string).length = i := by simp; omega
  rw [List.set_append_right _ _ (by omega), hl, Nat.sub_self, List.take_succ_eq_append_getElem hi, List.map_append]
  obtain ⟨d, hd⟩ : ∃ d, n - i = d + 1 := ⟨n - i - 1, by omega⟩
  rw [hd, List.replicate_succ, show n - (i + 1) = d by omega]
  simp
/-- The slice under way. -/
structure Sp (w : World) (g n : Nat) (ls : List ByteArray) (i : Nat) (wr : World) : Prop where
  own : wr.ownsRow w.heap.size 9 1 (.slice (some ⟨g, 0, none⟩) n n) n (cellsAt ls n i)
  old : Below w.heap.size w wr
theorem Sp.step {w wr : World} {g n i : Nat} {ls : List ByteArray} (h : Sp w g n ls i wr) (hi : i < ls.length) (hn : ls.length ≤ n) : Sp w g n ls (i + 1) (wr.setCell ⟨g, i, none⟩ (.string ls[i])) := by
  have h1 := h.own.stored i (.string ls[i])
  rw [cellsAt_set ls n i hi hn] at h1
  exact ⟨h1.1, h.old.setCell (h.own.lt g rfl).1 _⟩
theorem Sp.cell {w wr : World} {g n i j : Nat} {ls : List ByteArray} (h : Sp w g n ls i wr) (hj : j < n) : ∃ x, wr.cell? ⟨g, j, none⟩ = some x ∧ wr.frozen? ⟨g, j, none⟩ = false := by
  have hl := h.own.1
  refine ⟨(cellsAt ls n i)[j]'(by rw [hl]; omega), ?_, h.own.frozenAt j⟩
  rw [h.own.cellAt j (by omega)]
  exact List.getElem?_eq_getElem _
theorem sp_first {w w2 : World} {n : Nat} {ls : List ByteArray} (hown : w2.ownsRow w.heap.size 9 1 (.slice (some ⟨w.heap.size, 0, none⟩) n n) n (madeCells (Value.string ByteArray.empty).cells (n * 1)).toList) (hg : w.grownBy w2 none) : Sp w w.heap.size n ls 0 w2 := by
  rw [show (Value.string ByteArray.empty).cells = #[.string ByteArray.empty] from rfl, Nat.mul_one, toList_madeCells_one] at hown
  rw [← cellsAt_zero ls n] at hown
  exact ⟨hown, (Below.refl _ _).grown hg (Nat.le_refl _) (fun k hk => by cases hk)⟩
/-- What a split of lines gives. -/
def SplitP (w : World) (ls : List ByteArray) (e : Ending) (w' : World) : Prop := ∃ g n, e = .returned (.slice (some ⟨g, 0, none⟩) n n) ∧ n = ls.length + 1 ∧ Sp w g n (ls ++ [ByteArray.empty]) n w'
theorem linesB_drop (ls : List ByteArray) (i : Nat) (hi : i < ls.length) : ls.drop i = ls[i] :: ls.drop (i + 1) := List.drop_eq_getElem_cons hi
set_option maxHeartbeats 2000000 in
theorem genSplit_lines (ls : List ByteArray) (h : ∀ l ∈ ls, (10 : UInt8) ∉ l.data.toList) (hl : ls.length ≤ 1000) (hs : (linesB ls).size ≤ 1000000) (w : World) :
    Calls Tryz.prog 67 #[.string (linesB ls), .string ⟨#[10]⟩, .int .i64 0, .int .i64 (-1)] w (SplitP w ls) := by
  have HCO := Lib.hid (fun w => count_one (linesB ls) 10 w)
  rw [count_lines ls h] at HCO
  have hsz : ls.length ≤ (linesB ls).size := by
    have := linesL_len (ls.map fun s : ByteArray => s.data.toList)
    rw [List.length_map] at this
    exact this
  obtain ⟨i0, hi, hz, h1, h2⟩ := info_parts strInfo9
  have HI := Lib.hid (And.intro hi (And.intro hz (And.intro h1 h2)))
  clear hi hz h1 h2
  obtain ⟨N, hN⟩ : ∃ N, ls.length = N := ⟨_, rfl⟩
  obtain ⟨ZS, hZS⟩ : ∃ z, (linesB ls).size = z := ⟨_, rfl⟩
  have hmin : min ((N : Int) + 1) ((ZS : Int) + 1) = (N : Int) + 1 := by omega
  have hminb : ¬ ((ZS : Int) + 1 < (N : Int) + 1) := by omega
  have hNI : (N : Int) ≤ 1000 := by omega
  have hN1 : (N : Int) + 1 - 1 = (N : Int) := by omega
  have hZI : (ZS : Int) ≤ 1000000 := by omega
  rw [hN] at HCO
  have hsp : (⟨#[10]⟩ : ByteArray).size = 1 := rfl
  go_enter Tryz.func67, Tryz.ntmps67
  go_wp2_with fail
  refine (HCO.out _).mono ?_; rintro _ w1 ⟨rfl, hw1⟩; rw [hw1]; clear hw1 w1
  go_wp2_with (first | (refine wpList_make_full _ rfl _ _ 59 rfl w.heap.size 9 i0 (.string ByteArray.empty) 1 Tryz.underlying59 HI.out.1 HI.out.2.1 HI.out.2.2.1 .i64 .i64 ((N : Int) + 1) ((N : Int) + 1) (N + 1) rfl rfl (by omega) (by omega) (by rw [HI.out.2.2.2]; omega) (by unfold maxLen; omega) (Nat.le_refl _) ?_; intro w2 hown hgr; have HP0 : Hid (Sp w w.heap.size (N + 1) ls 0 w2) := sp_first hown hgr; clear hown hgr) | fail)
  obtain ⟨g, hg⟩ : ∃ g, w.heap.size = g := ⟨_, rfl⟩
  rw [hg] at HP0 ⊢
  have HSZ : Hid ((linesB ls).size ≤ 1000000) := hs
  have HH := Lib.hid h
  have HNE := Lib.hid hN
  have HSPL := Lib.hid (fun j (hj : j < ls.length) => linesB_drop ls j hj)
  have HLE : Hid (∀ j, (linesB (ls.drop j)).size ≤ (linesB ls).size) := fun j => by
    have e : linesL (ls.map fun s : ByteArray => s.data.toList) = linesL ((ls.take j).map fun s : ByteArray => s.data.toList) ++ linesL ((ls.drop j).map fun s : ByteArray => s.data.toList) := by
      rw [← linesL_append, ← List.map_append, List.take_append_drop]
    show (linesL ((ls.drop j).map fun s : ByteArray => s.data.toList)).toArray.size ≤ (linesL (ls.map fun s : ByteArray => s.data.toList)).toArray.size
    rw [List.size_toArray, List.size_toArray, e, List.length_append]
    omega
  clear hs h hg HCO HI hmin hminb hsz hZS hZI
  go_loopw [0, 10] (fun t q wr => ∃ j : Nat, j ≤ N ∧ q = .int .i64 (j : Int) ∧ t = .string (linesB (ls.drop j)) ∧ Hid (Sp w g (N + 1) ls j wr)) (fun _ q _ => N - (intOf q).toNat)
  case atStart => exact ⟨0, by omega, rfl, rfl, HP0.out⟩
  case round =>
    clear HP0
    obtain ⟨j, hj, rfl, rfl, HP⟩ := hrel
    by_cases hlt : j < N
    · have hjL : j < ls.length := by omega
      have hjI : (j : Int) < (N : Int) := by omega
      have hjI1 : (j : Int) < (N : Int) + 1 := by omega
      have HD : Hid ((linesB (ls.drop j)).data.toList = ls[j].data.toList ++ 10 :: (linesB (ls.drop (j + 1))).data.toList) := by
        show _ = _
        rw [HSPL.out j hjL, linesB_cons]
      have HT := HLE.out j
      have HNO := HH.out ls[j] (List.getElem_mem hjL)
      have HP1 := Lib.hid (HP.out.step hjL (by omega))
      obtain ⟨x0, x1, x2⟩ := HP.out.cell (j := j) (by omega)
      have hz1 := HSZ.out
      generalize ls[j] = PJ at *
      obtain ⟨T2, hT2⟩ : ∃ T2, linesB (ls.drop (j + 1)) = T2 := ⟨_, rfl⟩
      have HT2 := Lib.hid hT2
      rw [hT2] at HD
      clear hT2
      generalize linesB (ls.drop j) = T at *
      have hTs : T.size = PJ.size + 1 + T2.size := by
        have := congrArg List.length HD.out
        rw [List.length_append, List.length_cons] at this
        have h2 : T.size = PJ.size + (T2.size + 1) := by simpa using this
        omega
      have HIX := Lib.hid (fun w => index_one T 10 w)
      rw [← index_bytes, HD.out, index_at 10 T2.data.toList PJ.data.toList HNO] at HIX
      rw [show PJ.data.toList.length = PJ.size by simp] at HIX
      have e1 : T.extract 0 PJ.size = PJ := by
        apply ByteArray.ext
        apply Array.toList_inj.1
        rw [Lib.extract_from_zero, HD.out]
        simp
      have e2 : T.extract (PJ.size + 1) T.size = T2 := by
        apply ByteArray.ext
        apply Array.toList_inj.1
        rw [Lib.extract_to_end, HD.out]
        have : PJ.size = PJ.data.toList.length := by simp
        rw [this, List.drop_append]
        simp
      obtain ⟨k, hk⟩ : ∃ k, PJ.size = k := ⟨_, rfl⟩
      rw [hk] at HIX e1 e2 hTs
      have hkI : (k : Int) ≤ (T.size : Int) := by omega
      have hk1I : (k : Int) + 1 ≤ (T.size : Int) := by omega
      have hk0 : ¬ (k : Int) < 0 := by omega
      have hkw : IntKind.i64.wrap ((k : Int) + 1) = (k : Int) + 1 := IntWalk.i64_in _ (by omega)
      have hsl1 : ∀ wx, (Instr.slice 9 (.string T) none (some (.int .i64 (k : Int))) none).run Tryz.prog wx = .ok (.string PJ) wx := fun wx => by
        rw [run_slice_string_to_if wx _ T _ _ Tryz.underlying9, if_pos ⟨by omega, by omega⟩, Int.toNat_natCast, e1]
      have hsl2 : ∀ wx, (Instr.slice 9 (.string T) (some (.int .i64 ((k : Int) + 1))) none none).run Tryz.prog wx = .ok (.string T2) wx := fun wx => by
        rw [run_slice_string_from_if wx _ T _ _ Tryz.underlying9, if_pos ⟨by omega, by omega⟩, show ((k : Int) + 1).toNat = k + 1 by omega, e2]
      clear e1 e2 hk HNO HD
      go_wp2_with fail
      refine (HIX.out _).mono ?_; rintro _ w1 ⟨rfl, hw1⟩; rw [hw1]; clear hw1 w1
      go_wp2_with fail
      go_roundw
      case rel => exact ⟨j + 1, by omega, by go_num, by rw [HT2.out], HP1.out⟩
      case measure => simp [intOf]; omega
    · obtain rfl : j = N := by omega
      have hjI : ¬ (j : Int) < (j : Int) := by omega
      have HE : Hid (linesB (ls.drop j) = ByteArray.empty) := by
        show _ = _
        rw [← HNE.out, List.drop_length]
        rfl
      have HP1 : Hid (Sp w g (j + 1) (ls ++ [ByteArray.empty]) (j + 1) (wr.setCell ⟨g, j, none⟩ (.string ByteArray.empty))) := by
        have h1 := HP.out.own.stored j (.string ByteArray.empty)
        have e : (cellsAt ls (j + 1) j).set j (.string ByteArray.empty) = cellsAt (ls ++ [ByteArray.empty]) (j + 1) (j + 1) := by
          unfold cellsAt
          rw [← HNE.out, List.take_length, List.take_of_length_le (by simp), show ls.length + 1 - ls.length = 1 by omega, Nat.sub_self]
          simp
        rw [e] at h1
        exact ⟨h1.1, HP.out.old.setCell (HP.out.own.lt g rfl).1 _⟩
      obtain ⟨x0, x1, x2⟩ := HP.out.cell (j := j) (by omega)
      have HF : Hid (SplitP w ls (.returned (.slice (some ⟨g, 0, none⟩) (j + 1) (j + 1))) (wr.setCell ⟨g, j, none⟩ (.string ByteArray.empty))) := ⟨g, j + 1, rfl, by rw [HNE.out], HP1.out⟩
      rw [HE.out]
      clear HP1 HP HE
      go_wp2_with fail
      go_ret
      exact HF.out
theorem split_is (ls : List ByteArray) (h : ∀ l ∈ ls, (10 : UInt8) ∉ l.data.toList) (hl : ls.length ≤ 1000) (hs : (linesB ls).size ≤ 1000000) (w : World) :
    Calls Tryz.prog 33 #[.string (linesB ls), .string ⟨#[10]⟩] w (SplitP w ls) := by
  have H := Lib.hid (fun w => genSplit_lines ls h hl hs w)
  clear h hs
  go_enter Tryz.func33, Tryz.ntmps33
  go_wp2_with fail
  refine (H.out _).mono ?_; rintro _ w1 hq
  obtain ⟨g, n, rfl, hn, hsp⟩ := hq
  have HF : Hid (SplitP w ls (.returned (.slice (some ⟨g, 0, none⟩) n n)) w1) := ⟨g, n, rfl, hn, hsp⟩
  clear hn hsp
  go_wp2_with fail
  go_ret
  exact HF.out
end Go.Proofs.YtofmagiahmmmgaaGreatDoor

/- Contracts of the program's functions and what they compute: part 8. Conditions: those that each theorem states. -/
import Derived.Test.YthmhjihppbeodaaGreatDoorP7n7
import Derived.Test.YthmhjihppbeodaaGreatDoorP7n1
import Derived.Lib.Strings
import Derived.Lib.Slices
import Derived.Lib.Walk
import Derived.Lib.Bytealg
import Derived.Lib.Split
import Derived.Lib.CutLaws
import Derived.IntWalk
import Derived.OwnWalk
import Derived.Deep.AppendLies
namespace Go.Proofs.YthmhjihppbeodaaGreatDoor
open Go.RowKit
set_option linter.unusedVariables false
set_option maxRecDepth 100000
/-- What the second player chooses. -/
def fitPl (a : Gs.St) (la : List Nat) (b : Gs.St) (lb : List Nat) (x : Nat) : Option Nat := (List.range b.n).find? fun y => Gs.still a la b lb x y
def bestB (a : Gs.St) (la : List Nat) (b : Gs.St) (lb : List Nat) (k x : Nat) : Option Nat := (replyB a la b lb k x).or (fitPl a la b lb x)
theorem optV_none : optV none = .tuple #[.int .i64 0, .bool false] := rfl
theorem optV_some (y : Nat) : optV (some y) = .tuple #[.int .i64 (y : Int), .bool true] := rfl
set_option maxHeartbeats 1000000 in
theorem playReply_any (k : Nat) (hk : k ≤ 7) (n : Nat) (S R : ByteArray) (m : Nat) (S2 R2 : ByteArray) (va vb : Value) (la lb : List Nat) (x : Nat) (w : World) (hp : Pos n S R m S2 R2 la lb (k + 1))
    (hva : NumsAt w va la) (hvb : NumsAt w vb lb) (hs : Gs.same (stOf n S R) la (stOf m S2 R2) lb = true) (hx : x < n) :
    Calls Tryz.prog 23 #[strV n S R, va, strV m S2 R2, vb, .int .i64 ((k : Int) + 1), .int .i64 (x : Int)] w fun e w' => e = .returned (optV (bestB (stOf n S R) la (stOf m S2 R2) lb k x)) ∧ Below w.heap.size w w' := by
  have HR := Lib.hid (replyTo_any k (by omega) (Lib.hid (goesOn_any k (by omega))))
  have HT := Lib.hid (Two.new w n S R m S2 R2)
  unfold boxS at HT
  have r1 : ∀ w', Below w.heap.size w w' → Calls Tryz.prog 44 #[strV n S R, va, strV m S2 R2, vb, .int .i64 ((k : Int) + 1), .int .i64 (x : Int)] w' fun e w2 =>
    e = .returned (optV (replyB (stOf n S R) la (stOf m S2 R2) lb k x)) ∧ Below w'.heap.size w' w2 := by
    intro w' hb
    have h := HR.out n S R m S2 R2 va vb la lb x w' hp (hva.below hb) (hvb.below hb) hx
    rw [if_pos hs] at h
    exact h
  have st := fun y w' (hy : y < m) (hb : Below w.heap.size w w') => stillSame_any n S R m S2 R2 va vb la lb x y w' hp.hS hp.hR hp.hn hp.hS2 hp.hR2 hp.hm (hva.below hb) (hvb.below hb) hp.hl (by have := hp.hl8; omega) hp.ha hp.hb hx hy
  have hn := hp.hn; have hm := hp.hm
  have hBB : bestB (stOf n S R) la (stOf m S2 R2) lb k x = (replyB (stOf n S R) la (stOf m S2 R2) lb k x).or (fitPl (stOf n S R) la (stOf m S2 R2) lb x) := rfl
  obtain ⟨RES, hres⟩ : ∃ p, bestB (stOf n S R) la (stOf m S2 R2) lb k x = p := ⟨_, rfl⟩
  rw [hres] at hBB ⊢
  have HBB := Lib.hid hBB
  unfold strV at r1 st
  obtain ⟨K, hK⟩ : ∃ K : Int, (k : Int) + 1 = K := ⟨_, rfl⟩
  rw [hK] at r1 ⊢
  clear hK
  have HST := Lib.hid st
  clear hres hBB hp hva hvb hs HR st
  obtain ⟨c0, c1, c2, f0, f1, f2, hl1⟩ := HT.out.a.cells
  obtain ⟨d0, d1, d2, g0, g1, g2, hl2⟩ := HT.out.b.cells
  unfold strV
  cases hr : replyB (stOf n S R) la (stOf m S2 R2) lb k x with
  | some y0 =>
    rw [hr] at r1 HBB
    have R1 := Lib.hid r1
    clear r1 hr
    go_enter Tryz.func23, Tryz.ntmps23
    go_wp2_with fail
    refine (R1.out _ HT.out.old).mono ?_; rintro e w1 ⟨rfl, hb⟩
    have HT3 := Lib.hid (HT.out.below hb); clear hb
    unfold optV
    go_wp2_with fail
    go_ret2
    exact ⟨ret_v (by rw [HBB.out]; rfl), HT3.out.old⟩
  | none =>
    rw [hr] at r1 HBB
    have R1 := Lib.hid r1
    clear r1 hr
    have HB2 : Hid (RES = fitPl (stOf n S R) la (stOf m S2 R2) lb x) := HBB.out
    clear HBB
    go_enter Tryz.func23, Tryz.ntmps23
    go_wp2_with fail
    refine (R1.out _ HT.out.old).mono ?_; rintro e w1 ⟨rfl, hb⟩
    have HT3 := Lib.hid (HT.out.below hb); clear hb c0 c1 c2 f0 f1 f2 hl1 d0 d1 d2 g0 g1 g2 hl2
    obtain ⟨c0, c1, c2, f0, f1, f2, hl1⟩ := HT3.out.a.cells
    obtain ⟨d0, d1, d2, g0, g1, g2, hl2⟩ := HT3.out.b.cells
    unfold optV
    go_wp2_with fail
    go_loopw [31] (fun i wr => ∃ y : Nat, y ≤ m ∧ i = .int .i64 y ∧ Hid (Two w wr n S R m S2 R2) ∧ Hid (∀ z, z < y → Gs.still (stOf n S R) la (stOf m S2 R2) lb x z = false)) (fun i _ => m - (intOf i).toNat)
    case atStart => exact ⟨0, by omega, rfl, HT3.out, fun j hj => by omega⟩
    case round =>
      obtain ⟨y, hy, rfl, HT2, HK⟩ := hrel
      clear c0 c1 c2 f0 f1 f2 hl1 d0 d1 d2 g0 g1 g2 hl2
      by_cases hlt : y < m
      · have j1 := HST.out y
        have HF := Lib.hid (fun h => find_at (p := fun z => Gs.still (stOf n S R) la (stOf m S2 R2) lb x z) hlt HK.out h)
        obtain ⟨c, hc⟩ : ∃ c, Gs.still (stOf n S R) la (stOf m S2 R2) lb x y = c := ⟨_, rfl⟩
        rw [hc] at j1
        have HC := Lib.hid hc
        have J1 := Lib.hid j1
        clear j1 hc
        obtain ⟨c0, c1, c2, f0, f1, f2, hl1⟩ := HT2.out.a.cells
        obtain ⟨d0, d1, d2, g0, g1, g2, hl2⟩ := HT2.out.b.cells
        cases c
        · go_wp2_with fail
          refine (J1.out _ hlt HT2.out.old).mono ?_; rintro e w1 ⟨rfl, hb⟩
          have HT5 := Lib.hid (HT2.out.below hb); clear hb
          go_wp2_with fail
          go_roundw
          case rel =>
            refine ⟨y + 1, by omega, by go_num, HT5.out, fun z hz => ?_⟩
            by_cases hzy : z = y
            · rw [hzy]; exact HC.out
            · exact HK.out z (by omega)
          case measure => simp [intOf]; omega
        · go_wp2_with fail
          refine (J1.out _ hlt HT2.out.old).mono ?_; rintro e w1 ⟨rfl, hb⟩
          have HT5 := Lib.hid (HT2.out.below hb); clear hb
          have HE : Hid (RES = some y) := HB2.out.trans (HF.out HC.out)
          go_wp2_with fail
          go_ret2
          exact ⟨ret_v (by rw [HE.out]; rfl), HT5.out.old⟩
      · have HE : Hid (RES = none) := HB2.out.trans (by
          unfold fitPl
          rw [List.find?_eq_none]
          intro z hz
          have hz : z < m := List.mem_range.1 hz
          simp [HK.out z (by omega)])
        obtain ⟨d0, d1, d2, g0, g1, g2, hl2⟩ := HT2.out.b.cells
        clear HK
        go_wp2_with fail
        go_ret2
        exact ⟨ret_v (by rw [HE.out]; rfl), HT2.out.old⟩
end Go.Proofs.YthmhjihppbeodaaGreatDoor

namespace Go.Proofs.YthmhjihppbeodaaGreatDoor
open Go.RowKit
set_option linter.unusedVariables false
set_option maxHeartbeats 1000000 in
set_option maxRecDepth 100000 in
theorem liteIndexByte_any (s : ByteArray) (c : Int) (w : World) :
    Calls Tryz.prog 202 #[.string s, .int .u8 c] w fun e w' => e = .returned (.int .i64 (Lib.indexByte s.data.toList c.toNat.toUInt8)) ∧ w' = w := by
  go_enter Tryz.func202, Tryz.ntmps202
  go_wp2
  rw [run_callFunc_extern Tryz.func257 (by kernel_rfl) (by kernel_rfl) (by kernel_rfl) (e := Extern.BytealgIndexByte.indexByte) (by kernel_rfl), Lib.run_indexByteString]
  simp only [Result.andThen]
  rw [Oper.upon_value]
  go_wp2
  go_ret
  exact ⟨rfl, rfl⟩
set_option maxHeartbeats 2000000 in
set_option maxRecDepth 100000 in
theorem liteIndex_one (s : ByteArray) (c : UInt8) (w : World) :
    Calls Tryz.prog 144 #[.string s, .string ⟨#[c]⟩] w fun e w' => e = .returned (.int .i64 (Lib.indexByte s.data.toList c)) ∧ w' = w := by
  go_enter Tryz.func144, Tryz.ntmps144
  go_wp2_with (go_at_call 202; refine (liteIndexByte_any _ _ _).mono ?_; rintro e w' ⟨rfl, rfl⟩)
  · have h : ([c] == s.toList) = true := by assumption
    go_ret
    refine ⟨?_, rfl⟩
    have e : s.data.toList = [c] := by rw [← Lib.toList_data]; exact (beq_iff_eq.1 h).symm
    rw [e]
    simp [Lib.indexByte]
  · go_ret
    exact ⟨rfl, rfl⟩
set_option maxHeartbeats 1000000 in
theorem index_one (s : ByteArray) (c : UInt8) (w : World) :
    Calls Tryz.prog 88 #[.string s, .string ⟨#[c]⟩] w fun e w' => e = .returned (.int .i64 (Lib.indexByte s.data.toList c)) ∧ w' = w := by
  go_enter Tryz.func88, Tryz.ntmps88
  go_wp2_with (go_at_call 144; refine (liteIndex_one _ _ _).mono ?_; rintro e w' ⟨rfl, rfl⟩)
  go_ret
  exact ⟨rfl, rfl⟩
end Go.Proofs.YthmhjihppbeodaaGreatDoor

namespace Go.Proofs.YthmhjihppbeodaaGreatDoor
open Go.RowKit
set_option linter.unusedVariables false
set_option maxRecDepth 100000
/-- The first place of a byte behind others. -/
theorem index_at (c : UInt8) (r : List UInt8) : ∀ l : List UInt8, c ∉ l → Lib.index (l ++ c :: r) [c] = (l.length : Int)
  | [], _ => by simp [Lib.index, List.isPrefixOf]
  | b :: l, h => by
    have h1 : c ≠ b := fun e => h (by simp [e])
    have h2 := index_at c r l (fun e => h (by simp [e]))
    show Lib.index (b :: (l ++ c :: r)) [c] = _
    unfold Lib.index
    rw [h2]
    have : List.isPrefixOf [c] (b :: (l ++ c :: r)) = false := by simp [List.isPrefixOf, h1]
    rw [this]
    simp only [Bool.false_eq_true, ↓reduceIte, List.length_cons]
    rw [if_neg (by simp)]
    omega
/-- Lines, each with its end. -/
def linesL : List (List UInt8) → List UInt8
  | [] => []
  | l :: ls => l ++ 10 :: linesL ls
theorem linesL_append (a b : List (List UInt8)) : linesL (a ++ b) = linesL a ++ linesL b := by
  induction a with
  | nil => rfl
  | cons x a ih =>
    show x ++ 10 :: linesL (a ++ b) = (x ++ 10 :: linesL a) ++ linesL b
    rw [ih]
    simp
theorem linesL_len : ∀ ls : List (List UInt8), ls.length ≤ (linesL ls).length
  | [] => Nat.le_refl _
  | l :: ls => by
    have := linesL_len ls
    show ls.length + 1 ≤ (l ++ 10 :: linesL ls).length
    rw [List.length_append, List.length_cons]
    omega
/-- The lines of a script. -/
def linesB (ls : List ByteArray) : ByteArray := ⟨(linesL (ls.map fun s => s.data.toList)).toArray⟩
end Go.Proofs.YthmhjihppbeodaaGreatDoor

namespace Go.Proofs.YthmhjihppbeodaaGreatDoor
open Go.RowKit
set_option linter.unusedVariables false
set_option maxRecDepth 100000
theorem index_bytes (c : UInt8) : ∀ l : List UInt8, Lib.index l [c] = Lib.indexByte l c
  | [] => by simp [Lib.index, Lib.indexByte]
  | b :: l => by
    unfold Lib.index Lib.indexByte
    rw [index_bytes c l]
    by_cases h : b = c
    · subst h; simp [List.isPrefixOf]
    · have : List.isPrefixOf [c] (b :: l) = false := by simp [List.isPrefixOf, Ne.symm h]
      rw [this]
      simp [h]
set_option maxHeartbeats 1000000 in
/-- A text is cut at a byte that is there. -/
theorem liteCut_at (s : ByteArray) (c : UInt8) (k : Nat) (hk : Lib.indexByte s.data.toList c = (k : Int)) (hl : k < s.size) (hs : s.size ≤ 9223372036854775807) (w : World) :
    Calls Tryz.prog 89 #[.string s, .string ⟨#[c]⟩] w fun e w' => e = .returned (.tuple #[.string (s.extract 0 k), .string (s.extract (k + 1) s.size), .bool true]) ∧ Below w.heap.size w w' := by
  have HI := Lib.hid (fun w => liteIndex_one s c w)
  rw [hk] at HI
  have h1 : (⟨#[c]⟩ : ByteArray).size = 1 := rfl
  have hkI : (k : Int) ≤ (s.size : Int) := by omega
  have hk1 : (k : Int) + 1 ≤ (s.size : Int) := by omega
  have hwr : IntKind.i64.wrap ((k : Int) + 1) = (k : Int) + 1 := IntWalk.i64_in _ (by omega)
  have hsl1 : ∀ wx, (Instr.slice 9 (.string s) none (some (.int .i64 (k : Int))) none).run Tryz.prog wx = .ok (.string (s.extract 0 k)) wx := fun wx => by
    rw [run_slice_string_to_if wx _ s _ _ Tryz.underlying9, if_pos ⟨by omega, by omega⟩, Int.toNat_natCast]
  have hsl2 : ∀ wx, (Instr.slice 9 (.string s) (some (.int .i64 ((k : Int) + 1))) none none).run Tryz.prog wx = .ok (.string (s.extract (k + 1) s.size)) wx := fun wx => by
    rw [run_slice_string_from_if wx _ s _ _ Tryz.underlying9, if_pos ⟨by omega, by omega⟩, show ((k : Int) + 1).toNat = k + 1 by omega]
  clear hk
  go_enter Tryz.func89, Tryz.ntmps89
  go_wp2_with fail
  refine (HI.out _).mono ?_; rintro _ w1 ⟨rfl, hw1⟩; rw [hw1]; clear hw1 w1
  go_wp2_with fail
  go_region
  all_goals
    go_wp2_with fail
    go_ret3
    exact ⟨rfl, (Below.refl _ _).drew⟩
theorem cutB_at (s : ByteArray) (c : UInt8) (k : Nat) (hk : Lib.indexByte s.data.toList c = (k : Int)) (hl : k < s.size) (hs : s.size ≤ 9223372036854775807) (w : World) :
    Calls Tryz.prog 58 #[.string s, .string ⟨#[c]⟩] w fun e w' => e = .returned (.tuple #[.string (s.extract 0 k), .string (s.extract (k + 1) s.size), .bool true]) ∧ Below w.heap.size w w' := by
  have H := Lib.hid (fun w => liteCut_at s c k hk hl hs w)
  clear hk
  go_enter Tryz.func58, Tryz.ntmps58
  go_wp2_with fail
  refine (H.out _).mono ?_; rintro _ w1 ⟨rfl, hb⟩
  have HB := Lib.hid hb
  clear hb
  go_wp2_with fail
  go_ret3
  exact ⟨rfl, HB.out⟩
/-- A line with a word and a rest. -/
theorem cut_line (p r : ByteArray) (h : (32 : UInt8) ∉ p.data.toList) (hs : (p ++ ⟨#[32]⟩ ++ r).size ≤ 9223372036854775807) (w : World) :
    Calls Tryz.prog 58 #[.string (p ++ ⟨#[32]⟩ ++ r), .string ⟨#[32]⟩] w fun e w' => e = .returned (.tuple #[.string p, .string r, .bool true]) ∧ Below w.heap.size w w' := by
  have hd : (p ++ ⟨#[32]⟩ ++ r).data.toList = p.data.toList ++ 32 :: r.data.toList := by simp [ByteArray.data_append, Array.toList_append]
  have hsz : (p ++ ⟨#[32]⟩ ++ r).size = p.size + 1 + r.size := by rw [ByteArray.size_append, ByteArray.size_append]; rfl
  have h1 : Lib.indexByte (p ++ ⟨#[32]⟩ ++ r).data.toList 32 = (p.size : Int) := by
    rw [← index_bytes, hd, index_at 32 r.data.toList p.data.toList h]
    simp
  have h2 := cutB_at (p ++ ⟨#[32]⟩ ++ r) 32 p.size h1 (by omega) hs w
  have e1 : (p ++ ⟨#[32]⟩ ++ r).extract 0 p.size = p := by
    apply ByteArray.ext
    apply Array.toList_inj.1
    rw [Lib.extract_from_zero, hd]
    simp
  have e2 : (p ++ ⟨#[32]⟩ ++ r).extract (p.size + 1) (p ++ ⟨#[32]⟩ ++ r).size = r := by
    apply ByteArray.ext
    apply Array.toList_inj.1
    rw [Lib.extract_to_end, hd]
    have : p.size = p.data.toList.length := by simp
    rw [this, List.drop_append]
    simp
  rw [e1, e2] at h2
  exact h2
end Go.Proofs.YthmhjihppbeodaaGreatDoor

namespace Go.Proofs.YthmhjihppbeodaaGreatDoor
open Go.RowKit
set_option linter.unusedVariables false
/-- The slice v of the world w holds the texts L; it was made since the world w0; of what w0 had nothing has turned. -/
structure Strs (w0 w : World) (v : Value) (L : List ByteArray) : Prop where
  own : w.ownsRow w0.heap.size 9 1 v L.length (L.map Value.string)
  ne : v ≠ .slice none 0 0
  old : Below w0.heap.size w0 w
theorem Strs.kept {w0 w w' : World} {v : Value} {L : List ByteArray} (h : Strs w0 w v L) (hb : Below w.heap.size w w') : Strs w0 w' v L := by
  refine ⟨h.own.kept (w' := w') (row := none) ⟨hb.os, hb.tape, hb.output, hb.size, fun i hi _ => hb.block i hi⟩ ?_, h.ne, h.old.trans (hb.mono h.old.size)⟩
  cases hv : v.ownBlock <;> simp
theorem Strs.alloc {w0 w : World} {v : Value} {L : List ByteArray} (h : Strs w0 w v L) (o : Obj) : Strs w0 (w.alloc o) v L :=
  h.kept ((Below.refl _ _).alloc (Nat.le_refl _) _)
theorem Strs.lit0 (w : World) : Strs w (w.alloc (.cells #[] 9)) (.slice (some ⟨w.heap.size, 0, none⟩) 0 0) [] :=
  ⟨World.ownsRow_made w #[] 0 (Nat.le_refl _) (by decide) rfl, by simp, (Below.refl _ _).alloc (Nat.le_refl _) _⟩
theorem Strs.cells {w0 w : World} {v : Value} {L : List ByteArray} (h : Strs w0 w v L) :
    ∃ g cap, v = .slice (some ⟨g, 0, none⟩) L.length cap ∧ w0.heap.size ≤ g ∧ g < w.heap.size ∧ L.length ≤ cap ∧ cap ≤ maxLen ∧ ∀ j (hj : j < L.length), w.cell? ⟨g, j, none⟩ = some (.string L[j]) := by
  have ho := h.own
  rcases ho.2 with ⟨h1, _⟩ | ⟨g, cap, cur, hv, hb, hg, hnc, hcm, hcs, htake⟩
  · exact absurd h1 h.ne
  · have hlt : g < w.heap.size := by
      rcases Nat.lt_or_ge g w.heap.size with h' | h'
      · exact h'
      · simp [Array.getElem?_eq_none h'] at hg
    refine ⟨g, cap, hv, hb, hlt, hnc, hcm, fun j hj => ?_⟩
    subst hv
    rw [ho.cellAt j (by omega)]
    simp [hj]
theorem strInfo9 : (Tryz.prog.info? 9).map (fun i => (i.zero, i.size, i.bytes)) = some (some (.string ByteArray.empty), 1, 16) := by kernel_rfl
theorem wpList_app1 {ops : Array Oper} {rest : List Oper} {o : Oper} {a : Act} {Q : Exit → Act → World → Prop} {w0 w : World} {v : Value} {L : List ByteArray}
    (hown : Strs w0 w v L) (hL : L.length ≤ 2000000) (hgd : o.guard = none) (s x : Operand)
    (ho : o.op = .call { callee := .builtin .append, args := #[s, x], argTypes := #[46, 46] }) (y : ByteArray)
    (B : Nat) (hB : w.heap.size = B) (hs : a.eval s = v) (hx : a.eval x = .slice (some ⟨B, 0, none⟩) 1 1)
    (h : ∀ v' w', Strs w0 w' v' (L ++ [y]) → wpList Tryz.prog ops Q rest (a.put o.dst v') w') :
    wpList Tryz.prog ops Q (o :: rest) a (w.alloc (.cells #[.string y] 9)) := by
  subst hB
  obtain ⟨i, hi, hz, h1, h2⟩ := info_parts strInfo9
  have hbase : w0.heap.size ≤ w.heap.size := hown.old.size
  refine wpList_append_own _ hgd s x 46 ho w0.heap.size 9 i (.string ByteArray.empty) 1 16 Tryz.underlying46 hi hz h1 h2 rfl (by decide) v L.length (L.map .string) hs (hown.own.alloc _) ⟨w.heap.size, 0, none⟩ 1 1 [.string y] hx rfl ?_ ?_ ?_ ?_ ?_ ?_
  · intro j u hj
    match j, hj with
    | 0, hj => simp at hj; subst hj; simp [Addr.add]
  · intro u hu
    simp at hu; subst hu; rfl
  · unfold maxLen; omega
  · omega
  · simp; omega
  · intro v' w' h2 h3 h4
    refine h v' w' ⟨?_, ?_, ?_⟩
    · simpa using h2
    · intro e
      exact hown.ne (h4.1 e).1
    · refine (hown.old.alloc hbase _).grown h3 (by simp; omega) fun k hk => ?_
      exact (hown.own.lt k hk).1
end Go.Proofs.YthmhjihppbeodaaGreatDoor

/- Contracts of the program's functions and what they compute: part 3. Conditions: those that each theorem states. -/
import Derived.Test.YtofmagiahmmmgaaGreatDoorP53n1
import Derived.Test.YtofmagiahmmmgaaGreatDoorP53n2
import Derived.Deep.Cut
import Derived.Deep.RegionHeld3
import Derived.Deep.DeepCutAuto
import Derived.Laws.ResultCell
import Derived.OneCell
import Derived.IntWalk
namespace Go.Proofs.YtofmagiahmmmgaaGreatDoor
open Go.RowKit
set_option linter.unusedVariables false
set_option maxRecDepth 100000
/-- What a desk holds. -/
structure DS where
  n : Int
  S : ByteArray
  R : ByteArray
  m : Int
  T : ByteArray
  U : ByteArray
  f : ByteArray
/-- A desk in block d. -/
structure DeskAt (w : World) (d : Nat) (a : DS) : Prop where
  blk : w.heap[d]? = some (.cells #[.int .i64 a.n, .string a.S, .string a.R, .int .i64 a.m, .string a.T, .string a.U, .string a.f] 64 (0, 0))
theorem DeskAt.lt {w : World} {d : Nat} {a : DS} (h : DeskAt w d a) : d < w.heap.size := (Array.getElem?_eq_some_iff.1 h.blk).1
theorem DeskAt.below {w w' : World} {d : Nat} {a : DS} (h : DeskAt w d a) (hb : Below w.heap.size w w') : DeskAt w' d a := ⟨(hb.block d h.lt).trans h.blk⟩
/-- A line is answered: the desk turns, nothing else that was there. -/
def RunOK (w0 : World) (l : ByteArray) (a b : DS) (o : ByteArray) : Prop := ∀ (W : World) (d : Nat), w0.heap.size ≤ d → Below w0.heap.size w0 W → DeskAt W d a →
  Calls Tryz.prog 34 #[.pointer (some ⟨d, 0, none⟩), .string l] W fun e w' => e = .returned (.string o) ∧ DeskAt w' d b ∧ Off (fun x => x = d) W w'
/-- Lines are answered one behind the other. -/
def Steps (w0 : World) : DS → List ByteArray → List ByteArray → Prop
  | _, [], [] => True
  | a, l :: ls, o :: os => ∃ b, RunOK w0 l a b o ∧ Steps w0 b ls os
  | _, _, _ => False
/-- The answers, each with its end. -/
def outT (os : List ByteArray) : ByteArray := os.foldl (fun t o => t ++ (o ++ ⟨#[10]⟩)) ByteArray.empty
theorem outT_snoc (os : List ByteArray) (o : ByteArray) : outT (os ++ [o]) = outT os ++ (o ++ ⟨#[10]⟩) := by
  unfold outT
  rw [List.foldl_append]
  rfl
theorem Steps.len {w0 : World} : ∀ {a : DS} {ls os : List ByteArray}, Steps w0 a ls os → ls.length = os.length
  | _, [], [], _ => rfl
  | _, l :: ls, o :: os, h => by
    obtain ⟨b, _, h2⟩ := h
    simp [h2.len]
  | _, [], _ :: _, h => h.elim
  | _, _ :: _, [], h => h.elim
/-- What the script's loop keeps. -/
structure Sk (w : World) (d g n : Nat) (ls os : List ByteArray) (j : Nat) (wr : World) : Prop where
  desk : ∃ a, DeskAt wr d a ∧ Steps w a (ls.drop j) (os.drop j)
  cells : ∀ i (hi : i < ls.length), wr.cell? ⟨g, i, none⟩ = some (.string ls[i])
  last : wr.cell? ⟨g, ls.length, none⟩ = some (.string ByteArray.empty)
  old : Below w.heap.size w wr
  lo : w.heap.size ≤ d
  ne : g ≠ d
  gl : g < wr.heap.size
theorem Sk.step {w wr w' : World} {d g n j : Nat} {ls os : List ByteArray} {b : DS} (h : Sk w d g n ls os j wr) (hd : DeskAt w' d b) (hs : Steps w b (ls.drop (j + 1)) (os.drop (j + 1))) (ho : Off (fun x => x = d) wr w') : Sk w d g n ls os (j + 1) w' := by
  have hb : w'.heap[g]? = wr.heap[g]? := ho.block g h.gl h.ne
  exact ⟨⟨b, hd, hs⟩, fun i hi => (World.cell?_of_block (a := ⟨g, i, none⟩) hb).trans (h.cells i hi), (World.cell?_of_block (a := ⟨g, ls.length, none⟩) hb).trans h.last, h.old.trans (ho.below h.old.size (fun x hx => by rw [hx]; exact h.lo)), h.lo, h.ne, Nat.lt_of_lt_of_le h.gl ho.size⟩
/-- The desk at first. -/
def desk0 : DS := ⟨1, ⟨#[48]⟩, ⟨#[48]⟩, 1, ⟨#[48]⟩, ⟨#[48]⟩, ⟨#[116]⟩⟩
theorem ne_isEmpty {x : ByteArray} (h : x ≠ ByteArray.empty) : x.toList.isEmpty = false := by
  cases e : x.toList.isEmpty with
  | false => rfl
  | true =>
    exfalso
    apply h
    rw [List.isEmpty_iff, Lib.toList_data] at e
    apply ByteArray.ext
    apply Array.toList_inj.1
    rw [e]
    rfl
theorem Sk.first {w w1 : World} {g n : Nat} {ls os : List ByteArray} (hst : Steps w desk0 ls os) (hd : DeskAt w1 (w.heap.size + 1) desk0) (hb : Below w.heap.size w w1) {w2 : World} (hs : Sp w1 g n (ls ++ [ByteArray.empty]) n w2) (hn : n = ls.length + 1) : Sk w (w.heap.size + 1) g n ls os 0 w2 := by
  have hg := hs.own.lt g rfl
  have hdl := hd.lt
  have hx : ∀ i, i < n → w2.cell? ⟨g, i, none⟩ = (cellsAt (ls ++ [ByteArray.empty]) n n)[i]? := fun i hi => hs.own.cellAt i (by omega)
  have hc : cellsAt (ls ++ [ByteArray.empty]) n n = (ls ++ [ByteArray.empty]).map Value.string := by
    unfold cellsAt
    rw [Nat.sub_self, List.take_of_length_le (by simp; omega)]
    simp
  rw [hc] at hx
  refine ⟨⟨desk0, hd.below hs.old, hst⟩, fun i hi => ?_, ?_, hb.trans (hs.old.mono hb.size), by omega, by omega, hg.2⟩
  · rw [hx i (by omega), List.map_append, List.getElem?_append_left (by simpa using hi)]
    simp [hi]
  · rw [hx ls.length (by omega)]
    simp
set_option maxHeartbeats 2000000 in
theorem RunScript_lines (ls os : List ByteArray) (hno : ∀ l ∈ ls, (10 : UInt8) ∉ l.data.toList) (hne : ∀ l ∈ ls, l ≠ ByteArray.empty) (hl : ls.length ≤ 99) (hs : (linesB ls).size ≤ 20000) (hO : ∀ j, (outT (os.take j)).size ≤ 40000) (w : World) (hst : Steps w desk0 ls os) :
    Calls Tryz.prog 15 #[.string (linesB ls)] w fun e w' => e = .returned (.string (outT os)) ∧ Below w.heap.size w w' := by
  have hlen := hst.len
  have HSP := Lib.hid (fun W => split_is ls hno (by omega) (by omega) W)
  have HST := Lib.hid hst
  have HNE := Lib.hid (fun j (hj : j < ls.length) => ne_isEmpty (hne _ (List.getElem_mem hj)))
  have HOO := Lib.hid hO
  have HOS : Hid (∀ j (hj : j < ls.length), outT (os.take (j + 1)) = outT (os.take j) ++ (os.getD j ByteArray.empty ++ ⟨#[10]⟩)) := fun j hj => by
    rw [List.take_succ_eq_append_getElem (by omega), outT_snoc, List.getD_eq_getElem?_getD, List.getElem?_eq_getElem (by omega)]
    rfl
  have hsI : ((linesB ls).size : Int) ≤ 20000 := by omega
  have HLN := Lib.hid hlen
  have hll : (ls.length : Int) ≤ 99 := by omega
  clear hst hno hne hO hs hlen
  go_enter Tryz.func15, Tryz.ntmps15
  go_upto_region 6 with fail
  have hb1 : Below w.heap.size w ((w.alloc (.cells #[.int .i64 1, .string ⟨#[48]⟩, .string ⟨#[48]⟩] 24)).alloc (.cells #[.int .i64 1, .string ⟨#[48]⟩, .string ⟨#[48]⟩, .int .i64 1, .string ⟨#[48]⟩, .string ⟨#[48]⟩, .string ⟨#[116]⟩] 64)) := ((Below.refl w.heap.size w).alloc (Nat.le_refl _) _).alloc (by simp) _
  have hd1 : DeskAt ((w.alloc (.cells #[.int .i64 1, .string ⟨#[48]⟩, .string ⟨#[48]⟩] 24)).alloc (.cells #[.int .i64 1, .string ⟨#[48]⟩, .string ⟨#[48]⟩, .int .i64 1, .string ⟨#[48]⟩, .string ⟨#[48]⟩, .string ⟨#[116]⟩] 64)) (w.heap.size + 1) desk0 := by
    have h := heap_alloc_new (w.alloc (.cells #[.int .i64 1, .string ⟨#[48]⟩, .string ⟨#[48]⟩] 24)) (.cells #[.int .i64 1, .string ⟨#[48]⟩, .string ⟨#[48]⟩, .int .i64 1, .string ⟨#[48]⟩, .string ⟨#[48]⟩, .string ⟨#[116]⟩] 64)
    rw [World.size_alloc] at h
    exact ⟨h⟩
  have HD1 := Lib.hid (And.intro hb1 hd1)
  clear hb1 hd1
  obtain ⟨W1, hW1⟩ : ∃ W1, (w.alloc (.cells #[.int .i64 1, .string ⟨#[48]⟩, .string ⟨#[48]⟩] 24)).alloc (.cells #[.int .i64 1, .string ⟨#[48]⟩, .string ⟨#[48]⟩, .int .i64 1, .string ⟨#[48]⟩, .string ⟨#[48]⟩, .string ⟨#[116]⟩] 64) = W1 := ⟨_, rfl⟩
  rw [hW1] at HD1 ⊢
  clear hW1
  go_wp2_with fail
  refine (HSP.out _).mono ?_; rintro e w2 hq
  obtain ⟨g, n, rfl, hn, hsp⟩ := hq
  have HK0 : Hid (Sk w (w.heap.size + 1) g n ls os 0 w2) := Sk.first HST.out HD1.out.2 HD1.out.1 hsp hn
  clear hsp HD1 HSP
  obtain ⟨d, hd⟩ : ∃ d, w.heap.size + 1 = d := ⟨_, rfl⟩
  rw [hd] at HK0 ⊢
  clear hd
  have hnI : (n : Int) = (ls.length : Int) + 1 := by omega
  have hn100 : (n : Int) ≤ 100 := by omega
  have HN := Lib.hid hnI
  clear hnI
  go_wp2_with fail
  go_loopw [5, 19] (fun o q wr => ∃ j : Nat, j ≤ n ∧ q = .int .i64 (j : Int) ∧ o = .string (outT (os.take j)) ∧ Hid (j ≤ ls.length → Sk w d g n ls os j wr) ∧ Hid (Below w.heap.size w wr)) (fun _ q _ => n - (intOf q).toNat)
  case atStart => exact ⟨0, by omega, rfl, rfl, fun _ => HK0.out, HK0.out.old⟩
  case round =>
    clear HK0
    obtain ⟨j, hj, rfl, rfl, HK, HB⟩ := hrel
    by_cases hlt : j < ls.length
    · have HK1 := Lib.hid (HK.out (by omega))
      obtain ⟨a, hda, hsa⟩ := HK1.out.desk
      have e1 : ls.drop j = ls[j] :: ls.drop (j + 1) := List.drop_eq_getElem_cons hlt
      have e2 : os.drop j = os.getD j ByteArray.empty :: os.drop (j + 1) := by
        have hlo := HLN.out
        rw [List.drop_eq_getElem_cons (by omega), List.getD_eq_getElem?_getD, List.getElem?_eq_getElem (by omega)]; rfl
      rw [e1, e2] at hsa
      obtain ⟨b, hrun, hsb⟩ := hsa
      have HR := Lib.hid (hrun wr d HK1.out.lo HK1.out.old hda)
      have HS := Lib.hid hsb
      have hc := HK1.out.cells j hlt
      have hni := HNE.out j hlt
      have hz1 := HOO.out j
      have hz2 := HOO.out (j + 1)
      have HOJ := Lib.hid (HOS.out j hlt)
      rw [HOJ.out] at hz2
      rw [ByteArray.size_append, ByteArray.size_append] at hz2
      have h10 : (⟨#[10]⟩ : ByteArray).size = 1 := rfl
      clear e1 e2 hda hsb hrun
      generalize os.getD j ByteArray.empty = o at *
      generalize ls[j] = l at *
      generalize outT (os.take j) = out at *
      have hjI : (j : Int) < (n : Int) := by have := HN.out; omega
      have hj100 : ¬ (100 : Int) ≤ (j : Int) := by omega
      have hj100B : decide ((100 : Int) ≤ (j : Int)) = false := decide_eq_false hj100
      have hzI : ¬ (40000 : Int) < (out.size : Int) := by omega
      go_wp2_with fail
      refine HR.out.mono ?_; rintro e w3 ⟨rfl, hd3, ho3⟩
      have HK3 := Lib.hid (HK1.out.step hd3 HS.out ho3)
      clear hd3 ho3 hc HK1 HK HR
      go_wp2_with fail
      go_roundw
      case rel => exact ⟨j + 1, by omega, by go_num, by rw [HOJ.out], fun _ => HK3.out, HK3.out.old⟩
      case measure => simp [intOf]; omega
    · by_cases hje : j = ls.length
      · subst hje
        have HK1 := Lib.hid (HK.out (Nat.le_refl _))
        have hc := HK1.out.last
        have hjI : (ls.length : Int) < (n : Int) := by have := HN.out; omega
        have hem : ByteArray.empty.toList.isEmpty = true := by rw [Lib.toList_data]; rfl
        have HTK : Hid (outT (os.take ls.length) = outT (os.take (ls.length + 1))) := by
          have hlo := HLN.out
          show _ = _
          rw [List.take_of_length_le (by omega), List.take_of_length_le (by omega)]
        clear HK
        go_wp2_with fail
        go_roundw
        case rel => exact ⟨ls.length + 1, by omega, by go_num, by rw [HTK.out], fun h => absurd h (by omega), HB⟩
        case measure => simp [intOf]; omega
      · obtain rfl : j = n := by have := HN.out; omega
        have hjI : ¬ (j : Int) < (j : Int) := by omega
        have HTK : Hid (outT (os.take j) = outT os) := by
          have hlo := HLN.out
          show _ = _
          rw [List.take_of_length_le (by omega)]
        rw [HTK.out]
        clear HK
        go_wp2_with fail
        go_ret
        exact ⟨rfl, HB.out⟩
end Go.Proofs.YtofmagiahmmmgaaGreatDoor

namespace Go.Proofs.YtofmagiahmmmgaaGreatDoor
open Go.RowKit
def bit (b : Bool) : UInt8 := if b then 49 else 48
/-- The text of a bit. -/
def bitS (b : Bool) : ByteArray := ⟨#[bit b]⟩
/-- The text of n bits. -/
def bitsOf (f : Nat → Bool) (n : Nat) : ByteArray := ⟨((List.range n).map fun i => bit (f i)).toArray⟩
theorem bitS_size (b : Bool) : (bitS b).size = 1 := rfl
theorem bitsOf_size (f : Nat → Bool) (n : Nat) : (bitsOf f n).size = n := by
  show ((List.range n).map fun i => bit (f i)).toArray.size = n
  simp
theorem bitsOf_succ (f : Nat → Bool) (n : Nat) : bitsOf f (n + 1) = bitsOf f n ++ bitS (f n) := by
  unfold bitsOf bitS
  have h := ByteArray.mk_append_mk ((List.range n).map fun i => bit (f i)) [bit (f n)]
  rw [show (#[bit (f n)] : Array UInt8) = [bit (f n)].toArray from rfl, h]
  congr 2
  rw [List.range_succ]
  simp
theorem bitsOf_zero (f : Nat → Bool) : bitsOf f 0 = ByteArray.empty := rfl
/-- The text of the bits of n rows of n. -/
def gridOf (r : Nat → Nat → Bool) (n : Nat) : ByteArray := bitsOf (fun k => r (k / n) (k % n)) (n * n)
theorem l1Bit_any (b : Bool) (w : World) : Calls Tryz.prog 83 #[.bool b] w fun e w' => e = .returned (.string (bitS b)) ∧ w = w' := by
  cases b
  · go_enter Tryz.func83, Tryz.ntmps83
    go_wp2
    go_ret
    exact ⟨rfl, rfl⟩
  · go_enter Tryz.func83, Tryz.ntmps83
    go_wp2
    go_ret
    exact ⟨rfl, rfl⟩
end Go.Proofs.YtofmagiahmmmgaaGreatDoor
namespace Go.Proofs.YtofmagiahmmmgaaGreatDoor
open Go.RowKit
/-- The value of a structure. -/
def strV (n : Int) (S R : ByteArray) : Value := .agg #[.int .i64 n, .string S, .string R]
/-- A structure variable in block b. -/
def SBlk (w : World) (b : Nat) (n : Int) (S R : ByteArray) : Prop := w.heap[b]? = some (.cells #[.int .i64 n, .string S, .string R] 24 (0, 0))
theorem SBlk.cells {w : World} {b : Nat} {n : Int} {S R : ByteArray} (h : SBlk w b n S R) :
    w.cell? ⟨b, 0, none⟩ = some (.int .i64 n) ∧ w.cell? ⟨b, 1, none⟩ = some (.string S) ∧ w.cell? ⟨b, 2, none⟩ = some (.string R) ∧ w.frozen? ⟨b, 0, none⟩ = false ∧ w.frozen? ⟨b, 1, none⟩ = false ∧ w.frozen? ⟨b, 2, none⟩ = false ∧ b < w.heap.size := by
  unfold SBlk at h
  have hb : b < w.heap.size := by
    rcases Nat.lt_or_ge b w.heap.size with h' | h'
    · exact h'
    · simp [Array.getElem?_eq_none h'] at h
  refine ⟨?_, ?_, ?_, ?_, ?_, ?_, hb⟩ <;> simp [World.cell?, World.frozen?, h]
theorem SBlk.new (w : World) (n : Int) (S R : ByteArray) : SBlk (w.alloc (.cells #[.int .i64 n, .string S, .string R] 24)) w.heap.size n S R := heap_alloc_new w _
theorem SBlk.below {w w' : World} {b B : Nat} {n : Int} {S R : ByteArray} (h : SBlk w b n S R) (hb : Below B w w') (hB : b < B) : SBlk w' b n S R := (hb.block b hB).trans h
theorem SBlk.set1 {w : World} {b : Nat} {n : Int} {S R S' : ByteArray} (h : SBlk w b n S R) : SBlk (w.setCell ⟨b, 1, none⟩ (.string S')) b n S' R := by
  unfold SBlk at h ⊢
  simp [World.setCell, Array.getElem?_modify, h]
theorem SBlk.set2 {w : World} {b : Nat} {n : Int} {S R R' : ByteArray} (h : SBlk w b n S R) : SBlk (w.setCell ⟨b, 2, none⟩ (.string R')) b n S R' := by
  unfold SBlk at h ⊢
  simp [World.setCell, Array.getElem?_modify, h]
theorem SBlk.far {w : World} {b : Nat} {n : Int} {S R : ByteArray} (h : SBlk w b n S R) {p : Addr} (hp : b ≠ p.block) (u : Value) : SBlk (w.setCell p u) b n S R := (Below.heap_setCell w p u b hp).trans h
theorem SBlk.drew {w : World} {b : Nat} {n : Int} {S R : ByteArray} (h : SBlk w b n S R) : SBlk w.drew b n S R := h
theorem SBlk.set3 {w : World} {b : Nat} {n n' : Int} {S R S' R' : ByteArray} (h : SBlk w b n S R) : SBlk (((w.setCell ⟨b, 0, none⟩ (.int .i64 n')).setCell ⟨b, 1, none⟩ (.string S')).setCell ⟨b, 2, none⟩ (.string R')) b n' S' R' := by
  unfold SBlk at h ⊢
  simp [World.setCell, Array.getElem?_modify, h]
theorem strInfo : (Tryz.prog.info? 24).map (·.size) = some 3 := by kernel_rfl
/-- A result that is a structure in a variable. -/
theorem results_str {fn : Func} {p : Tmp} (h : fn.results = #[.cell p 24]) {tmps : Array Value} {w : World} {b : Nat} {n : Int} {S R : ByteArray} (hp : tmps.getD p undef = .pointer (some ⟨b, 0, none⟩)) (hb : SBlk w b n S R) :
    (results fn tmps).run Tryz.prog w = .ok (strV n S R) w :=
  results_cell_row h tmps w b 24 #[.int .i64 n, .string S, .string R] (0, 0) _ hp hb Tryz.underlying24 rfl strInfo
/-- Two results: a structure in a variable, and a truth. -/
theorem results_str2 {fn : Func} {p u : Tmp} (h : fn.results = #[.cell p 24, .tmp u]) {tmps : Array Value} {w : World} {b : Nat} {n : Int} {S R : ByteArray} {v : Value} (hp : tmps.getD p undef = .pointer (some ⟨b, 0, none⟩)) (hb : SBlk w b n S R) (hu : tmps.getD u undef = v) :
    (results fn tmps).run Tryz.prog w = .ok (.tuple #[strV n S R, v]) w := by
  rw [results_cell_tmp h, hp, hu]
  have hl := run_loadVar_row (P := Tryz.prog) w b 24 24 #[.int .i64 n, .string S, .string R] (0, 0) _ hb Tryz.underlying24 rfl strInfo
  simp [asAddr, Result.andThen, hl, strV]
theorem grid_at {r : Nat → Nat → Bool} {n x y : Nat} (hy : y < n) : r ((x * n + y) / n) ((x * n + y) % n) = r x y := by
  have h0 : 0 < n := by omega
  have h1 : (x * n + y) / n = x := by
    rw [Nat.mul_comm, Nat.mul_add_div h0, Nat.div_eq_of_lt hy]; rfl
  have h2 : (x * n + y) % n = y := by
    rw [Nat.mul_comm, Nat.mul_add_mod, Nat.mod_eq_of_lt hy]
  rw [h1, h2]
end Go.Proofs.YtofmagiahmmmgaaGreatDoor
namespace Go.Proofs.YtofmagiahmmmgaaGreatDoor
open Go.RowKit
set_option linter.unusedVariables false
/-- Whether a place of a text holds a 1. -/
def oneAt (s : ByteArray) (k : Nat) : Bool := s.data.toList.getD k 0 == 49
theorem oneAt_at (s : ByteArray) (k : Nat) (h : k < s.size) : ((s[k].toNat : Int) == 49) = oneAt s k := by
  have e : s.data.toList.getD k 0 = s[k] := by
    have hx : k < s.data.toList.length := by simpa using h
    rw [List.getD_eq_getElem?_getD, List.getElem?_eq_getElem hx]
    rfl
  unfold oneAt
  rw [e]
  generalize s[k] = c
  rw [Bool.eq_iff_iff, beq_iff_eq, beq_iff_eq]
  constructor
  · intro h
    apply UInt8.toNat_inj.1
    have : (49 : UInt8).toNat = 49 := rfl
    omega
  · intro h
    rw [h]; rfl
/-- The world after a structure was boxed. -/
def boxS (w : World) (n : Int) (S R : ByteArray) : World := w.alloc (.cells #[.int .i64 n, .string S, .string R] 24)
theorem boxS_below (w : World) (n : Int) (S R : ByteArray) : Below w.heap.size w (boxS w n S R) := (Below.refl _ _).alloc (Nat.le_refl _) _
theorem boxS_SBlk (w : World) (n : Int) (S R : ByteArray) : SBlk (boxS w n S R) w.heap.size n S R := SBlk.new w n S R
theorem boxS_size (w : World) (n : Int) (S R : ByteArray) : (boxS w n S R).heap.size = w.heap.size + 1 := by simp [boxS]
/-- Whether an element is related. -/
def relAt (n : Nat) (R : ByteArray) (x y : Nat) : Bool := oneAt R (x * n + y)
theorem inSet_any (n : Int) (S R : ByteArray) (x : Nat) (w : World) (hx : x < S.size) (hS : S.size ≤ 9223372036854775807) :
    Calls Tryz.prog 100 #[strV n S R, .int .i64 (x : Int)] w fun e w' => e = .returned (.bool (oneAt S x)) ∧ w' = boxS w n S R := by
  unfold strV
  have e1 := oneAt_at S x hx
  generalize oneAt S x = b at *
  go_enter Tryz.func100, Tryz.ntmps100
  go_wp2_with fail
  go_ret
  exact ⟨rfl, rfl⟩
theorem l1Set_any (n : Int) (S R : ByteArray) (x : Nat) (w : World) (hx : x < S.size) (hS : S.size ≤ 9223372036854775807) :
    Calls Tryz.prog 84 #[strV n S R, .int .i64 (x : Int)] w fun e w' => e = .returned (.bool (oneAt S x)) ∧ w' = boxS w n S R := by
  unfold strV
  have e1 := oneAt_at S x hx
  generalize oneAt S x = b at *
  go_enter Tryz.func84, Tryz.ntmps84
  go_wp2_with fail
  go_ret
  exact ⟨rfl, rfl⟩
theorem rel_place {n x y : Nat} {R : ByteArray} (hx : x < n) (hy : y < n) (hn : n ≤ 8) (hR : R.size = n * n) :
    ∃ p : Nat, p = x * n ∧ p + y < R.size ∧ p ≤ 56 ∧ IntKind.i64.wrap ((x : Int) * (n : Int)) = (p : Int) := by
  have h1 : x * n ≤ 7 * 8 := Nat.mul_le_mul (by omega) hn
  refine ⟨x * n, rfl, ?_, by omega, ?_⟩
  · rw [hR]
    have : x * n + y < x * n + n := by omega
    have h2 : x * n + n ≤ n * n := by
      rw [← Nat.succ_mul]
      exact Nat.mul_le_mul_right _ hx
    omega
  · rw [← Int.natCast_mul]
    exact IntWalk.i64_in _ (by omega)
theorem inRel_any (n : Nat) (S R : ByteArray) (x y : Nat) (w : World) (hx : x < n) (hy : y < n) (hn : n ≤ 8) (hR : R.size = n * n) :
    Calls Tryz.prog 101 #[strV n S R, .int .i64 (x : Int), .int .i64 (y : Int)] w fun e w' => e = .returned (.bool (relAt n R x y)) ∧ w' = boxS w n S R := by
  unfold strV relAt
  obtain ⟨p, hp, hpy, hp56, hw⟩ := rel_place hx hy hn hR
  rw [← hp]
  clear hp
  have hw2 : IntKind.i64.wrap ((p : Int) + (y : Int)) = ((p + y : Nat) : Int) := IntWalk.i64_in _ (by omega)
  generalize p + y = q at *
  have e1 := oneAt_at R q hpy
  generalize oneAt R q = b at *
  have hR64 : R.size ≤ 64 := by rw [hR]; exact Nat.mul_le_mul hn hn
  clear hR
  go_enter Tryz.func101, Tryz.ntmps101
  go_wp2_with fail
  go_ret
  exact ⟨rfl, rfl⟩
theorem l1Rel_any (n : Nat) (S R : ByteArray) (x y : Nat) (w : World) (hx : x < n) (hy : y < n) (hn : n ≤ 8) (hR : R.size = n * n) :
    Calls Tryz.prog 85 #[strV n S R, .int .i64 (x : Int), .int .i64 (y : Int)] w fun e w' => e = .returned (.bool (relAt n R x y)) ∧ w' = boxS w n S R := by
  unfold strV relAt
  obtain ⟨p, hp, hpy, hp56, hw⟩ := rel_place hx hy hn hR
  rw [← hp]
  clear hp
  have hw2 : IntKind.i64.wrap ((p : Int) + (y : Int)) = ((p + y : Nat) : Int) := IntWalk.i64_in _ (by omega)
  generalize p + y = q at *
  have e1 := oneAt_at R q hpy
  generalize oneAt R q = b at *
  have hR64 : R.size ≤ 64 := by rw [hR]; exact Nat.mul_le_mul hn hn
  clear hR
  go_enter Tryz.func85, Tryz.ntmps85
  go_wp2_with fail
  go_ret
  exact ⟨rfl, rfl⟩
end Go.Proofs.YtofmagiahmmmgaaGreatDoor

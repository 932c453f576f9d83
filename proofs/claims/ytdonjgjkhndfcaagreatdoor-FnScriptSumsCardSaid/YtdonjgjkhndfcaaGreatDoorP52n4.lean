/- Contracts of the program's functions and what they compute: part 4. Conditions: those that each theorem states. -/
import Derived.Test.YtdonjgjkhndfcaaGreatDoorP52n1
import Derived.Test.YtdonjgjkhndfcaaGreatDoorP52n3
import Derived.Deep.Cut
namespace Go.Proofs.YtdonjgjkhndfcaaGreatDoor
open Go.RowKit
set_option linter.unusedVariables false
set_option maxRecDepth 100000
/-- What a desk holds. -/
structure DS where
  n : Int
  S : ByteArray
  R : ByteArray
  m : Int
  T : ByteArray
  U : ByteArray
  f : ByteArray
/-- A desk in block d. -/
structure DeskAt (w : World) (d : Nat) (a : DS) : Prop where
  blk : w.heap[d]? = some (.cells #[.int .i64 a.n, .string a.S, .string a.R, .int .i64 a.m, .string a.T, .string a.U, .string a.f] 63 (0, 0))
theorem DeskAt.lt {w : World} {d : Nat} {a : DS} (h : DeskAt w d a) : d < w.heap.size := (Array.getElem?_eq_some_iff.1 h.blk).1
theorem DeskAt.below {w w' : World} {d : Nat} {a : DS} (h : DeskAt w d a) (hb : Below w.heap.size w w') : DeskAt w' d a := ⟨(hb.block d h.lt).trans h.blk⟩
/-- A line is answered: the desk turns, nothing else that was there. -/
def RunOK (w0 : World) (l : ByteArray) (a b : DS) (o : ByteArray) : Prop := ∀ (W : World) (d : Nat), w0.heap.size ≤ d → Below w0.heap.size w0 W → DeskAt W d a →
  Calls Tryz.prog 39 #[.pointer (some ⟨d, 0, none⟩), .string l] W fun e w' => e = .returned (.string o) ∧ DeskAt w' d b ∧ Off (fun x => x = d) W w'
/-- Lines are answered one behind the other. -/
def Steps (w0 : World) : DS → List ByteArray → List ByteArray → Prop
  | _, [], [] => True
  | a, l :: ls, o :: os => ∃ b, RunOK w0 l a b o ∧ Steps w0 b ls os
  | _, _, _ => False
/-- The answers, each with its end. -/
def outT (os : List ByteArray) : ByteArray := os.foldl (fun t o => t ++ (o ++ ⟨#[10]⟩)) ByteArray.empty
theorem outT_snoc (os : List ByteArray) (o : ByteArray) : outT (os ++ [o]) = outT os ++ (o ++ ⟨#[10]⟩) := by
  unfold outT
  rw [List.foldl_append]
  rfl
theorem Steps.len {w0 : World} : ∀ {a : DS} {ls os : List ByteArray}, Steps w0 a ls os → ls.length = os.length
  | _, [], [], _ => rfl
  | _, l :: ls, o :: os, h => by
    obtain ⟨b, _, h2⟩ := h
    simp [h2.len]
  | _, [], _ :: _, h => h.elim
  | _, _ :: _, [], h => h.elim
/-- What the script's loop keeps. -/
structure Sk (w : World) (d g n : Nat) (ls os : List ByteArray) (j : Nat) (wr : World) : Prop where
  desk : ∃ a, DeskAt wr d a ∧ Steps w a (ls.drop j) (os.drop j)
  cells : ∀ i (hi : i < ls.length), wr.cell? ⟨g, i, none⟩ = some (.string ls[i])
  last : wr.cell? ⟨g, ls.length, none⟩ = some (.string ByteArray.empty)
  old : Below w.heap.size w wr
  lo : w.heap.size ≤ d
  ne : g ≠ d
  gl : g < wr.heap.size
theorem Sk.step {w wr w' : World} {d g n j : Nat} {ls os : List ByteArray} {b : DS} (h : Sk w d g n ls os j wr) (hd : DeskAt w' d b) (hs : Steps w b (ls.drop (j + 1)) (os.drop (j + 1))) (ho : Off (fun x => x = d) wr w') : Sk w d g n ls os (j + 1) w' := by
  have hb : w'.heap[g]? = wr.heap[g]? := ho.block g h.gl h.ne
  exact ⟨⟨b, hd, hs⟩, fun i hi => (World.cell?_of_block (a := ⟨g, i, none⟩) hb).trans (h.cells i hi), (World.cell?_of_block (a := ⟨g, ls.length, none⟩) hb).trans h.last, h.old.trans (ho.below h.old.size (fun x hx => by rw [hx]; exact h.lo)), h.lo, h.ne, Nat.lt_of_lt_of_le h.gl ho.size⟩
/-- The desk at first. -/
def desk0 : DS := ⟨1, ⟨#[48]⟩, ⟨#[48]⟩, 1, ⟨#[48]⟩, ⟨#[48]⟩, ⟨#[116]⟩⟩
theorem ne_isEmpty {x : ByteArray} (h : x ≠ ByteArray.empty) : x.toList.isEmpty = false := by
  cases e : x.toList.isEmpty with
  | false => rfl
  | true =>
    exfalso
    apply h
    rw [List.isEmpty_iff, Lib.toList_data] at e
    apply ByteArray.ext
    apply Array.toList_inj.1
    rw [e]
    rfl
theorem Sk.first {w w1 : World} {g n : Nat} {ls os : List ByteArray} (hst : Steps w desk0 ls os) (hd : DeskAt w1 (w.heap.size + 1) desk0) (hb : Below w.heap.size w w1) {w2 : World} (hs : Sp w1 g n (ls ++ [ByteArray.empty]) n w2) (hn : n = ls.length + 1) : Sk w (w.heap.size + 1) g n ls os 0 w2 := by
  have hg := hs.own.lt g rfl
  have hdl := hd.lt
  have hx : ∀ i, i < n → w2.cell? ⟨g, i, none⟩ = (cellsAt (ls ++ [ByteArray.empty]) n n)[i]? := fun i hi => hs.own.cellAt i (by omega)
  have hc : cellsAt (ls ++ [ByteArray.empty]) n n = (ls ++ [ByteArray.empty]).map Value.string := by
    unfold cellsAt
    rw [Nat.sub_self, List.take_of_length_le (by simp; omega)]
    simp
  rw [hc] at hx
  refine ⟨⟨desk0, hd.below hs.old, hst⟩, fun i hi => ?_, ?_, hb.trans (hs.old.mono hb.size), by omega, by omega, hg.2⟩
  · rw [hx i (by omega), List.map_append, List.getElem?_append_left (by simpa using hi)]
    simp [hi]
  · rw [hx ls.length (by omega)]
    simp
set_option maxHeartbeats 2000000 in
theorem RunScript_lines (ls os : List ByteArray) (hno : ∀ l ∈ ls, (10 : UInt8) ∉ l.data.toList) (hne : ∀ l ∈ ls, l ≠ ByteArray.empty) (hl : ls.length ≤ 99) (hs : (linesB ls).size ≤ 20000) (hO : ∀ j, (outT (os.take j)).size ≤ 40000) (w : World) (hst : Steps w desk0 ls os) :
    Calls Tryz.prog 16 #[.string (linesB ls)] w fun e w' => e = .returned (.string (outT os)) ∧ Below w.heap.size w w' := by
  have hlen := hst.len
  have HSP := Lib.hid (fun W => split_is ls hno (by omega) (by omega) W)
  have HST := Lib.hid hst
  have HNE := Lib.hid (fun j (hj : j < ls.length) => ne_isEmpty (hne _ (List.getElem_mem hj)))
  have HOO := Lib.hid hO
  have HOS : Hid (∀ j (hj : j < ls.length), outT (os.take (j + 1)) = outT (os.take j) ++ (os.getD j ByteArray.empty ++ ⟨#[10]⟩)) := fun j hj => by
    rw [List.take_succ_eq_append_getElem (by omega), outT_snoc, List.getD_eq_getElem?_getD, List.getElem?_eq_getElem (by omega)]
    rfl
  have hsI : ((linesB ls).size : Int) ≤ 20000 := by omega
  have HLN := Lib.hid hlen
  have hll : (ls.length : Int) ≤ 99 := by omega
  clear hst hno hne hO hs hlen
  go_enter Tryz.func16, Tryz.ntmps16
  go_upto_region 6 with fail
  have hb1 : Below w.heap.size w ((w.alloc (.cells #[.int .i64 1, .string ⟨#[48]⟩, .string ⟨#[48]⟩] 24)).alloc (.cells #[.int .i64 1, .string ⟨#[48]⟩, .string ⟨#[48]⟩, .int .i64 1, .string ⟨#[48]⟩, .string ⟨#[48]⟩, .string ⟨#[116]⟩] 63)) := ((Below.refl w.heap.size w).alloc (Nat.le_refl _) _).alloc (by simp) _
  have hd1 : DeskAt ((w.alloc (.cells #[.int .i64 1, .string ⟨#[48]⟩, .string ⟨#[48]⟩] 24)).alloc (.cells #[.int .i64 1, .string ⟨#[48]⟩, .string ⟨#[48]⟩, .int .i64 1, .string ⟨#[48]⟩, .string ⟨#[48]⟩, .string ⟨#[116]⟩] 63)) (w.heap.size + 1) desk0 := by
    have h := heap_alloc_new (w.alloc (.cells #[.int .i64 1, .string ⟨#[48]⟩, .string ⟨#[48]⟩] 24)) (.cells #[.int .i64 1, .string ⟨#[48]⟩, .string ⟨#[48]⟩, .int .i64 1, .string ⟨#[48]⟩, .string ⟨#[48]⟩, .string ⟨#[116]⟩] 63)
    rw [World.size_alloc] at h
    exact ⟨h⟩
  have HD1 := Lib.hid (And.intro hb1 hd1)
  clear hb1 hd1
  obtain ⟨W1, hW1⟩ : ∃ W1, (w.alloc (.cells #[.int .i64 1, .string ⟨#[48]⟩, .string ⟨#[48]⟩] 24)).alloc (.cells #[.int .i64 1, .string ⟨#[48]⟩, .string ⟨#[48]⟩, .int .i64 1, .string ⟨#[48]⟩, .string ⟨#[48]⟩, .string ⟨#[116]⟩] 63) = W1 := ⟨_, rfl⟩
  rw [hW1] at HD1 ⊢
  clear hW1
  go_wp2_with fail
  refine (HSP.out _).mono ?_; rintro e w2 hq
  obtain ⟨g, n, rfl, hn, hsp⟩ := hq
  have HK0 : Hid (Sk w (w.heap.size + 1) g n ls os 0 w2) := Sk.first HST.out HD1.out.2 HD1.out.1 hsp hn
  clear hsp HD1 HSP
  obtain ⟨d, hd⟩ : ∃ d, w.heap.size + 1 = d := ⟨_, rfl⟩
  rw [hd] at HK0 ⊢
  clear hd
  have hnI : (n : Int) = (ls.length : Int) + 1 := by omega
  have hn100 : (n : Int) ≤ 100 := by omega
  have HN := Lib.hid hnI
  clear hnI
  go_wp2_with fail
  go_loopw [5, 19] (fun o q wr => ∃ j : Nat, j ≤ n ∧ q = .int .i64 (j : Int) ∧ o = .string (outT (os.take j)) ∧ Hid (j ≤ ls.length → Sk w d g n ls os j wr) ∧ Hid (Below w.heap.size w wr)) (fun _ q _ => n - (intOf q).toNat)
  case atStart => exact ⟨0, by omega, rfl, rfl, fun _ => HK0.out, HK0.out.old⟩
  case round =>
    clear HK0
    obtain ⟨j, hj, rfl, rfl, HK, HB⟩ := hrel
    by_cases hlt : j < ls.length
    · have HK1 := Lib.hid (HK.out (by omega))
      obtain ⟨a, hda, hsa⟩ := HK1.out.desk
      have e1 : ls.drop j = ls[j] :: ls.drop (j + 1) := List.drop_eq_getElem_cons hlt
      have e2 : os.drop j = os.getD j ByteArray.empty :: os.drop (j + 1) := by
        have hlo := HLN.out
        rw [List.drop_eq_getElem_cons (by omega), List.getD_eq_getElem?_getD, List.getElem?_eq_getElem (by omega)]; rfl
      rw [e1, e2] at hsa
      obtain ⟨b, hrun, hsb⟩ := hsa
      have HR := Lib.hid (hrun wr d HK1.out.lo HK1.out.old hda)
      have HS := Lib.hid hsb
      have hc := HK1.out.cells j hlt
      have hni := HNE.out j hlt
      have hz1 := HOO.out j
      have hz2 := HOO.out (j + 1)
      have HOJ := Lib.hid (HOS.out j hlt)
      rw [HOJ.out] at hz2
      rw [ByteArray.size_append, ByteArray.size_append] at hz2
      have h10 : (⟨#[10]⟩ : ByteArray).size = 1 := rfl
      clear e1 e2 hda hsb hrun
      generalize os.getD j ByteArray.empty = o at *
      generalize ls[j] = l at *
      generalize outT (os.take j) = out at *
      have hjI : (j : Int) < (n : Int) := by have := HN.out; omega
      have hj100 : ¬ (100 : Int) ≤ (j : Int) := by omega
      have hj100B : decide ((100 : Int) ≤ (j : Int)) = false := decide_eq_false hj100
      have hzI : ¬ (40000 : Int) < (out.size : Int) := by omega
      go_wp2_with fail
      refine HR.out.mono ?_; rintro e w3 ⟨rfl, hd3, ho3⟩
      have HK3 := Lib.hid (HK1.out.step hd3 HS.out ho3)
      clear hd3 ho3 hc HK1 HK HR
      go_wp2_with fail
      go_roundw
      case rel => exact ⟨j + 1, by omega, by go_num, by rw [HOJ.out], fun _ => HK3.out, HK3.out.old⟩
      case measure => simp [intOf]; omega
    · by_cases hje : j = ls.length
      · subst hje
        have HK1 := Lib.hid (HK.out (Nat.le_refl _))
        have hc := HK1.out.last
        have hjI : (ls.length : Int) < (n : Int) := by have := HN.out; omega
        have hem : ByteArray.empty.toList.isEmpty = true := by rw [Lib.toList_data]; rfl
        have HTK : Hid (outT (os.take ls.length) = outT (os.take (ls.length + 1))) := by
          have hlo := HLN.out
          show _ = _
          rw [List.take_of_length_le (by omega), List.take_of_length_le (by omega)]
        clear HK
        go_wp2_with fail
        go_roundw
        case rel => exact ⟨ls.length + 1, by omega, by go_num, by rw [HTK.out], fun h => absurd h (by omega), HB⟩
        case measure => simp [intOf]; omega
      · obtain rfl : j = n := by have := HN.out; omega
        have hjI : ¬ (j : Int) < (j : Int) := by omega
        have HTK : Hid (outT (os.take j) = outT os) := by
          have hlo := HLN.out
          show _ = _
          rw [List.take_of_length_le (by omega)]
        rw [HTK.out]
        clear HK
        go_wp2_with fail
        go_ret
        exact ⟨rfl, HB.out⟩
end Go.Proofs.YtdonjgjkhndfcaaGreatDoor

/- Contracts of the program's functions and what they compute: part 36. Conditions: those that each theorem states. -/
import Derived.Test.YthmhjihppbeodaaGreatDoorP7n35
import Derived.Test.YthmhjihppbeodaaGreatDoorP7n1
import Derived.Test.YthmhjihppbeodaaGreatDoorP7n19
import Derived.Test.YthmhjihppbeodaaGreatDoorP7n22
import Derived.Test.YthmhjihppbeodaaGreatDoorP7n15
import Derived.Test.YthmhjihppbeodaaGreatDoorP7n20
import Derived.Lib.ConvBytes
import Derived.IntWalk
import Derived.Deep.RegionHeld3
import Derived.Deep.DeepCutAuto
namespace Go.Proofs.YthmhjihppbeodaaGreatDoor
open Go.RowKit
set_option linter.unusedVariables false
set_option maxRecDepth 100000
theorem u8_wrap (z : Int) : ∃ d : UInt8, IntKind.u8.wrap z = ((d.toNat : Nat) : Int) := by
  have h : IntKind.u8.wrap z = z % 256 := by rfl
  refine ⟨UInt8.ofNat (z % 256).toNat, ?_⟩
  rw [h]
  have h0 : 0 ≤ z % 256 := Int.emod_nonneg _ (by decide)
  have h1 : z % 256 < 256 := Int.emod_lt_of_pos _ (by decide)
  rw [UInt8.toNat_ofNat']
  omega
/-- The byte that a text's first byte is turned into. -/
noncomputable def flipU (t : ByteArray) : UInt8 := Classical.choose (u8_wrap (97 - (((t.data.toList.getD 0 0).toNat : Nat) : Int)))
theorem flipU_is (t : ByteArray) : IntKind.u8.wrap (97 - (((t.data.toList.getD 0 0).toNat : Nat) : Int)) = (((flipU t).toNat : Nat) : Int) := Classical.choose_spec (u8_wrap (97 - (((t.data.toList.getD 0 0).toNat : Nat) : Int)))
/-- What the flipping keeps. -/
def Fl (w wr : World) (d : UInt8) : Prop := wr.cell? ⟨w.heap.size, 0, none⟩ = some (.int .u8 ((d.toNat : Nat) : Int)) ∧ wr.frozen? ⟨w.heap.size, 0, none⟩ = false ∧ Below w.heap.size w wr
theorem l1Flip_one (t : ByteArray) (ht : t.size = 1) (w : World) :
    Calls Tryz.prog 37 #[.string t] w fun e w' => e = .returned (.string ⟨#[flipU t]⟩) ∧ Below w.heap.size w w' := by
  have hd2 := flipU_is t
  have cs := Lib.run_convert_string_bytes (P := Tryz.prog) w 9 22 5 t Tryz.underlying9 Tryz.underlying22 Tryz.underlying5
  have HF0 : Hid (Fl w (Lib.bytesWorld w 5 t) (t.data.toList.getD 0 0)) := by
    refine ⟨Lib.bytesWorld_cell w 5 t 0 (by omega), ?_, ⟨rfl, rfl, rfl, by rw [Lib.bytesWorld_size]; omega, fun k hk => Lib.bytesWorld_at_old _ _ _ _ hk⟩⟩
    unfold World.frozen?
    rw [Lib.bytesWorld_at_new]
    have hs : 1 ≤ (Lib.bytesCells w 5 t).size := by
      unfold Lib.bytesCells
      have : t.data.size = 1 := ht
      simp; omega
    show (decide ((Lib.bytesCells w 5 t).size ≤ 0) && _) = false
    rw [decide_eq_false (by omega)]; rfl
  rw [ht] at cs
  obtain ⟨W1, hW1⟩ : ∃ W1, Lib.bytesWorld w 5 t = W1 := ⟨_, rfl⟩
  rw [hW1] at cs HF0
  clear hW1 ht
  generalize flipU t = d2 at *
  generalize t.data.toList.getD 0 0 = d0 at *
  generalize grownCap w 1 0 5 = cap at *
  have cb : ∀ (W : World) (d : UInt8), W.cell? ⟨w.heap.size, 0, none⟩ = some (.int .u8 ((d.toNat : Nat) : Int)) → (convert 22 9 (.slice (some ⟨w.heap.size, 0, none⟩) 1 cap)).run Tryz.prog W = .ok (.string ⟨#[d]⟩) W := fun W d hd =>
    run_convert_bytes_back W 22 9 5 ⟨w.heap.size, 0, none⟩ cap [d] Tryz.underlying22 Tryz.underlying5 Tryz.underlying9 (fun j hj => by
      have hj0 : j = 0 := by simpa using hj
      subst hj0
      exact hd)
  have HCB := Lib.hid cb
  clear cb
  go_enter Tryz.func37, Tryz.ntmps37
  go_wp2_with fail
  go_loopw [4] (fun q wr => ∃ j : Nat, j ≤ 1 ∧ q = .int .i64 (j : Int) ∧ Hid (Fl w wr (if j = 0 then d0 else d2))) (fun q _ => 1 - (intOf q).toNat)
  case atStart => exact ⟨0, by omega, rfl, HF0.out⟩
  case round =>
    clear HF0
    obtain ⟨j, hj, rfl, HL⟩ := hrel
    by_cases hlt : j < 1
    · have hj0 : j = 0 := by omega
      subst hj0
      obtain ⟨hd, hfz, hb⟩ : Fl w wr d0 := HL.out
      have HL2 : Hid (Fl w (wr.setCell ⟨w.heap.size, 0, none⟩ (.int .u8 ((d2.toNat : Nat) : Int))) d2) := by
        exact ⟨World.cell?_setCell_same' _ _ _ (by rw [hd]; rfl), by rw [World.frozen?_setCell]; exact hfz, hb.setCell (by simp) _⟩
      clear hb
      go_wp2_with fail
      go_roundw
      case rel => exact ⟨1, by omega, by go_num, HL2.out⟩
      case measure => simp [intOf]
    · have hj1 : j = 1 := by omega
      subst hj1
      obtain ⟨hd, hfz, hb⟩ : Fl w wr d2 := HL.out
      have HB := Lib.hid hb
      have hcb := HCB.out wr d2 hd
      clear hb
      go_wp2_with fail
      go_ret
      exact ⟨rfl, HB.out⟩
end Go.Proofs.YthmhjihppbeodaaGreatDoor

namespace Go.Proofs.YthmhjihppbeodaaGreatDoor
open Go.RowKit
set_option linter.unusedVariables false
set_option maxRecDepth 100000
theorem rdB_bel {w w' : World} {b K : Nat} (h : RdB w b K) (hb : Below w.heap.size w w') : RdB w' b K := by
  have hlt := h.block
  obtain ⟨k, h1, a, len, cap, f, c0, c1, fr, short, room, row⟩ := h
  have cc : ∀ p v, w.cell? p = some v → w'.cell? p = some v := fun p v h => (hb.cell (World.block_lt_of_cell? w p h)).trans h
  refine ⟨k, h1, a, len, cap, f, cc _ _ c0, cc _ _ c1, ?_, short, room, ?_⟩
  · exact (World.frozen?_of_block (hb.block b hlt)).trans fr
  · rcases row with h | ⟨b', off, rfl, hb', hc, hf⟩
    · exact .inl h
    · exact .inr ⟨b', off, rfl, hb', fun j hj => cc _ _ (hc j hj), hf⟩
end Go.Proofs.YthmhjihppbeodaaGreatDoor

namespace Go.Proofs.YthmhjihppbeodaaGreatDoor
open Go.RowKit
set_option linter.unusedVariables false
set_option maxRecDepth 100000
theorem rdB_set {w : World} {b K g i : Nat} {u : Value} (h : RdB w b K) (hg : b < g) : RdB (w.setCell ⟨g, i, none⟩ u) b K := by
  obtain ⟨k, h1, a, len, cap, f, c0, c1, fr, short, room, row⟩ := h
  have cc : ∀ (p : Addr) v, p.block ≤ b → w.cell? p = some v → (w.setCell ⟨g, i, none⟩ u).cell? p = some v := fun p v hp h => by
    rw [World.cell?_setCell_other _ _ _ _ (by intro e; subst e; simp at hp; omega)]; exact h
  refine ⟨k, h1, a, len, cap, f, cc _ _ (Nat.le_refl _) c0, cc _ _ (Nat.le_refl _) c1, ?_, short, room, ?_⟩
  · rw [World.frozen?_setCell]; exact fr
  · rcases row with h | ⟨b', off, rfl, hb', hc, hf⟩
    · exact .inl h
    · exact .inr ⟨b', off, rfl, hb', fun j hj => cc _ _ (Nat.le_of_lt hb') (hc j hj), hf⟩
theorem rdB_drew {w : World} {b K : Nat} (h : RdB w b K) : RdB w.drew b K := rdB_bel h (Below.refl _ _).drew
theorem grown_belowS {w w' : World} {row : Option Nat} (h : Below w.heap.size w w') : w.grownBy w' row := ⟨h.os, h.tape, h.output, h.size, fun i hi _ => h.block i hi⟩
theorem grown_setS {w wr : World} {row : Option Nat} {g i : Nat} {u : Value} (h : w.grownBy wr row) (hg : w.heap.size ≤ g) : w.grownBy (wr.setCell ⟨g, i, none⟩ u) row :=
  ⟨h.os, h.tape, h.output, by simpa using h.size, fun k hk hne => (Below.heap_setCell wr ⟨g, i, none⟩ u k (by simp; omega)).trans (h.block k hk hne)⟩
/-- A structure that is drawn: its box, the box of the result, and the reader. -/
structure Dst (w : World) (b K g go : Nat) (n : Int) (S R : ByteArray) (wr : World) : Prop where
  rd : RdB wr b K
  out : SBlk wr g n S R
  res : SBlk wr go 0 ByteArray.empty ByteArray.empty
  ne : b < g ∧ b < go ∧ g ≠ go
  lo : w.heap.size ≤ g ∧ w.heap.size ≤ go
  old : w.grownBy wr (some b)
theorem Dst.drew {w : World} {b K g go : Nat} {n : Int} {S R : ByteArray} {wr : World} (h : Dst w b K g go n S R wr) : Dst w b K g go n S R wr.drew :=
  ⟨rdB_drew h.rd, h.out.drew, h.res.drew, h.ne, h.lo, h.old.trans (grown_belowS (Below.refl _ _).drew)⟩
theorem Dst.mono {w : World} {b K K' g go : Nat} {n : Int} {S R : ByteArray} {wr : World} (h : Dst w b K g go n S R wr) (hk : K ≤ K') : Dst w b K' g go n S R wr :=
  ⟨h.rd.mono hk, h.out, h.res, h.ne, h.lo, h.old⟩
theorem Dst.pick {w : World} {b K K' g go : Nat} {n : Int} {S R : ByteArray} {wr w' : World} (h : Dst w b K g go n S R wr) (hr : RdB w' b K') (hg : wr.grownBy w' (some b)) : Dst w b K' g go n S R w' := by
  have l1 := h.out.cells.2.2.2.2.2.2
  have l2 := h.res.cells.2.2.2.2.2.2
  obtain ⟨n1, n2, n3⟩ := h.ne
  refine ⟨hr, (hg.block g l1 (by intro e; injection e; omega)).trans h.out, (hg.block go l2 (by intro e; injection e; omega)).trans h.res, h.ne, h.lo, h.old.trans hg⟩
theorem Dst.set1 {w : World} {b K g go : Nat} {n : Int} {S R S' : ByteArray} {wr : World} (h : Dst w b K g go n S R wr) : Dst w b K g go n S' R (wr.setCell ⟨g, 1, none⟩ (.string S')) :=
  ⟨rdB_set h.rd h.ne.1, h.out.set1, h.res.far (fun e => h.ne.2.2 e.symm) _, h.ne, h.lo, grown_setS h.old h.lo.1⟩
theorem Dst.set2 {w : World} {b K g go : Nat} {n : Int} {S R R' : ByteArray} {wr : World} (h : Dst w b K g go n S R wr) : Dst w b K g go n S R' (wr.setCell ⟨g, 2, none⟩ (.string R')) :=
  ⟨rdB_set h.rd h.ne.1, h.out.set2, h.res.far (fun e => h.ne.2.2 e.symm) _, h.ne, h.lo, grown_setS h.old h.lo.1⟩
theorem Dst.below {w : World} {b K g go : Nat} {n : Int} {S R : ByteArray} {wr w' : World} (h : Dst w b K g go n S R wr) (hb : Below wr.heap.size wr w') : Dst w b K g go n S R w' :=
  ⟨rdB_bel h.rd hb, h.out.below hb h.out.cells.2.2.2.2.2.2, h.res.below hb h.res.cells.2.2.2.2.2.2, h.ne, h.lo, h.old.trans (grown_belowS hb)⟩
theorem bitL (b : Bool) (W : World) : Calls Tryz.prog 71 #[.bool b] W fun e w' => e = .returned (.string (bitS b)) ∧ Below W.heap.size W w' := (l1Bit_any b W).mono fun _ _ h => ⟨h.1, by rw [← h.2]; exact Below.refl _ _⟩
end Go.Proofs.YthmhjihppbeodaaGreatDoor

/- Contracts of the program's functions and what they compute: part 19. Conditions: those that each theorem states. -/
import Derived.Test.YtnhlhjehocngcaaGreatDoorP50n1
import Derived.Test.YtnhlhjehocngcaaGreatDoorP50n5
import Derived.Test.YtnhlhjehocngcaaGreatDoorP50n17
import Derived.Test.YtnhlhjehocngcaaGreatDoorP50n18
import Derived.Lib.ItoaLen
import Derived.Lib.ItoaMem
import Derived.IntWalk
import Derived.Laws.IdiomStrings
import Derived.Deep.RegionHeld3
import Derived.Outline
namespace Go.Proofs.YtnhlhjehocngcaaGreatDoor
open Go.RowKit
set_option linter.unusedVariables false
def decS (u : Nat) : ByteArray := ⟨(Lib.decDigits u).toArray⟩
def digS (d : Nat) : ByteArray := ⟨#[UInt8.ofNat (48 + d)]⟩
theorem decS_big (u : Nat) (h : ¬ u < 10) : decS u = decS (u / 10) ++ digS (u % 10) := by
  apply ByteArray.ext
  show (Lib.decDigits u).toArray = (decS (u / 10) ++ digS (u % 10)).data
  rw [ByteArray.data_append, Lib.decDigits, dif_neg h]
  simp [decS, digS]
theorem decS_small (u : Nat) (h : u < 10) : decS u = digS u := by
  unfold decS digS
  rw [Lib.decDigits, dif_pos h]
theorem decS_size (u : Nat) (h : u ≤ 9223372036854775808) : (decS u).size ≤ 20 := by
  show (Lib.decDigits u).toArray.size ≤ 20
  rw [List.size_toArray, Lib.decDigits_length]
  exact Lib.nDigits_le20 u (by omega)
theorem dig_conv (d : Nat) (hd : d < 10) (i : Int) (hi : i = 48 + (d : Int)) (w : World) :
    (convert 22 9 (.slice (some ⟨w.heap.size, 0, none⟩) 1 1)).run Tryz.prog (w.alloc (.cells #[.int .u8 i] 5)) = .ok (.string (digS d)) (w.alloc (.cells #[.int .u8 i] 5)) := by
  refine run_convert_bytes_back _ 22 9 5 ⟨w.heap.size, 0, none⟩ 1 [UInt8.ofNat (48 + d)] Tryz.underlying22 Tryz.underlying5 Tryz.underlying9 ?_
  intro j hj
  have hj0 : j = 0 := by simpa using hj
  subst hj0
  subst hi
  simp [Addr.add]
  omega
set_option maxRecDepth 100000 in
theorem dec_any (u : Nat) (w : World) (hu : (u : Int) ≤ 9223372036854775807) :
    Calls Tryz.prog 129 #[.int .i64 (u : Int)] w fun e w' => e = .returned (.string (decS u)) ∧ Below w.heap.size w w' := by
  have hz := decS_size u (by omega)
  have HZ := Lib.hid hz; clear hz
  go_enter Tryz.func129, Tryz.ntmps129
  go_wp2_with fail
  go_loopw [0, 3] (fun a o wr => ∃ (t : Nat) (out : ByteArray), a = .int .i64 t ∧ o = .string out ∧ (t : Int) ≤ 9223372036854775807 ∧ out.size ≤ 20 ∧ Hid (decS t ++ out = decS u) ∧ Hid (Below w.heap.size w wr)) (fun a _ _ => (intOf a).toNat)
  case atStart => exact ⟨u, ByteArray.empty, rfl, rfl, hu, by simp, by show decS u ++ ByteArray.empty = decS u; apply ByteArray.ext; simp, Below.refl _ _⟩
  case round =>
    obtain ⟨t, out, rfl, rfl, ht, ho, HT, HB⟩ := hrel
    by_cases hlt : (9 : Int) < t
    · have HD := Lib.hid (decS_big t (by omega))
      have hc := dig_conv (t % 10) (by omega) (48 + (t : Int) % 10) (by omega) wr
      have hdz : (digS (t % 10)).size = 1 := rfl
      have HB1 : Hid (Below w.heap.size w (wr.alloc (.cells #[.int .u8 (48 + (t : Int) % 10)] 5))) := HB.out.alloc HB.out.size _
      have hoz : out.size ≤ 19 := by
        have h1 := congrArg ByteArray.size HT.out
        have h2 := HZ.out
        rw [HD.out, ByteArray.size_append, ByteArray.size_append, hdz] at h1
        omega
      have HT1 : Hid (decS (t / 10) ++ (digS (t % 10) ++ out) = decS u) := by
        show _ = _
        rw [← HT.out, HD.out]
        apply ByteArray.ext
        simp [ByteArray.data_append, Array.append_assoc]
      generalize digS (t % 10) = D at *
      go_wp2_with fail
      go_roundw
      case rel => exact ⟨t / 10, D ++ out, by go_num, rfl, by omega, by rw [ByteArray.size_append]; omega, HT1.out, HB1.out⟩
      case measure => simp [intOf]; omega
    · have HD := Lib.hid (decS_small t (by omega))
      have hc := dig_conv t (by omega) (48 + (t : Int)) rfl wr
      have hdz : (digS t).size = 1 := rfl
      have HB1 : Hid (Below w.heap.size w (wr.alloc (.cells #[.int .u8 (48 + (t : Int))] 5))) := HB.out.alloc HB.out.size _
      have HT1 : Hid (digS t ++ out = decS u) := by
        show _ = _
        rw [← HT.out, HD.out]
      generalize digS t = D at *
      go_wp2_with fail
      go_ret
      exact ⟨congrArg (fun s => Ending.returned (.string s)) HT1.out, HB1.out⟩
end Go.Proofs.YtnhlhjehocngcaaGreatDoor

namespace Go.Proofs.YtnhlhjehocngcaaGreatDoor
open Go.RowKit
set_option linter.unusedVariables false
/-- The table's and the structure's boxes. -/
structure Boxes (w wr : World) (gL gC n : Nat) (S R : ByteArray) : Prop where
  t : wr.heap[w.heap.size]? = some (.cells #[.slice (some ⟨gL, 0, none⟩) 997 997, .slice (some ⟨gC, 0, none⟩) 1 1] 110 (0, 0))
  s : SBlk wr (w.heap.size + 1) n S R
theorem Boxes.cells {w wr : World} {gL gC n : Nat} {S R : ByteArray} (h : Boxes w wr gL gC n S R) :
    wr.cell? ⟨w.heap.size, 0, none⟩ = some (.slice (some ⟨gL, 0, none⟩) 997 997) ∧ wr.cell? ⟨w.heap.size, 1, none⟩ = some (.slice (some ⟨gC, 0, none⟩) 1 1) ∧
    wr.cell? ⟨w.heap.size + 1, 0, none⟩ = some (.int .i64 n) ∧ wr.cell? ⟨w.heap.size + 1, 1, none⟩ = some (.string S) ∧ wr.cell? ⟨w.heap.size + 1, 2, none⟩ = some (.string R) := by
  have := h.s.cells
  refine ⟨?_, ?_, this.1, this.2.1, this.2.2.1⟩ <;> simp [World.cell?, h.t]
/-- The world behind both boxes. -/
def boxT (w : World) (gL gC n : Nat) (S R : ByteArray) : World := boxS (w.alloc (.cells #[.slice (some ⟨gL, 0, none⟩) 997 997, .slice (some ⟨gC, 0, none⟩) 1 1] 110)) n S R
theorem boxT_size (w : World) (gL gC n : Nat) (S R : ByteArray) : (boxT w gL gC n S R).heap.size = w.heap.size + 2 := by simp [boxT, boxS]
theorem boxT_below (w : World) (gL gC n : Nat) (S R : ByteArray) : Below w.heap.size w (boxT w gL gC n S R) := ((Below.refl _ _).alloc (Nat.le_refl _) _).alloc (by simp) _
theorem boxT_boxes (w : World) (gL gC n : Nat) (S R : ByteArray) : Boxes w (boxT w gL gC n S R) gL gC n S R := by
  refine ⟨?_, ?_⟩
  · exact (Below.heap_alloc _ _ _ (by simp)).trans (heap_alloc_new w _)
  · have h := boxS_SBlk (w.alloc (.cells #[.slice (some ⟨gL, 0, none⟩) 997 997, .slice (some ⟨gC, 0, none⟩) 1 1] 110)) n S R
    unfold boxT
    simpa using h
theorem Boxes.off {w w0 wr : World} {gL gC n : Nat} {S R : ByteArray} {F : Nat → Prop} (h : Boxes w w0 gL gC n S R) (hw : Off F w0 wr) (hF : ∀ b, F b → b < w.heap.size) : Boxes w wr gL gC n S R := by
  have hl := h.s.cells.2.2.2.2.2.2
  exact ⟨(hw.block _ (by omega) (fun e => by have := hF _ e; omega)).trans h.t, (hw.block _ hl (fun e => by have := hF _ e; omega)).trans h.s⟩
theorem txt_dec (u : Nat) : decS u = txt (Lib.decDigits u) := rfl
end Go.Proofs.YtnhlhjehocngcaaGreatDoor
namespace Go.Proofs.YtnhlhjehocngcaaGreatDoor
open Go.RowKit
set_option linter.unusedVariables false
theorem b_assoc (a b c : ByteArray) : a ++ b ++ c = a ++ (b ++ c) := by
  apply ByteArray.ext
  simp [ByteArray.data_append, Array.append_assoc]
theorem b_nil (a : ByteArray) : a ++ ByteArray.empty = a := by
  apply ByteArray.ext
  simp
theorem commas_succ (L : List Nat) (k : Nat) (hk : k < L.length) : Gs.commas (L.take (k + 1)) = Gs.commas (L.take k) ++ ([44] ++ Lib.decDigits (L.getD k 0)) := by
  unfold Gs.commas
  rw [List.take_succ_eq_append_getElem hk, List.flatMap_append]
  simp [hk]
end Go.Proofs.YtnhlhjehocngcaaGreatDoor

namespace Go.Proofs.YtnhlhjehocngcaaGreatDoor
open Go.RowKit
set_option linter.unusedVariables false
set_option maxRecDepth 100000
theorem made_nums {B g n : Nat} {w : World} (h : w.ownsRow B 3 1 (.slice (some ⟨g, 0, none⟩) n n) n (madeCells (Value.int .i64 0).cells (n * 1)).toList) (hB : B ≤ w.heap.size) : Own B w (.slice (some ⟨g, 0, none⟩) n n) (List.replicate n 0) := by
  rw [show (Value.int .i64 0).cells = #[.int .i64 0] from rfl, Nat.mul_one, toList_madeCells_one] at h
  refine ⟨?_, by simp, hB⟩
  rw [List.length_replicate, List.map_replicate]
  exact h
theorem Own.setN {B g n cap : Nat} {w : World} {L : List Nat} (h : Own B w (.slice (some ⟨g, 0, none⟩) n cap) L) (hn : L.length = n) (j z : Nat) : Own B (w.setCell ⟨g, j, none⟩ (.int .i64 (z : Int))) (.slice (some ⟨g, 0, none⟩) n cap) (L.set j z) := by
  have h1 := h.own
  rw [hn] at h1
  refine ⟨?_, by simp, by simpa [World.setCell] using h.low⟩
  rw [List.length_set, List.map_set, hn]
  exact (h1.stored j (.int .i64 (z : Int))).1
theorem Own.frozenN {B g n cap : Nat} {w : World} {L : List Nat} (h : Own B w (.slice (some ⟨g, 0, none⟩) n cap) L) (hn : L.length = n) (j : Nat) : w.frozen? ⟨g, j, none⟩ = false := by
  have h1 := h.own
  rw [hn] at h1
  exact h1.frozenAt j
/-- What l7Start keeps: the boxes, the table, and the numbers found so far. -/
structure Ls (w : World) (gL gC n : Nat) (S R : ByteArray) (F : Nat → Prop) (D E : List (List UInt8)) (F' : Nat → Prop) (vs : Array Value) (g N : Nat) (c : List Nat) (wr : World) : Prop where
  bx : Boxes w wr gL gC n S R
  tb : Tbl wr gL gC F' vs (D ++ E)
  own : Own (w.heap.size + 2) wr (.slice (some ⟨g, 0, none⟩) N N) c
  len : c.length = N
  ap : ¬ F' g
  fr : ∀ b, F' b → F b ∨ w.heap.size + 2 ≤ b
  off : Off F w wr
  lo : ∀ b, F b → b < w.heap.size
section
variable {w wr w' : World} {gL gC n g N : Nat} {S R : ByteArray} {F F' : Nat → Prop} {D E : List (List UInt8)} {vs : Array Value} {c : List Nat}
theorem Ls.gl (h : Ls w gL gC n S R F D E F' vs g N c wr) : w.heap.size + 2 ≤ g ∧ g < wr.heap.size := h.own.own.lt g rfl
theorem Ls.below (h : Ls w gL gC n S R F D E F' vs g N c wr) (hb : Below wr.heap.size wr w') : Ls w gL gC n S R F D E F' vs g N c w' := by
  have hs := h.bx.s.cells.2.2.2.2.2.2
  exact ⟨⟨(hb.block _ (by omega)).trans h.bx.t, h.bx.s.below hb hs⟩, h.tb.off (Off.of_below (F := fun _ => False) hb) (fun _ _ h => h), h.own.below hb, h.len, h.ap, h.fr, h.off.trans (Off.of_below (F := fun _ => False) hb) (fun _ h => h.elim), h.lo⟩
theorem Ls.cells (h : Ls w gL gC n S R F D E F' vs g N c wr) : wr.cell? ⟨w.heap.size, 0, none⟩ = some (.slice (some ⟨gL, 0, none⟩) 997 997) ∧ wr.cell? ⟨w.heap.size, 1, none⟩ = some (.slice (some ⟨gC, 0, none⟩) 1 1) ∧
    wr.cell? ⟨w.heap.size + 1, 0, none⟩ = some (.int .i64 n) ∧ wr.cell? ⟨w.heap.size + 1, 1, none⟩ = some (.string S) ∧ wr.cell? ⟨w.heap.size + 1, 2, none⟩ = some (.string R) := h.bx.cells
theorem Ls.cell (h : Ls w gL gC n S R F D E F' vs g N c wr) {j : Nat} (hj : j < N) : wr.cell? ⟨g, j, none⟩ = some (.int .i64 ((c.getD j 0 : Nat) : Int)) ∧ wr.frozen? ⟨g, j, none⟩ = false := by
  obtain ⟨g2, c2, e, _, _, _, _, h5⟩ := h.own.cells
  injection e with e1
  injection e1 with e1
  injection e1 with e1
  subst e1
  exact ⟨h5 j (by rw [h.len]; exact hj), h.own.frozenN h.len j⟩
/-- A description is numbered. -/
theorem Ls.number {s : List UInt8} {e : Ending} (h : Ls w gL gC n S R F D E F' vs g N c wr) (hn : Numbered gL gC F' (D ++ E) s wr e w') :
    ∃ (num : Nat) (F2 : Nat → Prop) (vs2 : Array Value) (X : List (List UInt8)), e = .returned (.int .i64 (num : Int)) ∧ X.length ≤ 1 ∧ (D ++ (E ++ X))[num]? = some s ∧ Ls w gL gC n S R F D (E ++ X) F2 vs2 g N c w' := by
  obtain ⟨num, F2, vs2, D', he, ht, hd, hn2, ho, hf⟩ := hn
  have hgl := h.gl
  have hs := h.bx.s.cells.2.2.2.2.2.2
  obtain ⟨X, hX, hD⟩ : ∃ X : List (List UInt8), X.length ≤ 1 ∧ D' = D ++ (E ++ X) := by
    rcases hd with rfl | rfl
    · exact ⟨[], by simp, by simp⟩
    · exact ⟨[s], by simp, by simp⟩
  subst hD
  have hnot : ∀ b, b < w.heap.size + 2 → w.heap.size ≤ b → ¬ F' b := fun b h1 h2 hb => by
    rcases h.fr b hb with h3 | h3
    · have := h.lo b h3; omega
    · omega
  refine ⟨num, F2, vs2, X, he, hX, hn2, ⟨⟨(ho.block _ (by omega) (hnot _ (by omega) (by omega))).trans h.bx.t, (ho.block _ hs (hnot _ (by omega) (by omega))).trans h.bx.s⟩, ht, h.own.off ho (fun k hk => by
    have : g = k := by simpa [Value.ownBlock] using hk
    rw [← this]; exact h.ap), h.len, fun hg => ?_, fun b hb => ?_, h.off.trans ho (fun b hb => ?_), h.lo⟩⟩
  · rcases hf g hg with h1 | h1
    · exact h.ap h1
    · omega
  · rcases hf b hb with h1 | h1
    · exact h.fr b h1
    · exact .inr (by omega)
  · rcases h.fr b hb with h1 | h1
    · exact .inl h1
    · exact .inr (by omega)
/-- A number is stored. -/
theorem Ls.set (h : Ls w gL gC n S R F D E F' vs g N c wr) (j z : Nat) : Ls w gL gC n S R F D E F' vs g N (c.set j z) (wr.setCell ⟨g, j, none⟩ (.int .i64 (z : Int))) := by
  have hgl := h.gl
  have hoff : Off (fun b => b = g) wr (wr.setCell ⟨g, j, none⟩ (.int .i64 (z : Int))) := ⟨rfl, rfl, rfl, by simp, fun b _ hb => Below.heap_setCell _ _ _ _ (by simpa using hb)⟩
  refine ⟨⟨(Below.heap_setCell _ _ _ _ (by simp; omega)).trans h.bx.t, h.bx.s.far (by simp; omega) _⟩, h.tb.off hoff (fun b hb e => h.ap (by rw [← e]; exact hb)), h.own.setN h.len j z, by rw [List.length_set, h.len], h.ap, h.fr, h.off.trans hoff (fun b hb => .inr (by omega)), h.lo⟩
end
/-- What l7Start and l7Round return. -/
def LvP (gL gC : Nat) (F : Nat → Prop) (D : List (List UInt8)) (N : Nat) (str : Nat → List UInt8) (w : World) (e : Ending) (w' : World) : Prop :=
  ∃ (v : Value) (c : List Nat) (F' : Nat → Prop) (vs : Array Value) (E : List (List UInt8)), e = .returned v ∧ Own w.heap.size w' v c ∧ Tbl w' gL gC F' vs (D ++ E) ∧ LevN (D ++ E) N str c ∧ E.length ≤ N ∧ Off F w w' ∧ (∀ b, F' b → F b ∨ w.heap.size ≤ b) ∧ ∀ b, v.ownBlock = some b → ¬ F' b
theorem Ls.fin {w wr : World} {gL gC n g N : Nat} {S R : ByteArray} {F F' : Nat → Prop} {D E : List (List UInt8)} {vs : Array Value} {c : List Nat} {str : Nat → List UInt8} (h : Ls w gL gC n S R F D E F' vs g N c wr) (hl : ∀ i, i < N → (D ++ E)[c.getD i 0]? = some (str i)) (hE : E.length ≤ N) :
    LvP gL gC F D N str w (.returned (.slice (some ⟨g, 0, none⟩) N N)) wr :=
  ⟨_, c, F', vs, E, rfl, h.own.mono (by omega), h.tb, ⟨h.len, hl⟩, hE, h.off, fun b hb => (h.fr b hb).elim .inl (fun h => .inr (by omega)), fun b hb hf => by
    have : g = b := by simpa [Value.ownBlock] using hb
    exact h.ap (by rw [this]; exact hf)⟩
theorem lev_step {D E X : List (List UInt8)} {c : List Nat} {str : Nat → List UInt8} {j num : Nat} (hj : j < c.length) (h : ∀ i, i < j → (D ++ E)[c.getD i 0]? = some (str i)) (hn : (D ++ (E ++ X))[num]? = some (str j)) : ∀ i, i < j + 1 → (D ++ (E ++ X))[(c.set j num).getD i 0]? = some (str i) := by
  intro i hi
  by_cases e : i = j
  · subst e
    rw [List.getD_eq_getElem?_getD, List.getElem?_set, if_pos rfl, if_pos hj]
    exact hn
  · rw [List.getD_eq_getElem?_getD, List.getElem?_set, if_neg (fun h => e h.symm), ← List.getD_eq_getElem?_getD]
    have h1 := h i (by omega)
    rw [← List.append_assoc, List.getElem?_append_left (List.getElem?_eq_some_iff.1 h1).1]
    exact h1
theorem pebAt_len (a : Gs.St) {L : List Int} (h : L.length ≤ 3) : (pebAt a L).length ≤ 100 := by
  unfold pebAt
  rw [List.length_append, List.length_map]
  have h1 := atoms_le a (la := layN L) (by have := layN_le L; omega)
  omega
theorem start_ls {w W w1 w2 : World} {gL gC n N : Nat} {S R : ByteArray} {F : Nat → Prop} {vs : Array Value} {D : List (List UInt8)} (hb : Boxes w W gL gC n S R) (hB : Below w.heap.size w W) (hz : W.heap.size = w.heap.size + 2) (h1 : Below W.heap.size W w1) (hT : Tbl w gL gC F vs D) (hlo : ∀ b, F b → b < w.heap.size)
    (hown : w2.ownsRow (w.heap.size + 2) 3 1 (.slice (some ⟨w1.heap.size, 0, none⟩) N N) N (madeCells (Value.int .i64 0).cells (N * 1)).toList) (hg : w1.grownBy w2 none) : Ls w gL gC n S R F D [] F vs w1.heap.size N (List.replicate N 0) w2 := by
  have hs := h1.size
  have hgs := hg.size
  have h2 : Below W.heap.size W w2 := h1.grown hg hs (fun k hk => by cases hk)
  have h3 : Below w.heap.size w w2 := hB.trans (h2.mono (by omega))
  refine ⟨⟨(h2.block _ (by omega)).trans hb.t, hb.s.below h2 (by omega)⟩, ?_, made_nums hown (by omega), by simp, fun h => by have := hlo _ h; omega, fun b hb => .inl hb, Off.of_below h3, hlo⟩
  rw [List.append_nil]
  exact hT.off (Off.of_below (F := fun _ => False) h3) (fun _ _ h => h)
set_option maxHeartbeats 2000000 in
theorem l7Start_any (gL gC n k : Nat) (F : Nat → Prop) (vs : Array Value) (D : List (List UInt8)) (S R : ByteArray) (w : World) (hT : Tbl w gL gC F vs D) (hD : D.length ≤ 100000) (hS : S.size = n) (hR : R.size = n * n) (hn : n ≤ 8) (hk : k ≤ 3) :
    Calls Tryz.prog 71 #[tblV gL gC, strV n S R, .int .i64 (k : Int)] w (LvP gL gC F D ((n + 1) ^ k) (fun i => pebAt (stOf n S R) (atL (n + 1) k i)) w) := by
  have hlo := hT.lt
  have HBX : Hid (Boxes w (boxT w gL gC n S R) gL gC n S R ∧ Below w.heap.size w (boxT w gL gC n S R) ∧ (boxT w gL gC n S R).heap.size = w.heap.size + 2) := ⟨boxT_boxes _ _ _ _ _ _, boxT_below _ _ _ _ _ _, boxT_size _ _ _ _ _ _⟩
  have HTB := Lib.hid hT
  obtain ⟨W, hW⟩ : ∃ W, boxT w gL gC n S R = W := ⟨_, rfl⟩
  rw [hW] at HBX
  unfold boxT boxS at hW
  have HW := Lib.hid hW
  clear hW hT
  have HCN := Lib.hid (fun w => l7Count_any n k S R w hn hk)
  have hN := pw_le hn hk
  have HAT := Lib.hid (fun s w hs => l7At_any n k s S R w hn hk hs)
  have HATM := Lib.hid (fun L v w hl hv hp => l7Atoms_any n S R L v w hS hR hn hl hv hp)
  obtain ⟨N, hNe⟩ : ∃ N, (n + 1) ^ k = N := ⟨_, rfl⟩
  rw [hNe] at HCN hN ⊢
  obtain ⟨i0, hi, hz, h1, h2⟩ := info_parts natInfo3
  have HI := Lib.hid (And.intro hi (And.intro hz (And.intro h1 h2)))
  have HLO := Lib.hid hlo
  clear hi hz h1 h2 hNe hS hR hlo
  have hNI : (N : Int) ≤ 729 := by omega
  unfold strV at HCN HAT HATM
  unfold strV tblV
  go_enter Tryz.func71, Tryz.ntmps71
  go_upto_region 1 with fail
  rw [HW.out]
  obtain ⟨c0, c1, c2, c3, c4⟩ := HBX.out.1.cells
  go_wp2_with fail
  refine (HCN.out _).mono ?_; rintro e w1 ⟨rfl, hb1⟩
  have HB1 : Hid (Below W.heap.size W w1) := hb1
  clear hb1 c0 c1 c2 c3 c4
  go_wp2_with (first | (refine wpList_make_full _ rfl _ _ 25 rfl (w.heap.size + 2) 3 i0 (.int .i64 0) 1 Tryz.underlying25 HI.out.1 HI.out.2.1 HI.out.2.2.1 .i64 .i64 N N N rfl rfl rfl rfl (by rw [HI.out.2.2.2]; omega) (by unfold maxLen; omega) (by have := HB1.out.size; have := HBX.out.2.2; omega) ?_; intro w2 hown hgr; have HP0 : Hid (Ls w gL gC n S R F D [] F vs w1.heap.size N (List.replicate N 0) w2) := start_ls HBX.out.1 HBX.out.2.1 HBX.out.2.2 HB1.out HTB.out HLO.out hown hgr; clear hown hgr) | fail)
  have HNUM : Hid (∀ (F' : Nat → Prop) (vs' : Array Value) (E : List (List UInt8)) (j : Nat) (W : World), Tbl W gL gC F' vs' (D ++ E) → E.length ≤ 800 → Calls Tryz.prog 126 #[.agg #[.slice (some ⟨gL, 0, none⟩) 997 997, .slice (some ⟨gC, 0, none⟩) 1 1], .string (txt (pebAt (stOf n S R) (atL (n + 1) k j)))] W (Numbered gL gC F' (D ++ E) (pebAt (stOf n S R) (atL (n + 1) k j)) W)) := fun F' vs' E j W h1 h2 => by
    have := pebAt_len (stOf n S R) (L := atL (n + 1) k j) (by rw [atL_len]; exact hk)
    exact l5Number_any gL gC F' vs' (D ++ E) _ W h1 (by rw [List.length_append]; omega) (by omega)
  obtain ⟨g, hg⟩ : ∃ g, w1.heap.size = g := ⟨_, rfl⟩
  rw [hg] at HP0 ⊢
  clear HB1 HBX HW hg HTB HI
  have HBN : Hid (∀ j, j < N → j ≤ 1000) := fun j hj => by omega
  go_loopw [8] (fun q wr => ∃ j : Nat, j ≤ N ∧ q = .int .i64 (j : Int) ∧ Hid (∃ E F' vs' c, Ls w gL gC n S R F D E F' vs' g N c wr ∧ (∀ i, i < j → (D ++ E)[c.getD i 0]? = some (pebAt (stOf n S R) (atL (n + 1) k i))) ∧ E.length ≤ j)) (fun q _ => N - (intOf q).toNat)
  case atStart => exact ⟨0, by omega, rfl, ⟨[], F, vs, _, HP0.out, fun i hi => absurd hi (by omega), Nat.le_refl _⟩⟩
  case round =>
    clear HP0
    obtain ⟨j, hj, rfl, HX⟩ := hrel
    by_cases hlt : j < N
    · have hjI : (j : Int) < (N : Int) := by omega
      obtain ⟨E, F', vs', c, hP, hL, hE⟩ := HX.out
      have HP := Lib.hid hP
      have HL := Lib.hid (And.intro hL hE)
      clear hP hL hE HX
      have hcl := HP.out.cells
      have hjA : j ≤ 1000 := HBN.out j hlt
      go_upto_region 5 with fail
      obtain ⟨c0, c1, c2, c3, c4⟩ := hcl
      go_region_held3 (fun w' => w'.cell? ⟨w.heap.size, 0, none⟩ = some (.slice (some ⟨gL, 0, none⟩) 997 997) ∧ w'.cell? ⟨w.heap.size, 1, none⟩ = some (.slice (some ⟨gC, 0, none⟩) 1 1) ∧ w'.cell? ⟨w.heap.size + 1, 0, none⟩ = some (.int .i64 n) ∧ w'.cell? ⟨w.heap.size + 1, 1, none⟩ = some (.string S) ∧ w'.cell? ⟨w.heap.size + 1, 2, none⟩ = some (.string R))
        (first | exact (HP3.out.2.2.set j num).cells | exact HP3.out.2.2.cells | exact HP2.out.cells | exact HP1.out.1.cells | exact HP.out.cells | go_keep)
        (first
        | (go_at_call 126; refine (HNUM.out F' vs' E j _ HP2.out.tb (by have := HL.out.2; omega)).mono ?_; rintro e w4 hnb; obtain ⟨num, F2, vs2, X, rfl, hX, hn2, hP3⟩ := HP2.out.number hnb; have HP3 : Hid (X.length ≤ 1 ∧ (D ++ (E ++ X))[num]? = some (pebAt (stOf n S R) (atL (n + 1) k j)) ∧ Ls w gL gC n S R F D (E ++ X) F2 vs2 g N c w4) := ⟨hX, hn2, hP3⟩; obtain ⟨p0, p0f⟩ := hP3.cell hlt; clear hnb hX hn2 hP3)
        | (go_at_call 127; refine (HATM.out _ _ _ (by rw [atL_len]; exact hk) HP1.out.2 (atL_pbs _ _)).mono ?_; rintro e w3 ⟨rfl, hb3⟩; have HP2 : Hid (Ls w gL gC n S R F D E F' vs' g N c w3) := HP1.out.1.below hb3; clear hb3)
        | (go_at_call 128; refine (HAT.out j _ hjA).mono ?_; rintro e w2 ⟨v1, rfl, ho1, hb1⟩; have HP1 : Hid (Ls w gL gC n S R F D E F' vs' g N c w2 ∧ IntsAt w2 v1 (atL (n + 1) k j)) := ⟨HP.out.below ((Below.refl _ _).drew.trans hb1), ho1.ints⟩; clear ho1 hb1))
      all_goals
        have HQ : Hid (∃ E F' vs' c', Ls w gL gC n S R F D E F' vs' g N c' (w4.setCell ⟨g, j, none⟩ (.int .i64 (num : Int))) ∧ (∀ i, i < j + 1 → (D ++ E)[c'.getD i 0]? = some (pebAt (stOf n S R) (atL (n + 1) k i))) ∧ E.length ≤ j + 1) := ⟨_, _, _, _, HP3.out.2.2.set j num, lev_step (by rw [HP3.out.2.2.len]; exact hlt) HL.out.1 HP3.out.2.1, by rw [List.length_append]; have := HP3.out.1; have := HL.out.2; omega⟩
        clear HP3 HP2 HP1 HL HP
        go_wp2_with fail
        go_roundw
        case rel => exact ⟨j + 1, by omega, by go_num, HQ⟩
        case measure => simp [intOf]; omega
    · obtain rfl : j = N := by omega
      have HF : Hid (LvP gL gC F D j (fun i => pebAt (stOf n S R) (atL (n + 1) k i)) w (.returned (.slice (some ⟨g, 0, none⟩) j j)) wr) := by
        obtain ⟨E, F', vs', c, hP, hL, hE⟩ := HX.out
        exact hP.fin hL hE
      clear HX
      go_wp2_with fail
      go_ret
      exact HF.out
end Go.Proofs.YtnhlhjehocngcaaGreatDoor

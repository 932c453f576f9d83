/- The reference's l5Type: the number of what can happen in a game. Conditions: the structure is valid, the list is of its elements, the table is not great. -/
import Derived.Test.YtnhlhjehocngcaaDoorAtoms
import Derived.Test.YtnhlhjehocngcaaDoorWith
import Derived.Test.YtnhlhjehocngcaaDoorDec
import Derived.Test.YtnhlhjehocngcaaDoorReply2
import Derived.Deep.RegionHeld3
namespace Go.Proofs.YtnhlhjehocngcaaDoor
open Go.RowKit
set_option linter.unusedVariables false

/-- How many descriptions there are at most. -/
def callsN (n : Nat) : Nat → Nat
  | 0 => 1
  | r + 1 => n * callsN n r + 1
/-- What l5Type leaves. -/
def Typed (gL gC : Nat) (F : Nat → Prop) (D : List (List UInt8)) (a : Gs.St) (r : Nat) (la : List Nat) (w : World) (e : Ending) (w' : World) : Prop :=
  ∃ (num : Nat) (F' : Nat → Prop) (vs' : Array Value) (E : List (List UInt8)), e = .returned (.int .i64 (num : Int)) ∧ Tbl w' gL gC F' vs' (D ++ E) ∧ E.length ≤ callsN a.n r ∧ Gs.TypeNum (D ++ E) a r la num ∧ Off F w w' ∧ ∀ b, F' b → F b ∨ w.heap.size ≤ b
/-- What is asked. -/
structure TypeReady (gL gC : Nat) (F : Nat → Prop) (vs : Array Value) (D : List (List UInt8)) (n : Nat) (S R : ByteArray) (va : Value) (la : List Nat) (r : Nat) (w : World) : Prop where
  tbl : Tbl w gL gC F vs D
  room : D.length + callsN n r ≤ 1000000
  hS : S.size = n
  hR : R.size = n * n
  hn : n ≤ 8
  nums : NumsAt w va la
  apart : ∀ k, va.ownBlock = some k → ¬ F k
  len : la.length + r ≤ 8
  elem : ∀ z ∈ la, z < n
/-- The table's and the structure's boxes. -/
structure Boxes (w wr : World) (gL gC n : Nat) (S R : ByteArray) : Prop where
  t : wr.heap[w.heap.size]? = some (.cells #[.slice (some ⟨gL, 0, none⟩) 997 997, .slice (some ⟨gC, 0, none⟩) 1 1] 92 (0, 0))
  s : SBlk wr (w.heap.size + 1) n S R
theorem Boxes.cells {w wr : World} {gL gC n : Nat} {S R : ByteArray} (h : Boxes w wr gL gC n S R) :
    wr.cell? ⟨w.heap.size, 0, none⟩ = some (.slice (some ⟨gL, 0, none⟩) 997 997) ∧ wr.cell? ⟨w.heap.size, 1, none⟩ = some (.slice (some ⟨gC, 0, none⟩) 1 1) ∧
    wr.cell? ⟨w.heap.size + 1, 0, none⟩ = some (.int .i64 n) ∧ wr.cell? ⟨w.heap.size + 1, 1, none⟩ = some (.string S) ∧ wr.cell? ⟨w.heap.size + 1, 2, none⟩ = some (.string R) := by
  have := h.s.cells
  refine ⟨?_, ?_, this.1, this.2.1, this.2.2.1⟩ <;> simp [World.cell?, h.t]
/-- The world behind both boxes. -/
def boxT (w : World) (gL gC n : Nat) (S R : ByteArray) : World := boxS (w.alloc (.cells #[.slice (some ⟨gL, 0, none⟩) 997 997, .slice (some ⟨gC, 0, none⟩) 1 1] 92)) n S R
theorem boxT_size (w : World) (gL gC n : Nat) (S R : ByteArray) : (boxT w gL gC n S R).heap.size = w.heap.size + 2 := by simp [boxT, boxS]
theorem boxT_below (w : World) (gL gC n : Nat) (S R : ByteArray) : Below w.heap.size w (boxT w gL gC n S R) := ((Below.refl _ _).alloc (Nat.le_refl _) _).alloc (by simp) _
theorem boxT_boxes (w : World) (gL gC n : Nat) (S R : ByteArray) : Boxes w (boxT w gL gC n S R) gL gC n S R := by
  refine ⟨?_, ?_⟩
  · exact (Below.heap_alloc _ _ _ (by simp)).trans (heap_alloc_new w _)
  · have h := boxS_SBlk (w.alloc (.cells #[.slice (some ⟨gL, 0, none⟩) 997 997, .slice (some ⟨gC, 0, none⟩) 1 1] 92)) n S R
    unfold boxT
    simpa using h
theorem Boxes.off {w w0 wr : World} {gL gC n : Nat} {S R : ByteArray} {F : Nat → Prop} (h : Boxes w w0 gL gC n S R) (hw : Off F w0 wr) (hF : ∀ b, F b → b < w.heap.size) : Boxes w wr gL gC n S R := by
  have hl := h.s.cells.2.2.2.2.2.2
  exact ⟨(hw.block _ (by omega) (fun e => by have := hF _ e; omega)).trans h.t, (hw.block _ hl (fun e => by have := hF _ e; omega)).trans h.s⟩

theorem txt_dec (u : Nat) : decS u = txt (Lib.decDigits u) := rfl
theorem desc_txt (r : Nat) (l : List UInt8) (L : List Nat) : decS r ++ ⟨#[58]⟩ ++ (txt l ++ txt (Gs.commas L)) = txt (Gs.desc r l L) := by
  unfold Gs.desc
  rw [txt_append, txt_append, txt_append]
  rfl
theorem typed_end {gL gC : Nat} {F F1 F' : Nat → Prop} {D E1 D' : List (List UInt8)} {vs' : Array Value} {a : Gs.St} {r : Nat} {la : List Nat} {w wr w4 : World} {s : List UInt8} {num : Nat}
    (hw : Off F w wr) (hF1 : ∀ b, F1 b → F b ∨ w.heap.size ≤ b) (hE : E1.length + 1 ≤ callsN a.n r) (ht : Tbl w4 gL gC F' vs' D') (hd : D' = D ++ E1 ∨ D' = D ++ E1 ++ [s]) (hn : D'[num]? = some s)
    (hoff : Off F1 wr w4) {sz : Nat} (hF' : ∀ b, F' b → F1 b ∨ sz ≤ b) (hsz : wr.heap.size ≤ sz) (hT : ∀ D', (D' = D ++ E1 ∨ D' = D ++ E1 ++ [s]) → D'[num]? = some s → Gs.TypeNum D' a r la num) :
    Typed gL gC F D a r la w (.returned (.int .i64 (num : Int))) w4 := by
  have h1 : Off F w w4 := hw.trans hoff hF1
  have h2 : ∀ b, F' b → F b ∨ w.heap.size ≤ b := fun b hb => (hF' b hb).elim (hF1 b) (fun h => .inr (by have := hw.size; omega))
  have h3 := hT D' hd hn
  rcases hd with rfl | rfl
  · exact ⟨num, F', vs', E1, rfl, ht, by omega, h3, h1, h2⟩
  · rw [List.append_assoc] at ht h3
    exact ⟨num, F', vs', E1 ++ [s], rfl, ht, by simp; omega, h3, h1, h2⟩
theorem desc_len (r : Nat) (a : Gs.St) (la : List Nat) (L : List Nat) (hr : r ≤ 8) (hla : la.length ≤ 8) (hL : L.length ≤ 8) (hLb : ∀ m ∈ L, m ≤ 1000000) : (Gs.desc r (Gs.atoms a la) L).length ≤ 1000 := by
  have h1 := atomsTo_le a la la.length hla
  have h2 : ∀ M : List Nat, (∀ m ∈ M, m ≤ 1000000) → (Gs.commas M).length ≤ 21 * M.length := by
    intro M
    induction M with
    | nil => intro _; simp [Gs.commas]
    | cons m M ih =>
      intro hM
      have h3 := decS_size m (by have := hM m (by simp); omega)
      rw [txt_dec, txt_size] at h3
      have h4 := ih (fun m hm => hM m (by simp [hm]))
      simp only [Gs.commas, List.flatMap_cons, List.length_append, List.length_cons] at *
      omega
  have h3 := h2 L hLb
  have h4 := decS_size r (by omega)
  rw [txt_dec, txt_size] at h4
  unfold Gs.desc
  simp only [List.length_append, List.length_cons, List.length_nil]
  unfold Gs.atoms
  omega

end Go.Proofs.YtnhlhjehocngcaaDoor
/- The reference's l5Type for one round more. Conditions: the structure is valid, the list is of its elements, the table is not great. -/
namespace Go.Proofs.YtnhlhjehocngcaaDoor
open Go.RowKit
set_option linter.unusedVariables false

theorem b_assoc (a b c : ByteArray) : a ++ b ++ c = a ++ (b ++ c) := by
  apply ByteArray.ext
  simp [ByteArray.data_append, Array.append_assoc]
theorem b_nil (a : ByteArray) : a ++ ByteArray.empty = a := by
  apply ByteArray.ext
  simp
theorem below_cell {w w' : World} {p : Addr} {v : Value} (hb : Below w.heap.size w w') (h : w.cell? p = some v) : w'.cell? p = some v := (hb.cell (World.block_lt_of_cell? w p h)).trans h
theorem typeNum_lt {D : List (List UInt8)} {a : Gs.St} {r : Nat} {la : List Nat} {m : Nat} (h : Gs.TypeNum D a r la m) : m < D.length := by
  cases r with
  | zero => exact (List.getElem?_eq_some_iff.1 (show D[m]? = _ from h)).1
  | succ r =>
    obtain ⟨L, _, _, _, h4⟩ := h
    exact (List.getElem?_eq_some_iff.1 h4).1

/-- What the first loop keeps. -/
structure St5 (w wr : World) (gL gC n : Nat) (S R : ByteArray) (F : Nat → Prop) (D : List (List UInt8)) (r : Nat) (la : List Nat) (x : Nat) (v : Value) (F1 : Nat → Prop) (vs1 : Array Value) (E1 : List (List UInt8)) (L : List Nat) : Prop where
  tbl : Tbl wr gL gC F1 vs1 (D ++ E1)
  few : E1.length ≤ x * callsN n r
  off : Off F w wr
  foot : ∀ b, F1 b → F b ∨ w.heap.size + 2 ≤ b
  own : Own w.heap.size wr v L
  apart : ∀ k, v.ownBlock = some k → ¬ F1 k
  up : L.Pairwise (· < ·)
  short : L.length ≤ x
  all : ∀ z, z < x → ∃ m ∈ L, Gs.TypeNum (D ++ E1) (stOf n S R) r (la ++ [z]) m
  only : ∀ m ∈ L, ∃ z, z < x ∧ Gs.TypeNum (D ++ E1) (stOf n S R) r (la ++ [z]) m
  box : Boxes w wr gL gC n S R

theorem St5.step {w wr w2 w3 w4 : World} {gL gC n : Nat} {S R : ByteArray} {F F1 F2 : Nat → Prop} {D E1 E2 : List (List UInt8)} {r : Nat} {la L : List Nat} {x num : Nat} {v v' : Value} {vs1 vs2 : Array Value}
    (h : St5 w wr gL gC n S R F D r la x v F1 vs1 E1 L) (hF : ∀ b, F b → b < w.heap.size) (hb : Below wr.heap.size wr w2) (ht : Tbl w3 gL gC F2 vs2 (D ++ E1 ++ E2)) (hE : E2.length ≤ callsN n r) (hn : Gs.TypeNum (D ++ E1 ++ E2) (stOf n S R) r (la ++ [x]) num)
    (hoff : Off F1 w2 w3) (hF2 : ∀ b, F2 b → F1 b ∨ w2.heap.size ≤ b) (hown : Own w.heap.size w4 v' (Gs.ins L num)) (hg : w3.grownBy w4 v.ownBlock) (hat : v'.ownBlock = v.ownBlock ∨ ∃ k, v'.ownBlock = some k ∧ w3.heap.size ≤ k) :
    St5 w w4 gL gC n S R F D r la (x + 1) v' F2 vs2 (E1 ++ E2) (Gs.ins L num) := by
  have hw2 : wr.heap.size + 0 ≤ w2.heap.size := hb.size
  have hs := h.off.size
  have hbx := h.box.s.cells.2.2.2.2.2.2
  obtain ⟨k, hk1, hk2, hk3⟩ := h.own.block
  have hkF2 : ¬ F2 k := fun e => (hF2 k e).elim (h.apart k hk1) (by omega)
  have hoff4 : Off (fun b => v.ownBlock = some b) w3 w4 := Off.grown hg (fun b e => e)
  have o1 : Off F w w2 := h.off.trans (Off.of_below (F := fun _ => False) hb) (fun b h => h.elim)
  have o2 : Off F w w3 := o1.trans hoff (fun b hb => (h.foot b hb).elim .inl (fun e => .inr (by omega)))
  have o3 : Off F w w4 := o2.trans hoff4 (fun b e => .inr (by rw [hk1] at e; obtain rfl := Option.some.inj e; exact hk2))
  have x3 : Boxes w w3 gL gC n S R := by
    have hl2 : w.heap.size + 1 < w2.heap.size := by omega
    have b2 : Boxes w w2 gL gC n S R := ⟨(hb.block _ (by omega)).trans h.box.t, h.box.s.below hb hbx⟩
    refine ⟨(hoff.block _ (by omega) fun e => ?_).trans b2.t, (hoff.block _ hl2 fun e => ?_).trans b2.s⟩
    · rcases h.foot _ e with h1 | h1
      · have := hF _ h1; omega
      · omega
    · rcases h.foot _ e with h1 | h1
      · have := hF _ h1; omega
      · omega
  have hs3 : w.heap.size + 1 < w3.heap.size := x3.s.cells.2.2.2.2.2.2
  refine ⟨?_, ?_, o3, ?_, hown, ?_, Gs.ins_sorted h.up, ?_, ?_, ?_, ?_⟩
  · rw [← List.append_assoc]
    refine ht.off hoff4 fun b hb e => ?_
    rw [hk1] at e
    obtain rfl := Option.some.inj e
    exact hkF2 hb
  · rw [List.length_append, Nat.succ_mul]
    have := h.few
    omega
  · intro b hb2
    rcases hF2 b hb2 with h1 | h1
    · exact h.foot b h1
    · exact .inr (by omega)
  · intro j hj e
    rcases hat with h1 | ⟨j', h1, h2⟩
    · rw [h1, hk1] at hj
      obtain rfl := Option.some.inj hj
      exact hkF2 e
    · rw [h1] at hj
      obtain rfl := Option.some.inj hj
      have := ht.lt _ e
      omega
  · have := Gs.ins_length L num
    have := h.short
    omega
  · intro z hz
    rw [← List.append_assoc]
    by_cases hzx : z = x
    · subst hzx
      exact ⟨num, Gs.mem_ins.2 (.inl rfl), hn⟩
    · obtain ⟨m, hm, h1⟩ := h.all z (by omega)
      exact ⟨m, Gs.mem_ins.2 (.inr hm), h1.more⟩
  · intro m hm
    rw [← List.append_assoc]
    rcases Gs.mem_ins.1 hm with rfl | hm
    · exact ⟨x, by omega, hn⟩
    · obtain ⟨z, hz, h1⟩ := h.only m hm
      exact ⟨z, by omega, h1.more⟩
  · refine ⟨(hg.block _ (by omega) fun e => ?_).trans x3.t, (hg.block _ hs3 fun e => ?_).trans x3.s⟩
    · rw [hk1] at e
      have e := Option.some.inj e
      subst e
      have h1 := h.own.own.2
      rcases h1 with ⟨h1, _⟩ | ⟨g, cap, cur, h1, _, h2, _⟩
      · exact h.own.ne h1
      · rw [h1] at hk1
        obtain rfl : g = w.heap.size := Option.some.inj hk1
        rw [h.box.t] at h2
        injection h2 with h2
        injection h2 with h3 h4 h5
        exact absurd h4 (by decide)
    · rw [hk1] at e
      have e := Option.some.inj e
      have h1 := h.own.own.2
      rcases h1 with ⟨h1, _⟩ | ⟨g, cap, cur, h1, _, h2, _⟩
      · exact h.own.ne h1
      · rw [h1] at hk1
        obtain rfl : g = k := Option.some.inj hk1
        have h6 := h.box.s
        unfold SBlk at h6
        rw [e, h2] at h6
        injection h6 with h6
        injection h6 with h3 h4 h5
        exact absurd h4 (by decide)
theorem commas_succ (L : List Nat) (k : Nat) (hk : k < L.length) : Gs.commas (L.take (k + 1)) = Gs.commas (L.take k) ++ ([44] ++ Lib.decDigits (L.getD k 0)) := by
  unfold Gs.commas
  rw [List.take_succ_eq_append_getElem hk, List.flatMap_append]
  simp [hk]

end Go.Proofs.YtnhlhjehocngcaaDoor

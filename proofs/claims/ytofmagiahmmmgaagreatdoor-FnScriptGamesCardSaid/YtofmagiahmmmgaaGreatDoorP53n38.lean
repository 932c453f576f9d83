/- Contracts of the program's functions and what they compute: part 38. Conditions: those that each theorem states. -/
import Derived.Test.YtofmagiahmmmgaaGreatDoorP53n6
import Derived.Test.YtofmagiahmmmgaaGreatDoorP53n9
import Derived.Test.YtofmagiahmmmgaaGreatDoorP53n27
import Derived.Test.YtofmagiahmmmgaaGreatDoorP53n37
import Derived.Deep.RegionHeld3
namespace Go.Proofs.YtofmagiahmmmgaaGreatDoor
open Go.RowKit
set_option linter.unusedVariables false
/-- How many descriptions there are at most. -/
def callsN (n : Nat) : Nat → Nat
  | 0 => 1
  | r + 1 => n * callsN n r + 1
/-- What l5Type leaves. -/
def Typed (gL gC : Nat) (F : Nat → Prop) (D : List (List UInt8)) (a : Gs.St) (r : Nat) (la : List Nat) (w : World) (e : Ending) (w' : World) : Prop :=
  ∃ (num : Nat) (F' : Nat → Prop) (vs' : Array Value) (E : List (List UInt8)), e = .returned (.int .i64 (num : Int)) ∧ Tbl w' gL gC F' vs' (D ++ E) ∧ E.length ≤ callsN a.n r ∧ Gs.TypeNum (D ++ E) a r la num ∧ Off F w w' ∧ ∀ b, F' b → F b ∨ w.heap.size ≤ b
/-- What is asked. -/
structure TypeReady (gL gC : Nat) (F : Nat → Prop) (vs : Array Value) (D : List (List UInt8)) (n : Nat) (S R : ByteArray) (va : Value) (la : List Nat) (r : Nat) (w : World) : Prop where
  tbl : Tbl w gL gC F vs D
  room : D.length + callsN n r ≤ 1000000
  hS : S.size = n
  hR : R.size = n * n
  hn : n ≤ 8
  nums : NumsAt w va la
  apart : ∀ k, va.ownBlock = some k → ¬ F k
  len : la.length + r ≤ 8
  elem : ∀ z ∈ la, z < n
def TypeOK (r : Nat) : Prop := ∀ (gL gC : Nat) (F : Nat → Prop) (vs : Array Value) (D : List (List UInt8)) (n : Nat) (S R : ByteArray) (va : Value) (la : List Nat) (w : World), TypeReady gL gC F vs D n S R va la r w →
  Calls Tryz.prog 89 #[tblV gL gC, strV n S R, va, .int .i64 (r : Int)] w (Typed gL gC F D (stOf n S R) r la w)
/-- The table's and the structure's boxes. -/
structure Boxes (w wr : World) (gL gC n : Nat) (S R : ByteArray) : Prop where
  t : wr.heap[w.heap.size]? = some (.cells #[.slice (some ⟨gL, 0, none⟩) 997 997, .slice (some ⟨gC, 0, none⟩) 1 1] 121 (0, 0))
  s : SBlk wr (w.heap.size + 1) n S R
theorem Boxes.cells {w wr : World} {gL gC n : Nat} {S R : ByteArray} (h : Boxes w wr gL gC n S R) :
    wr.cell? ⟨w.heap.size, 0, none⟩ = some (.slice (some ⟨gL, 0, none⟩) 997 997) ∧ wr.cell? ⟨w.heap.size, 1, none⟩ = some (.slice (some ⟨gC, 0, none⟩) 1 1) ∧
    wr.cell? ⟨w.heap.size + 1, 0, none⟩ = some (.int .i64 n) ∧ wr.cell? ⟨w.heap.size + 1, 1, none⟩ = some (.string S) ∧ wr.cell? ⟨w.heap.size + 1, 2, none⟩ = some (.string R) := by
  have := h.s.cells
  refine ⟨?_, ?_, this.1, this.2.1, this.2.2.1⟩ <;> simp [World.cell?, h.t]
/-- The world behind both boxes. -/
def boxT (w : World) (gL gC n : Nat) (S R : ByteArray) : World := boxS (w.alloc (.cells #[.slice (some ⟨gL, 0, none⟩) 997 997, .slice (some ⟨gC, 0, none⟩) 1 1] 121)) n S R
theorem boxT_size (w : World) (gL gC n : Nat) (S R : ByteArray) : (boxT w gL gC n S R).heap.size = w.heap.size + 2 := by simp [boxT, boxS]
theorem boxT_below (w : World) (gL gC n : Nat) (S R : ByteArray) : Below w.heap.size w (boxT w gL gC n S R) := ((Below.refl _ _).alloc (Nat.le_refl _) _).alloc (by simp) _
theorem boxT_boxes (w : World) (gL gC n : Nat) (S R : ByteArray) : Boxes w (boxT w gL gC n S R) gL gC n S R := by
  refine ⟨?_, ?_⟩
  · exact (Below.heap_alloc _ _ _ (by simp)).trans (heap_alloc_new w _)
  · have h := boxS_SBlk (w.alloc (.cells #[.slice (some ⟨gL, 0, none⟩) 997 997, .slice (some ⟨gC, 0, none⟩) 1 1] 121)) n S R
    unfold boxT
    simpa using h
theorem Boxes.off {w w0 wr : World} {gL gC n : Nat} {S R : ByteArray} {F : Nat → Prop} (h : Boxes w w0 gL gC n S R) (hw : Off F w0 wr) (hF : ∀ b, F b → b < w.heap.size) : Boxes w wr gL gC n S R := by
  have hl := h.s.cells.2.2.2.2.2.2
  exact ⟨(hw.block _ (by omega) (fun e => by have := hF _ e; omega)).trans h.t, (hw.block _ hl (fun e => by have := hF _ e; omega)).trans h.s⟩
theorem txt_dec (u : Nat) : decS u = txt (Lib.decDigits u) := rfl
theorem desc_txt (r : Nat) (l : List UInt8) (L : List Nat) : decS r ++ ⟨#[58]⟩ ++ (txt l ++ txt (Gs.commas L)) = txt (Gs.desc r l L) := by
  unfold Gs.desc
  rw [txt_append, txt_append, txt_append]
  rfl
theorem typed_end {gL gC : Nat} {F F1 F' : Nat → Prop} {D E1 D' : List (List UInt8)} {vs' : Array Value} {a : Gs.St} {r : Nat} {la : List Nat} {w wr w4 : World} {s : List UInt8} {num : Nat}
    (hw : Off F w wr) (hF1 : ∀ b, F1 b → F b ∨ w.heap.size ≤ b) (hE : E1.length + 1 ≤ callsN a.n r) (ht : Tbl w4 gL gC F' vs' D') (hd : D' = D ++ E1 ∨ D' = D ++ E1 ++ [s]) (hn : D'[num]? = some s)
    (hoff : Off F1 wr w4) {sz : Nat} (hF' : ∀ b, F' b → F1 b ∨ sz ≤ b) (hsz : wr.heap.size ≤ sz) (hT : ∀ D', (D' = D ++ E1 ∨ D' = D ++ E1 ++ [s]) → D'[num]? = some s → Gs.TypeNum D' a r la num) :
    Typed gL gC F D a r la w (.returned (.int .i64 (num : Int))) w4 := by
  have h1 : Off F w w4 := hw.trans hoff hF1
  have h2 : ∀ b, F' b → F b ∨ w.heap.size ≤ b := fun b hb => (hF' b hb).elim (hF1 b) (fun h => .inr (by have := hw.size; omega))
  have h3 := hT D' hd hn
  rcases hd with rfl | rfl
  · exact ⟨num, F', vs', E1, rfl, ht, by omega, h3, h1, h2⟩
  · rw [List.append_assoc] at ht h3
    exact ⟨num, F', vs', E1 ++ [s], rfl, ht, by simp; omega, h3, h1, h2⟩
theorem desc_len (r : Nat) (a : Gs.St) (la : List Nat) (L : List Nat) (hr : r ≤ 8) (hla : la.length ≤ 8) (hL : L.length ≤ 8) (hLb : ∀ m ∈ L, m ≤ 1000000) : (Gs.desc r (Gs.atoms a la) L).length ≤ 1000 := by
  have h1 := atomsTo_le a la la.length hla
  have h2 : ∀ M : List Nat, (∀ m ∈ M, m ≤ 1000000) → (Gs.commas M).length ≤ 21 * M.length := by
    intro M
    induction M with
    | nil => intro _; simp [Gs.commas]
    | cons m M ih =>
      intro hM
      have h3 := decS_size m (by have := hM m (by simp); omega)
      rw [txt_dec, txt_size] at h3
      have h4 := ih (fun m hm => hM m (by simp [hm]))
      simp only [Gs.commas, List.flatMap_cons, List.length_append, List.length_cons] at *
      omega
  have h3 := h2 L hLb
  have h4 := decS_size r (by omega)
  rw [txt_dec, txt_size] at h4
  unfold Gs.desc
  simp only [List.length_append, List.length_cons, List.length_nil]
  unfold Gs.atoms
  omega
set_option maxRecDepth 100000 in
set_option maxHeartbeats 1000000 in
theorem type_zero : TypeOK 0 := by
  intro gL gC F vs D n S R va la w hp
  have HP := Lib.hid hp
  have HB0 := Lib.hid (boxT_below w gL gC n S R)
  have HX0 := Lib.hid (boxT_boxes w gL gC n S R)
  have HA := Lib.hid (l5Atoms_any n S R va la (boxT w gL gC n S R) hp.hS hp.hR hp.hn (hp.nums.below HB0.out) (by have := hp.len; omega) hp.elem)
  have HSZ0 := Lib.hid (boxT_size w gL gC n S R)
  have hdec : ∀ W, Calls Tryz.prog 148 #[.int .i64 0] W fun e w' => e = .returned (.string (decS 0)) ∧ Below W.heap.size W w' := fun W => dec_any 0 W (by omega)
  have HDEC := Lib.hid hdec
  have hnum : ∀ W, Tbl W gL gC F vs D → Calls Tryz.prog 149 #[tblV gL gC, .string (decS 0 ++ ⟨#[58]⟩ ++ txt (Gs.atoms (stOf n S R) la))] W (Numbered gL gC F D (Gs.desc 0 (Gs.atoms (stOf n S R) la) []) W) := by
    intro W hW
    have e := desc_txt 0 (Gs.atoms (stOf n S R) la) []
    have e2 : txt (Gs.atoms (stOf n S R) la) ++ txt (Gs.commas []) = txt (Gs.atoms (stOf n S R) la) := by rw [← txt_append]; simp [Gs.commas]
    rw [e2] at e
    rw [e]
    have h1 := hp.room
    have h2 := desc_len 0 (stOf n S R) la [] (by omega) (by have := hp.len; omega) (by simp) (by simp)
    exact l5Number_any gL gC F vs D _ W hW (by omega) (by omega)
  unfold tblV at hnum
  have HNUM := Lib.hid hnum
  have hz : (txt (Gs.atoms (stOf n S R) la)).size ≤ 300 := by
    rw [txt_size]
    have := atomsTo_le (stOf n S R) la la.length (by have := hp.len; omega)
    have := hp.len
    unfold Gs.atoms
    omega
  have hz0 : (decS 0).size ≤ 20 := decS_size 0 (by omega)
  clear hp hdec hnum
  obtain ⟨T, hT⟩ : ∃ T, txt (Gs.atoms (stOf n S R) la) = T := ⟨_, rfl⟩
  rw [hT] at hz HA HNUM
  clear hT
  obtain ⟨z, hz1⟩ : ∃ z, decS 0 = z := ⟨_, rfl⟩
  rw [hz1] at hz0 HDEC HNUM
  clear hz1
  obtain ⟨q0, q1, q2, q3, q4⟩ := HX0.out.cells
  unfold boxT boxS at q0 q1 q2 q3 q4
  unfold strV tblV
  unfold strV boxT boxS at HA
  go_enter Tryz.func89, Tryz.ntmps89
  go_wp2_with fail
  refine HA.out.mono ?_; rintro e wr ⟨rfl, hb⟩
  have HBX : Hid (Boxes w wr gL gC n S R) := HX0.out.off (Off.of_below (F := fun _ => False) hb) (fun b h => h.elim)
  have HOW : Hid (Below w.heap.size w wr) := HB0.out.trans (hb.mono (by have := HSZ0.out; unfold boxT boxS at this; omega))
  have HTB := Lib.hid (HP.out.tbl.below HOW.out)
  obtain ⟨F1, hF1⟩ : ∃ G, F = G := ⟨_, rfl⟩
  have HFF := Lib.hid hF1
  rw [hF1] at HTB HNUM
  have HLT : Hid (w.heap.size < wr.heap.size) := by
    have := HBX.out.s.cells.2.2.2.2.2.2; show _ < _; omega
  have HNB : Hid (¬ F1 w.heap.size) := fun e => by
    rw [← HFF.out] at e
    have := HP.out.tbl.lt _ e; omega
  clear hb hF1 HA HX0 HB0 q0 q1 q2 q3 q4
  have KS : Hid (∀ w' : World, Off F1 wr w' → (w'.cell? ⟨w.heap.size, 0, none⟩ = some (.slice (some ⟨gL, 0, none⟩) 997 997) ∧ w'.cell? ⟨w.heap.size, 1, none⟩ = some (.slice (some ⟨gC, 0, none⟩) 1 1))) := fun w' h =>
    ⟨(h.cell (p := ⟨w.heap.size, 0, none⟩) HLT.out HNB.out).trans HBX.out.cells.1, (h.cell (p := ⟨w.heap.size, 1, none⟩) HLT.out HNB.out).trans HBX.out.cells.2.1⟩
  obtain ⟨q0, q1, q2, q3, q4⟩ := HBX.out.cells
  go_wp2_with fail
  go_region_with (first | ((with_reducible refine (HDEC.out _).mono ?_); rintro e w3 ⟨rfl, hb⟩; have HB3 := Lib.hid ((Below.refl wr.heap.size wr).drew.trans (hb.mono (Nat.le_refl _))); have HOF := Lib.hid (Off.of_below (F := F1) HB3.out); have k0 := (KS.out _ HOF.out).1; have k1 := (KS.out _ HOF.out).2; clear hb) | ((with_reducible refine (HNUM.out _ ?_).mono ?_); (exact HTB.out.below HB3.out); rintro e w4 ⟨num, F', vs', D', rfl, ht, hd, hn, hoff, hF'⟩; have HOF := Lib.hid ((Off.of_below (F := F1) HB3.out).trans hoff (fun b hb => .inl hb)); have HRES := Lib.hid (And.intro ht (And.intro hd (And.intro hn (And.intro hoff hF')))); have HSZ3 := Lib.hid HB3.out.size; clear ht hd hn hoff hF') | fail)
  all_goals
    go_wp2_with fail
    go_ret
    obtain ⟨ht, hd, hn, hoff, hF'⟩ := HRES.out
    refine typed_end (E1 := []) (Off.of_below HOW.out) (fun b hb => .inl (by rw [HFF.out]; exact hb)) (by simp [callsN]) ht (by simpa using hd) hn HOF.out hF' HSZ3.out ?_
    intro D' hD' hn'
    exact hn'
end Go.Proofs.YtofmagiahmmmgaaGreatDoor
namespace Go.Proofs.YtofmagiahmmmgaaGreatDoor
open Go.RowKit
set_option linter.unusedVariables false
theorem b_assoc (a b c : ByteArray) : a ++ b ++ c = a ++ (b ++ c) := by
  apply ByteArray.ext
  simp [ByteArray.data_append, Array.append_assoc]
theorem b_nil (a : ByteArray) : a ++ ByteArray.empty = a := by
  apply ByteArray.ext
  simp
theorem below_cell {w w' : World} {p : Addr} {v : Value} (hb : Below w.heap.size w w') (h : w.cell? p = some v) : w'.cell? p = some v := (hb.cell (World.block_lt_of_cell? w p h)).trans h
theorem typeNum_lt {D : List (List UInt8)} {a : Gs.St} {r : Nat} {la : List Nat} {m : Nat} (h : Gs.TypeNum D a r la m) : m < D.length := by
  cases r with
  | zero => exact (List.getElem?_eq_some_iff.1 (show D[m]? = _ from h)).1
  | succ r =>
    obtain ⟨L, _, _, _, h4⟩ := h
    exact (List.getElem?_eq_some_iff.1 h4).1
/-- What the first loop keeps. -/
structure St5 (w wr : World) (gL gC n : Nat) (S R : ByteArray) (F : Nat → Prop) (D : List (List UInt8)) (r : Nat) (la : List Nat) (x : Nat) (v : Value) (F1 : Nat → Prop) (vs1 : Array Value) (E1 : List (List UInt8)) (L : List Nat) : Prop where
  tbl : Tbl wr gL gC F1 vs1 (D ++ E1)
  few : E1.length ≤ x * callsN n r
  off : Off F w wr
  foot : ∀ b, F1 b → F b ∨ w.heap.size + 2 ≤ b
  own : Own w.heap.size wr v L
  apart : ∀ k, v.ownBlock = some k → ¬ F1 k
  up : L.Pairwise (· < ·)
  short : L.length ≤ x
  all : ∀ z, z < x → ∃ m ∈ L, Gs.TypeNum (D ++ E1) (stOf n S R) r (la ++ [z]) m
  only : ∀ m ∈ L, ∃ z, z < x ∧ Gs.TypeNum (D ++ E1) (stOf n S R) r (la ++ [z]) m
  box : Boxes w wr gL gC n S R
theorem St5.step {w wr w2 w3 w4 : World} {gL gC n : Nat} {S R : ByteArray} {F F1 F2 : Nat → Prop} {D E1 E2 : List (List UInt8)} {r : Nat} {la L : List Nat} {x num : Nat} {v v' : Value} {vs1 vs2 : Array Value}
    (h : St5 w wr gL gC n S R F D r la x v F1 vs1 E1 L) (hF : ∀ b, F b → b < w.heap.size) (hb : Below wr.heap.size wr w2) (ht : Tbl w3 gL gC F2 vs2 (D ++ E1 ++ E2)) (hE : E2.length ≤ callsN n r) (hn : Gs.TypeNum (D ++ E1 ++ E2) (stOf n S R) r (la ++ [x]) num)
    (hoff : Off F1 w2 w3) (hF2 : ∀ b, F2 b → F1 b ∨ w2.heap.size ≤ b) (hown : Own w.heap.size w4 v' (Gs.ins L num)) (hg : w3.grownBy w4 v.ownBlock) (hat : v'.ownBlock = v.ownBlock ∨ ∃ k, v'.ownBlock = some k ∧ w3.heap.size ≤ k) :
    St5 w w4 gL gC n S R F D r la (x + 1) v' F2 vs2 (E1 ++ E2) (Gs.ins L num) := by
  have hw2 : wr.heap.size + 0 ≤ w2.heap.size := hb.size
  have hs := h.off.size
  have hbx := h.box.s.cells.2.2.2.2.2.2
  obtain ⟨k, hk1, hk2, hk3⟩ := h.own.block
  have hkF2 : ¬ F2 k := fun e => (hF2 k e).elim (h.apart k hk1) (by omega)
  have hoff4 : Off (fun b => v.ownBlock = some b) w3 w4 := Off.grown hg (fun b e => e)
  have o1 : Off F w w2 := h.off.trans (Off.of_below (F := fun _ => False) hb) (fun b h => h.elim)
  have o2 : Off F w w3 := o1.trans hoff (fun b hb => (h.foot b hb).elim .inl (fun e => .inr (by omega)))
  have o3 : Off F w w4 := o2.trans hoff4 (fun b e => .inr (by rw [hk1] at e; obtain rfl := Option.some.inj e; exact hk2))
  have x3 : Boxes w w3 gL gC n S R := by
    have hl2 : w.heap.size + 1 < w2.heap.size := by omega
    have b2 : Boxes w w2 gL gC n S R := ⟨(hb.block _ (by omega)).trans h.box.t, h.box.s.below hb hbx⟩
    refine ⟨(hoff.block _ (by omega) fun e => ?_).trans b2.t, (hoff.block _ hl2 fun e => ?_).trans b2.s⟩
    · rcases h.foot _ e with h1 | h1
      · have := hF _ h1; omega
      · omega
    · rcases h.foot _ e with h1 | h1
      · have := hF _ h1; omega
      · omega
  have hs3 : w.heap.size + 1 < w3.heap.size := x3.s.cells.2.2.2.2.2.2
  refine ⟨?_, ?_, o3, ?_, hown, ?_, Gs.ins_sorted h.up, ?_, ?_, ?_, ?_⟩
  · rw [← List.append_assoc]
    refine ht.off hoff4 fun b hb e => ?_
    rw [hk1] at e
    obtain rfl := Option.some.inj e
    exact hkF2 hb
  · rw [List.length_append, Nat.succ_mul]
    have := h.few
    omega
  · intro b hb2
    rcases hF2 b hb2 with h1 | h1
    · exact h.foot b h1
    · exact .inr (by omega)
  · intro j hj e
    rcases hat with h1 | ⟨j', h1, h2⟩
    · rw [h1, hk1] at hj
      obtain rfl := Option.some.inj hj
      exact hkF2 e
    · rw [h1] at hj
      obtain rfl := Option.some.inj hj
      have := ht.lt _ e
      omega
  · have := Gs.ins_length L num
    have := h.short
    omega
  · intro z hz
    rw [← List.append_assoc]
    by_cases hzx : z = x
    · subst hzx
      exact ⟨num, Gs.mem_ins.2 (.inl rfl), hn⟩
    · obtain ⟨m, hm, h1⟩ := h.all z (by omega)
      exact ⟨m, Gs.mem_ins.2 (.inr hm), h1.more⟩
  · intro m hm
    rw [← List.append_assoc]
    rcases Gs.mem_ins.1 hm with rfl | hm
    · exact ⟨x, by omega, hn⟩
    · obtain ⟨z, hz, h1⟩ := h.only m hm
      exact ⟨z, by omega, h1.more⟩
  · refine ⟨(hg.block _ (by omega) fun e => ?_).trans x3.t, (hg.block _ hs3 fun e => ?_).trans x3.s⟩
    · rw [hk1] at e
      have e := Option.some.inj e
      subst e
      have h1 := h.own.own.2
      rcases h1 with ⟨h1, _⟩ | ⟨g, cap, cur, h1, _, h2, _⟩
      · exact h.own.ne h1
      · rw [h1] at hk1
        obtain rfl : g = w.heap.size := Option.some.inj hk1
        rw [h.box.t] at h2
        injection h2 with h2
        injection h2 with h3 h4 h5
        exact absurd h4 (by decide)
    · rw [hk1] at e
      have e := Option.some.inj e
      have h1 := h.own.own.2
      rcases h1 with ⟨h1, _⟩ | ⟨g, cap, cur, h1, _, h2, _⟩
      · exact h.own.ne h1
      · rw [h1] at hk1
        obtain rfl : g = k := Option.some.inj hk1
        have h6 := h.box.s
        unfold SBlk at h6
        rw [e, h2] at h6
        injection h6 with h6
        injection h6 with h3 h4 h5
        exact absurd h4 (by decide)
theorem commas_succ (L : List Nat) (k : Nat) (hk : k < L.length) : Gs.commas (L.take (k + 1)) = Gs.commas (L.take k) ++ ([44] ++ Lib.decDigits (L.getD k 0)) := by
  unfold Gs.commas
  rw [List.take_succ_eq_append_getElem hk, List.flatMap_append]
  simp [hk]
set_option maxRecDepth 100000 in
set_option maxHeartbeats 4000000 in
theorem type_succ (r : Nat) (hr : r ≤ 8) (HI : Hid (TypeOK r)) : TypeOK (r + 1) := by
  intro gL gC F vs D n S R va la w hp
  have HP := Lib.hid hp
  have hn := hp.hn
  have HB0 := Lib.hid (boxT_below w gL gC n S R)
  have HX0 := Lib.hid (boxT_boxes w gL gC n S R)
  have HA := Lib.hid (l5Atoms_any n S R va la (boxT w gL gC n S R) hp.hS hp.hR hp.hn (hp.nums.below HB0.out) (by have := hp.len; omega) hp.elem)
  have HSZ0 := Lib.hid (boxT_size w gL gC n S R)
  have HFL : Hid (∀ b, F b → b < w.heap.size) := hp.tbl.lt
  have hz : (txt (Gs.atoms (stOf n S R) la)).size ≤ 300 := by
    rw [txt_size]
    have := atomsTo_le (stOf n S R) la la.length (by have := hp.len; omega)
    have := hp.len
    unfold Gs.atoms
    omega
  have HLA : Hid (la.length ≤ 1000) := by have := hp.len; show _ ≤ _; omega
  obtain ⟨K, hK⟩ : ∃ K : Int, ((r + 1 : Nat) : Int) = K := ⟨_, rfl⟩
  have hK1 : K = (r : Int) + 1 := by omega
  have hdec : ∀ W, Calls Tryz.prog 148 #[.int .i64 K] W fun e w' => e = .returned (.string (decS (r + 1))) ∧ Below W.heap.size W w' := fun W => by
    rw [← hK]; exact dec_any (r + 1) W (by omega)
  have HDEC := Lib.hid hdec
  have hz0 : (decS (r + 1)).size ≤ 20 := decS_size (r + 1) (by omega)
  rw [hK]
  have hKp : 0 < K := by omega
  have hKw : IntKind.i64.wrap (K - 1) = (r : Int) := by
    rw [hK1, show (r : Int) + 1 - 1 = (r : Int) by omega]; exact IntWalk.i64_in _ (by omega)
  obtain ⟨z, hz1⟩ : ∃ z, decS (r + 1) = z := ⟨_, rfl⟩
  have HZ1 := Lib.hid hz1
  rw [hz1] at hz0 HDEC
  clear hz1 hp hdec hK hK1
  obtain ⟨T, hT⟩ : ∃ T, txt (Gs.atoms (stOf n S R) la) = T := ⟨_, rfl⟩
  rw [hT] at hz HA
  have HTT := Lib.hid hT
  clear hT
  obtain ⟨q0, q1, q2, q3, q4⟩ := HX0.out.cells
  unfold boxT boxS at q0 q1 q2 q3 q4
  unfold strV tblV
  unfold strV boxT boxS at HA
  go_enter Tryz.func89, Tryz.ntmps89
  go_wp2_with fail
  refine HA.out.mono ?_; rintro e w1 ⟨rfl, hb⟩
  have HBX : Hid (Boxes w w1 gL gC n S R) := HX0.out.off (Off.of_below (F := fun _ => False) hb) (fun b h => h.elim)
  have HOW : Hid (Below w.heap.size w w1) := HB0.out.trans (hb.mono (by have := HSZ0.out; unfold boxT boxS at this; omega))
  clear hb HA HX0 HB0 q0 q1 q2 q3 q4
  obtain ⟨q0, q1, q2, q3, q4⟩ := HBX.out.cells
  go_wp2_with fail
  have HS0 : Hid (St5 w (w1.alloc (.cells #[] 3)) gL gC n S R F D r la 0 (.slice (some ⟨w1.heap.size, 0, none⟩) 0 0) F vs [] []) := by
    have hs1 := HOW.out.size
    have hb1 : Below w1.heap.size w1 (w1.alloc (.cells #[] 3)) := (Below.refl _ _).alloc (Nat.le_refl _) _
    refine ⟨?_, by simp, (Off.of_below HOW.out).trans (Off.of_below (F := fun _ => False) hb1) (fun b h => h.elim), fun b hb => .inl hb, Own.lit0 _ _ hs1, ?_, List.Pairwise.nil, Nat.le_refl _, fun z hz => absurd hz (Nat.not_lt_zero z), fun m hm => (by cases hm), ?_⟩
    · rw [List.append_nil]; exact (HP.out.tbl.below HOW.out).below hb1
    · intro k hk e
      have hk : w1.heap.size = k := Option.some.inj hk
      have := HFL.out _ e; omega
    · exact HBX.out.off (Off.of_below (F := fun _ => False) hb1) (fun b h => h.elim)
  go_loopw [10, 11] (fun v i wr => ∃ x : Nat, x ≤ n ∧ i = .int .i64 x ∧ Hid (∃ F1 vs1 E1 L, St5 w wr gL gC n S R F D r la x v F1 vs1 E1 L)) (fun _ i _ => n - (intOf i).toNat)
  case atStart => exact ⟨0, by omega, rfl, F, vs, [], [], HS0.out⟩
  case round =>
    obtain ⟨x, hx, rfl, HST⟩ := hrel
    clear q0 q1 q2 q3 q4
    obtain ⟨F1, vs1, E1, L, hst⟩ := HST.out
    have HST1 := Lib.hid hst
    obtain ⟨q0, q1, q2, q3, q4⟩ := hst.box.cells
    clear hst HST
    by_cases hlt : x < n
    · have HND : Hid (∀ W, Below wr.heap.size wr W → NumsAt W va la) := fun W hW => by
        refine (HP.out.nums.off HST1.out.off HP.out.apart).below hW
      have HTY : Hid (∀ W v1, Below wr.heap.size wr W → NumsAt W v1 (la ++ [x]) → (∃ k, v1.ownBlock = some k ∧ wr.heap.size ≤ k) → Calls Tryz.prog 89 #[tblV gL gC, strV n S R, v1, .int .i64 (r : Int)] W (Typed gL gC F1 (D ++ E1) (stOf n S R) r (la ++ [x]) W)) := by
        intro W v1 hW h1 h2
        refine HI.out gL gC F1 vs1 (D ++ E1) n S R v1 (la ++ [x]) W ⟨HST1.out.tbl.below hW, ?_, HP.out.hS, HP.out.hR, hn, h1, ?_, ?_, ?_⟩
        · have e1 := HP.out.room
          have e2 := HST1.out.few
          have e3 : (x + 1) * callsN n r ≤ n * callsN n r := Nat.mul_le_mul_right _ (by omega)
          simp only [callsN] at e1
          rw [Nat.succ_mul] at e3
          rw [List.length_append]
          omega
        · intro k hk e
          obtain ⟨j, hj, hl⟩ := h2
          rw [hj] at hk
          obtain rfl := Option.some.inj hk
          have := HST1.out.tbl.lt _ e; omega
        · have := HP.out.len; simp; omega
        · intro z hz
          rcases List.mem_append.1 hz with hz | hz
          · exact HP.out.elem z hz
          · simp at hz; omega
      unfold strV tblV at HTY
      go_wp2_with fail
      go_region_with (first | ((with_reducible refine (l4With_any va la x _ ?_ ?_).mono ?_); (exact HND.out _ (Below.refl _ _).drew); (exact HLA.out); rintro e w2 ⟨v1, rfl, ho, hb⟩; have HB2 := Lib.hid ((Below.refl wr.heap.size wr).drew.trans (hb.mono (Nat.le_refl _))); have HN2 := Lib.hid ho.nums; have HK2 := Lib.hid (ho.block); have k0 := below_cell HB2.out q0; have k1 := below_cell HB2.out q1; have k2 := below_cell HB2.out q2; have k3 := below_cell HB2.out q3; have k4 := below_cell HB2.out q4; clear ho hb) | ((with_reducible refine (HTY.out _ v1 HB2.out HN2.out ?_).mono ?_); (obtain ⟨k, h1, h2, _⟩ := HK2.out; exact ⟨k, h1, h2⟩); rintro e w3 ⟨num, F2, vs2, E2, rfl, ht, hE, hn2, hoff, hF2⟩; have HTY3 := Lib.hid (And.intro ht (And.intro hE (And.intro hn2 (And.intro hoff hF2)))); have HO3 := Lib.hid ((HST1.out.own.below HB2.out).off hoff HST1.out.apart); clear ht hE hn2 hoff hF2) | ((with_reducible refine (l5Insert_any w.heap.size _ L num _ HO3.out ?_).mono ?_); (have := HST1.out.short; omega); rintro e w4 ⟨v', rfl, ho, hg, hat⟩; have HS4 := Lib.hid (HST1.out.step HFL.out HB2.out HTY3.out.1 HTY3.out.2.1 HTY3.out.2.2.1 HTY3.out.2.2.2.1 HTY3.out.2.2.2.2 ho hg hat); clear ho hg hat) | fail)
      all_goals
        go_wp2_with fail
        go_roundw
        case rel => exact ⟨x + 1, by omega, by go_num, _, _, _, _, HS4.out⟩
        case measure => simp [intOf]; omega
    · have hxn : n = x := by omega
      subst hxn
      clear hlt hx
      have HLB : Hid (∀ m ∈ L, m ≤ 1000000) := fun m hm => by
        obtain ⟨z, _, h1⟩ := HST1.out.only m hm
        have h2 := typeNum_lt h1
        have h3 := HP.out.room
        have h4 := HST1.out.few
        simp only [callsN] at h3
        rw [List.length_append] at h2
        omega
      obtain ⟨gl, cl, rfl, hgl1, hgl2, hgl3, hgl4, hglc⟩ := HST1.out.own.cells
      unfold maxLen at hgl4
      have HGC := Lib.hid hglc
      have hL8 := HST1.out.short
      clear hglc
      obtain ⟨wo, rfl⟩ : ∃ wo : World, wo = wr := ⟨_, rfl⟩
      go_wp2_with fail
      go_loopw [12, 9] (fun q o wr => ∃ k : Nat, k ≤ L.length ∧ q = .int .i64 k ∧ ∃ out : ByteArray, o = .string out ∧ out.size ≤ 300 + 21 * k ∧ Hid (out = T ++ txt (Gs.commas (L.take k))) ∧ Hid (Below wo.heap.size wo wr)) (fun q _ _ => L.length - (intOf q).toNat)
      case atStart => exact ⟨0, by omega, rfl, T, rfl, by omega, (b_nil T).symm, Below.refl _ _⟩
      case round =>
        obtain ⟨k, hk, rfl, out, rfl, ho, HO, HBQ⟩ := hrel
        by_cases hlt2 : k < L.length
        · have d1 := (HBQ.out.cell (p := ⟨gl, k, none⟩) hgl2).trans (HGC.out k hlt2)
          have hm := HLB.out _ (show L.getD k 0 ∈ L by simp [hlt2])
          have HCS := Lib.hid (commas_succ L k hlt2)
          obtain ⟨m, hmx⟩ : ∃ m, L.getD k 0 = m := ⟨_, rfl⟩
          rw [hmx] at d1 hm HCS
          have HDM := Lib.hid (fun W => dec_any m W (by omega))
          have hmz := decS_size m (by omega)
          have HO2 : Hid (out ++ ⟨#[44]⟩ ++ decS m = T ++ txt (Gs.commas (L.take (k + 1)))) := by
            show _ = _
            rw [HO.out, HCS.out, txt_append, txt_append, b_assoc, b_assoc]
            rfl
          have HMI := Lib.hid hm
          clear hmx hm
          generalize decS m = dm at *
          go_wp2_with fail
          refine (HDM.out _).mono ?_; rintro e wq2 ⟨rfl, hb⟩
          have HBQ2 := Lib.hid (HBQ.out.trans (hb.mono HBQ.out.size))
          clear hb
          go_wp2_with fail
          go_roundw
          case rel =>
            refine ⟨k + 1, by omega, by go_num, _, rfl, ?_, HO2.out, HBQ2.out⟩
            have h44 : (⟨#[44]⟩ : ByteArray).size = 1 := rfl
            simp only [ByteArray.size_append, h44]; omega
          case measure => simp [intOf]; omega
        · have HOE : Hid (out = T ++ txt (Gs.commas L)) := by
            show _ = _
            rw [HO.out, List.take_of_length_le (by omega)]
          have hz9 : out.size ≤ 1000 := by omega
          clear HO
          have HBXQ : Hid (Boxes w wr gL gC n S R) := ⟨(HBQ.out.block _ (by have := HST1.out.box.s.cells.2.2.2.2.2.2; omega)).trans HST1.out.box.t, HST1.out.box.s.below HBQ.out HST1.out.box.s.cells.2.2.2.2.2.2⟩
          have HTBQ := Lib.hid (HST1.out.tbl.below HBQ.out)
          have HOFQ : Hid (Off F w wr) := HST1.out.off.trans (Off.of_below (F := fun _ => False) HBQ.out) (fun b h => h.elim)
          have hLT := HBXQ.out.s.cells.2.2.2.2.2.2
          have HLT : Hid (w.heap.size < wr.heap.size) := by show _ < _; omega
          have HNB : Hid (¬ F1 w.heap.size) := fun e => by
            rcases HST1.out.foot _ e with h1 | h1
            · have := HFL.out _ h1; omega
            · omega
          have hnum : ∀ W, Tbl W gL gC F1 vs1 (D ++ E1) → Calls Tryz.prog 149 #[tblV gL gC, .string (z ++ ⟨#[58]⟩ ++ out)] W (Numbered gL gC F1 (D ++ E1) (Gs.desc (r + 1) (Gs.atoms (stOf n S R) la) L) W) := by
            intro W hW
            have e := desc_txt (r + 1) (Gs.atoms (stOf n S R) la) L
            rw [HZ1.out, HTT.out, ← HOE.out] at e
            rw [e]
            have h1 := HP.out.room
            have h2 := HST1.out.few
            simp only [callsN] at h1
            have h3 := desc_len (r + 1) (stOf n S R) la L (by have := HP.out.len; omega) (by have := HP.out.len; omega) (by omega) HLB.out
            exact l5Number_any gL gC F1 vs1 (D ++ E1) _ W hW (by rw [List.length_append]; omega) (by omega)
          unfold tblV at hnum
          have HNUM := Lib.hid hnum
          have KS : Hid (∀ w' : World, Off F1 wr w' → (w'.cell? ⟨w.heap.size, 0, none⟩ = some (.slice (some ⟨gL, 0, none⟩) 997 997) ∧ w'.cell? ⟨w.heap.size, 1, none⟩ = some (.slice (some ⟨gC, 0, none⟩) 1 1))) := fun w' h =>
            ⟨(h.cell (p := ⟨w.heap.size, 0, none⟩) HLT.out HNB.out).trans HBXQ.out.cells.1, (h.cell (p := ⟨w.heap.size, 1, none⟩) HLT.out HNB.out).trans HBXQ.out.cells.2.1⟩
          clear hnum hLT q0 q1 q2 q3 q4
          obtain ⟨q0, q1, q2, q3, q4⟩ := HBXQ.out.cells
          go_wp2_with fail
          go_region_with (first | ((with_reducible refine (HDEC.out _).mono ?_); rintro e w3 ⟨rfl, hb⟩; have HB3 := Lib.hid ((Below.refl wr.heap.size wr).drew.trans (hb.mono (Nat.le_refl _))); have HOF := Lib.hid (Off.of_below (F := F1) HB3.out); have k0 := (KS.out _ HOF.out).1; have k1 := (KS.out _ HOF.out).2; clear hb) | ((with_reducible refine (HNUM.out _ ?_).mono ?_); (exact HTBQ.out.below HB3.out); rintro e w4 ⟨num, F', vs', D', rfl, ht, hd, hn, hoff, hF'⟩; have HOF := Lib.hid ((Off.of_below (F := F1) HB3.out).trans hoff (fun b hb => .inl hb)); have HRES := Lib.hid (And.intro ht (And.intro hd (And.intro hn (And.intro hoff hF')))); have HSZ3 := Lib.hid HB3.out.size; clear ht hd hn hoff hF') | fail)
          all_goals
            go_wp2_with fail
            go_ret
            obtain ⟨ht, hd, hn, hoff, hF'⟩ := HRES.out
            refine typed_end (E1 := E1) HOFQ.out (fun b hb => (HST1.out.foot b hb).imp id (fun h => by omega)) (Nat.succ_le_succ HST1.out.few) ht hd hn HOF.out hF' HSZ3.out ?_
            intro D' hD' hn'
            have hmore : ∀ {z m}, Gs.TypeNum (D ++ E1) (stOf n S R) r (la ++ [z]) m → Gs.TypeNum D' (stOf n S R) r (la ++ [z]) m := fun h => by
              rcases hD' with rfl | rfl
              · exact h
              · exact h.more
            refine ⟨L, HST1.out.up, fun x hx => ?_, fun m hm => ?_, hn'⟩
            · obtain ⟨m, hm, h1⟩ := HST1.out.all x hx
              exact ⟨m, hm, hmore h1⟩
            · obtain ⟨x, hx, h1⟩ := HST1.out.only m hm
              exact ⟨x, hx, hmore h1⟩
theorem l5Type_any : ∀ r, r ≤ 8 → TypeOK r
  | 0, _ => type_zero
  | r + 1, h => type_succ r (by omega) (Lib.hid (l5Type_any r (by omega)))
end Go.Proofs.YtofmagiahmmmgaaGreatDoor

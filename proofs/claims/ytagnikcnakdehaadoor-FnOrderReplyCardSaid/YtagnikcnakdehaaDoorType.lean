/- The reference's l5Type: the number of what can happen in a game. Conditions: the structure is valid, the list is of its elements, the table is not great. -/
import Derived.Test.YtagnikcnakdehaaDoorNumber
import Derived.Test.YtagnikcnakdehaaDoorIns
import Derived.Test.YtagnikcnakdehaaDoorDec
import Derived.Test.YtagnikcnakdehaaDoorGoes
import Derived.Deep.RegionHeld3
namespace Go.Proofs.YtagnikcnakdehaaDoor
open Go.RowKit
set_option linter.unusedVariables false

/-- How many descriptions there are at most. -/
def callsN (n : Nat) : Nat → Nat
  | 0 => 1
  | r + 1 => n * callsN n r + 1
/-- What l5Type leaves. -/
def Typed (gL gC : Nat) (F : Nat → Prop) (D : List (List UInt8)) (a : Gs.St) (r : Nat) (la : List Nat) (w : World) (e : Ending) (w' : World) : Prop :=
  ∃ (num : Nat) (F' : Nat → Prop) (vs' : Array Value) (E : List (List UInt8)), e = .returned (.int .i64 (num : Int)) ∧ Tbl w' gL gC F' vs' (D ++ E) ∧ E.length ≤ callsN a.n r ∧ Gs.TypeNum (D ++ E) a r la num ∧ Off F w w' ∧ ∀ b, F' b → F b ∨ w.heap.size ≤ b
/-- What is asked. -/
structure TypeReady (gL gC : Nat) (F : Nat → Prop) (vs : Array Value) (D : List (List UInt8)) (n : Nat) (S R : ByteArray) (va : Value) (la : List Nat) (r : Nat) (w : World) : Prop where
  tbl : Tbl w gL gC F vs D
  room : D.length + callsN n r ≤ 1000000
  hS : S.size = n
  hR : R.size = n * n
  hn : n ≤ 8
  nums : NumsAt w va la
  apart : ∀ k, va.ownBlock = some k → ¬ F k
  len : la.length + r ≤ 8
  elem : ∀ z ∈ la, z < n
def TypeOK (r : Nat) : Prop := ∀ (gL gC : Nat) (F : Nat → Prop) (vs : Array Value) (D : List (List UInt8)) (n : Nat) (S R : ByteArray) (va : Value) (la : List Nat) (w : World), TypeReady gL gC F vs D n S R va la r w →
  Calls Tryd.prog 68 #[tblV gL gC, strV n S R, va, .int .i64 (r : Int)] w (Typed gL gC F D (stOf n S R) r la w)

/-- The table's and the structure's boxes. -/
structure Boxes (w wr : World) (gL gC n : Nat) (S R : ByteArray) : Prop where
  t : wr.heap[w.heap.size]? = some (.cells #[.slice (some ⟨gL, 0, none⟩) 997 997, .slice (some ⟨gC, 0, none⟩) 1 1] 80 (0, 0))
  s : SBlk wr (w.heap.size + 1) n S R
theorem Boxes.cells {w wr : World} {gL gC n : Nat} {S R : ByteArray} (h : Boxes w wr gL gC n S R) :
    wr.cell? ⟨w.heap.size, 0, none⟩ = some (.slice (some ⟨gL, 0, none⟩) 997 997) ∧ wr.cell? ⟨w.heap.size, 1, none⟩ = some (.slice (some ⟨gC, 0, none⟩) 1 1) ∧
    wr.cell? ⟨w.heap.size + 1, 0, none⟩ = some (.int .i64 n) ∧ wr.cell? ⟨w.heap.size + 1, 1, none⟩ = some (.string S) ∧ wr.cell? ⟨w.heap.size + 1, 2, none⟩ = some (.string R) := by
  have := h.s.cells
  refine ⟨?_, ?_, this.1, this.2.1, this.2.2.1⟩ <;> simp [World.cell?, h.t]
/-- The world behind both boxes. -/
def boxT (w : World) (gL gC n : Nat) (S R : ByteArray) : World := boxS (w.alloc (.cells #[.slice (some ⟨gL, 0, none⟩) 997 997, .slice (some ⟨gC, 0, none⟩) 1 1] 80)) n S R
theorem boxT_size (w : World) (gL gC n : Nat) (S R : ByteArray) : (boxT w gL gC n S R).heap.size = w.heap.size + 2 := by simp [boxT, boxS]
theorem boxT_below (w : World) (gL gC n : Nat) (S R : ByteArray) : Below w.heap.size w (boxT w gL gC n S R) := ((Below.refl _ _).alloc (Nat.le_refl _) _).alloc (by simp) _
theorem boxT_boxes (w : World) (gL gC n : Nat) (S R : ByteArray) : Boxes w (boxT w gL gC n S R) gL gC n S R := by
  refine ⟨?_, ?_⟩
  · exact (Below.heap_alloc _ _ _ (by simp)).trans (heap_alloc_new w _)
  · have h := boxS_SBlk (w.alloc (.cells #[.slice (some ⟨gL, 0, none⟩) 997 997, .slice (some ⟨gC, 0, none⟩) 1 1] 80)) n S R
    unfold boxT
    simpa using h
theorem Boxes.off {w w0 wr : World} {gL gC n : Nat} {S R : ByteArray} {F : Nat → Prop} (h : Boxes w w0 gL gC n S R) (hw : Off F w0 wr) (hF : ∀ b, F b → b < w.heap.size) : Boxes w wr gL gC n S R := by
  have hl := h.s.cells.2.2.2.2.2.2
  exact ⟨(hw.block _ (by omega) (fun e => by have := hF _ e; omega)).trans h.t, (hw.block _ hl (fun e => by have := hF _ e; omega)).trans h.s⟩

theorem txt_dec (u : Nat) : decS u = txt (Lib.decDigits u) := rfl
theorem desc_txt (r : Nat) (l : List UInt8) (L : List Nat) : decS r ++ ⟨#[58]⟩ ++ (txt l ++ txt (Gs.commas L)) = txt (Gs.desc r l L) := by
  unfold Gs.desc
  rw [txt_append, txt_append, txt_append]
  rfl
theorem typed_end {gL gC : Nat} {F F1 F' : Nat → Prop} {D E1 D' : List (List UInt8)} {vs' : Array Value} {a : Gs.St} {r : Nat} {la : List Nat} {w wr w4 : World} {s : List UInt8} {num : Nat}
    (hw : Off F w wr) (hF1 : ∀ b, F1 b → F b ∨ w.heap.size ≤ b) (hE : E1.length + 1 ≤ callsN a.n r) (ht : Tbl w4 gL gC F' vs' D') (hd : D' = D ++ E1 ∨ D' = D ++ E1 ++ [s]) (hn : D'[num]? = some s)
    (hoff : Off F1 wr w4) {sz : Nat} (hF' : ∀ b, F' b → F1 b ∨ sz ≤ b) (hsz : wr.heap.size ≤ sz) (hT : ∀ D', (D' = D ++ E1 ∨ D' = D ++ E1 ++ [s]) → D'[num]? = some s → Gs.TypeNum D' a r la num) :
    Typed gL gC F D a r la w (.returned (.int .i64 (num : Int))) w4 := by
  have h1 : Off F w w4 := hw.trans hoff hF1
  have h2 : ∀ b, F' b → F b ∨ w.heap.size ≤ b := fun b hb => (hF' b hb).elim (hF1 b) (fun h => .inr (by have := hw.size; omega))
  have h3 := hT D' hd hn
  rcases hd with rfl | rfl
  · exact ⟨num, F', vs', E1, rfl, ht, by omega, h3, h1, h2⟩
  · rw [List.append_assoc] at ht h3
    exact ⟨num, F', vs', E1 ++ [s], rfl, ht, by simp; omega, h3, h1, h2⟩
theorem desc_len (r : Nat) (a : Gs.St) (la : List Nat) (L : List Nat) (hr : r ≤ 8) (hla : la.length ≤ 8) (hL : L.length ≤ 8) (hLb : ∀ m ∈ L, m ≤ 1000000) : (Gs.desc r (Gs.atoms a la) L).length ≤ 1000 := by
  have h1 := atomsTo_le a la la.length hla
  have h2 : ∀ M : List Nat, (∀ m ∈ M, m ≤ 1000000) → (Gs.commas M).length ≤ 21 * M.length := by
    intro M
    induction M with
    | nil => intro _; simp [Gs.commas]
    | cons m M ih =>
      intro hM
      have h3 := decS_size m (by have := hM m (by simp); omega)
      rw [txt_dec, txt_size] at h3
      have h4 := ih (fun m hm => hM m (by simp [hm]))
      simp only [Gs.commas, List.flatMap_cons, List.length_append, List.length_cons] at *
      omega
  have h3 := h2 L hLb
  have h4 := decS_size r (by omega)
  rw [txt_dec, txt_size] at h4
  unfold Gs.desc
  simp only [List.length_append, List.length_cons, List.length_nil]
  unfold Gs.atoms
  omega

set_option maxRecDepth 100000 in
set_option maxHeartbeats 1000000 in
theorem type_zero : TypeOK 0 := by
  intro gL gC F vs D n S R va la w hp
  have HP := Lib.hid hp
  have HB0 := Lib.hid (boxT_below w gL gC n S R)
  have HX0 := Lib.hid (boxT_boxes w gL gC n S R)
  have HA := Lib.hid (l5Atoms_any n S R va la (boxT w gL gC n S R) hp.hS hp.hR hp.hn (hp.nums.below HB0.out) (by have := hp.len; omega) hp.elem)
  have HSZ0 := Lib.hid (boxT_size w gL gC n S R)
  have hdec : ∀ W, Calls Tryd.prog 142 #[.int .i64 0] W fun e w' => e = .returned (.string (decS 0)) ∧ Below W.heap.size W w' := fun W => dec_any 0 W (by omega)
  have HDEC := Lib.hid hdec
  have hnum : ∀ W, Tbl W gL gC F vs D → Calls Tryd.prog 143 #[tblV gL gC, .string (decS 0 ++ ⟨#[58]⟩ ++ txt (Gs.atoms (stOf n S R) la))] W (Numbered gL gC F D (Gs.desc 0 (Gs.atoms (stOf n S R) la) []) W) := by
    intro W hW
    have e := desc_txt 0 (Gs.atoms (stOf n S R) la) []
    have e2 : txt (Gs.atoms (stOf n S R) la) ++ txt (Gs.commas []) = txt (Gs.atoms (stOf n S R) la) := by rw [← txt_append]; simp [Gs.commas]
    rw [e2] at e
    rw [e]
    have h1 := hp.room
    have h2 := desc_len 0 (stOf n S R) la [] (by omega) (by have := hp.len; omega) (by simp) (by simp)
    exact l5Number_any gL gC F vs D _ W hW (by omega) (by omega)
  unfold tblV at hnum
  have HNUM := Lib.hid hnum
  have hz : (txt (Gs.atoms (stOf n S R) la)).size ≤ 300 := by
    rw [txt_size]
    have := atomsTo_le (stOf n S R) la la.length (by have := hp.len; omega)
    have := hp.len
    unfold Gs.atoms
    omega
  have hz0 : (decS 0).size ≤ 20 := decS_size 0 (by omega)
  clear hp hdec hnum
  obtain ⟨T, hT⟩ : ∃ T, txt (Gs.atoms (stOf n S R) la) = T := ⟨_, rfl⟩
  rw [hT] at hz HA HNUM
  clear hT
  obtain ⟨z, hz1⟩ : ∃ z, decS 0 = z := ⟨_, rfl⟩
  rw [hz1] at hz0 HDEC HNUM
  clear hz1
  obtain ⟨q0, q1, q2, q3, q4⟩ := HX0.out.cells
  unfold boxT boxS at q0 q1 q2 q3 q4
  unfold strV tblV
  unfold strV boxT boxS at HA
  go_enter Tryd.func68, Tryd.ntmps68
  go_wp2_with fail
  refine HA.out.mono ?_; rintro e wr ⟨rfl, hb⟩
  have HBX : Hid (Boxes w wr gL gC n S R) := HX0.out.off (Off.of_below (F := fun _ => False) hb) (fun b h => h.elim)
  have HOW : Hid (Below w.heap.size w wr) := HB0.out.trans (hb.mono (by have := HSZ0.out; unfold boxT boxS at this; omega))
  have HTB := Lib.hid (HP.out.tbl.below HOW.out)
  obtain ⟨F1, hF1⟩ : ∃ G, F = G := ⟨_, rfl⟩
  have HFF := Lib.hid hF1
  rw [hF1] at HTB HNUM
  have HLT : Hid (w.heap.size < wr.heap.size) := by
    have := HBX.out.s.cells.2.2.2.2.2.2; show _ < _; omega
  have HNB : Hid (¬ F1 w.heap.size) := fun e => by
    rw [← HFF.out] at e
    have := HP.out.tbl.lt _ e; omega
  clear hb hF1 HA HX0 HB0 q0 q1 q2 q3 q4
  have KS : Hid (∀ w' : World, Off F1 wr w' → (w'.cell? ⟨w.heap.size, 0, none⟩ = some (.slice (some ⟨gL, 0, none⟩) 997 997) ∧ w'.cell? ⟨w.heap.size, 1, none⟩ = some (.slice (some ⟨gC, 0, none⟩) 1 1))) := fun w' h =>
    ⟨(h.cell (p := ⟨w.heap.size, 0, none⟩) HLT.out HNB.out).trans HBX.out.cells.1, (h.cell (p := ⟨w.heap.size, 1, none⟩) HLT.out HNB.out).trans HBX.out.cells.2.1⟩
  obtain ⟨q0, q1, q2, q3, q4⟩ := HBX.out.cells
  go_wp2_with fail
  go_region_with (first | ((with_reducible refine (HDEC.out _).mono ?_); rintro e w3 ⟨rfl, hb⟩; have HB3 := Lib.hid ((Below.refl wr.heap.size wr).drew.trans (hb.mono (Nat.le_refl _))); have HOF := Lib.hid (Off.of_below (F := F1) HB3.out); have k0 := (KS.out _ HOF.out).1; have k1 := (KS.out _ HOF.out).2; clear hb) | ((with_reducible refine (HNUM.out _ ?_).mono ?_); (exact HTB.out.below HB3.out); rintro e w4 ⟨num, F', vs', D', rfl, ht, hd, hn, hoff, hF'⟩; have HOF := Lib.hid ((Off.of_below (F := F1) HB3.out).trans hoff (fun b hb => .inl hb)); have HRES := Lib.hid (And.intro ht (And.intro hd (And.intro hn (And.intro hoff hF')))); have HSZ3 := Lib.hid HB3.out.size; clear ht hd hn hoff hF') | fail)
  all_goals
    go_wp2_with fail
    go_ret
    obtain ⟨ht, hd, hn, hoff, hF'⟩ := HRES.out
    refine typed_end (E1 := []) (Off.of_below HOW.out) (fun b hb => .inl (by rw [HFF.out]; exact hb)) (by simp [callsN]) ht (by simpa using hd) hn HOF.out hF' HSZ3.out ?_
    intro D' hD' hn'
    exact hn'
end Go.Proofs.YtagnikcnakdehaaDoor

/- The reference's l5Type: the number of what can happen in a game. Conditions: the structure is valid, the list is of its elements, the table is not great. -/
import Derived.Test.YtenjojakjdaamaaDoorAtoms
import Derived.Test.YtenjojakjdaamaaDoorWith
import Derived.Test.YtenjojakjdaamaaDoorDec
import Derived.Test.YtenjojakjdaamaaDoorReply2
import Derived.Deep.RegionHeld3
namespace Go.Proofs.YtenjojakjdaamaaDoor
open Go.RowKit
set_option linter.unusedVariables false

/-- How many descriptions there are at most. -/
def callsN (n : Nat) : Nat → Nat
  | 0 => 1
  | r + 1 => n * callsN n r + 1
theorem txt_dec (u : Nat) : decS u = txt (Lib.decDigits u) := rfl
theorem desc_txt (r : Nat) (l : List UInt8) (L : List Nat) : decS r ++ ⟨#[58]⟩ ++ (txt l ++ txt (Gs.commas L)) = txt (Gs.desc r l L) := by
  unfold Gs.desc
  rw [txt_append, txt_append, txt_append]
  rfl
theorem desc_len (r : Nat) (a : Gs.St) (la : List Nat) (L : List Nat) (hr : r ≤ 8) (hla : la.length ≤ 8) (hL : L.length ≤ 8) (hLb : ∀ m ∈ L, m ≤ 1000000) : (Gs.desc r (Gs.atoms a la) L).length ≤ 1000 := by
  have h1 := atomsTo_le a la la.length hla
  have h2 : ∀ M : List Nat, (∀ m ∈ M, m ≤ 1000000) → (Gs.commas M).length ≤ 21 * M.length := by
    intro M
    induction M with
    | nil => intro _; simp [Gs.commas]
    | cons m M ih =>
      intro hM
      have h3 := decS_size m (by have := hM m (by simp); omega)
      rw [txt_dec, txt_size] at h3
      have h4 := ih (fun m hm => hM m (by simp [hm]))
      simp only [Gs.commas, List.flatMap_cons, List.length_append, List.length_cons] at *
      omega
  have h3 := h2 L hLb
  have h4 := decS_size r (by omega)
  rw [txt_dec, txt_size] at h4
  unfold Gs.desc
  simp only [List.length_append, List.length_cons, List.length_nil]
  unfold Gs.atoms
  omega

end Go.Proofs.YtenjojakjdaamaaDoor
/- The reference's l5Type for one round more. Conditions: the structure is valid, the list is of its elements, the table is not great. -/
namespace Go.Proofs.YtenjojakjdaamaaDoor
open Go.RowKit
set_option linter.unusedVariables false

theorem b_assoc (a b c : ByteArray) : a ++ b ++ c = a ++ (b ++ c) := by
  apply ByteArray.ext
  simp [ByteArray.data_append, Array.append_assoc]
theorem b_nil (a : ByteArray) : a ++ ByteArray.empty = a := by
  apply ByteArray.ext
  simp
theorem below_cell {w w' : World} {p : Addr} {v : Value} (hb : Below w.heap.size w w') (h : w.cell? p = some v) : w'.cell? p = some v := (hb.cell (World.block_lt_of_cell? w p h)).trans h
theorem typeNum_lt {D : List (List UInt8)} {a : Gs.St} {r : Nat} {la : List Nat} {m : Nat} (h : Gs.TypeNum D a r la m) : m < D.length := by
  cases r with
  | zero => exact (List.getElem?_eq_some_iff.1 (show D[m]? = _ from h)).1
  | succ r =>
    obtain ⟨L, _, _, _, h4⟩ := h
    exact (List.getElem?_eq_some_iff.1 h4).1

theorem commas_succ (L : List Nat) (k : Nat) (hk : k < L.length) : Gs.commas (L.take (k + 1)) = Gs.commas (L.take k) ++ ([44] ++ Lib.decDigits (L.getD k 0)) := by
  unfold Gs.commas
  rw [List.take_succ_eq_append_getElem hk, List.flatMap_append]
  simp [hk]

end Go.Proofs.YtenjojakjdaamaaDoor

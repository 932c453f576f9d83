/- What the reference's l12Classes keeps: the words and their types. Condition: k ≤ 2, words of at most eight letters. -/
import Derived.Test.YtagnikcnakdehaaDoorClassS
import Derived.Test.YtagnikcnakdehaaDoorType2
namespace Go.Proofs.YtagnikcnakdehaaDoor
open Go.RowKit
set_option linter.unusedVariables false

theorem winsEqv {k : Nat} {a b : Gs.St} : Gs.wins k a [] b [] = true ↔ Gs.Eqv k a [] b [] := Gs.wins_iff rfl
/-- T holds the types of the words L, in order; D is the table's. -/
def TypesOf (D : List (List UInt8)) (k : Nat) (L : List ByteArray) (T : List Nat) : Prop :=
  T.length = L.length ∧ ∀ j, j < L.length → Gs.TypeNum D (wSt (L.getD j ByteArray.empty)) k [] (T.getD j 0)
theorem TypesOf.nil (D : List (List UInt8)) (k : Nat) : TypesOf D k [] [] := ⟨rfl, fun j hj => absurd hj (by simp)⟩
theorem TypesOf.more {D E : List (List UInt8)} {k : Nat} {L : List ByteArray} {T : List Nat} (h : TypesOf D k L T) : TypesOf (D ++ E) k L T := ⟨h.1, fun j hj => (h.2 j hj).more⟩
theorem TypesOf.snoc {D : List (List UInt8)} {k m : Nat} {L : List ByteArray} {T : List Nat} {x : ByteArray} (h : TypesOf D k L T) (hx : Gs.TypeNum D (wSt x) k [] m) : TypesOf D k (L ++ [x]) (T ++ [m]) := by
  obtain ⟨h1, h2⟩ := h
  refine ⟨by simp [h1], fun j hj => ?_⟩
  rw [List.length_append, List.length_singleton] at hj
  by_cases hj2 : j < L.length
  · have e1 : (L ++ [x]).getD j ByteArray.empty = L.getD j ByteArray.empty := by simp [List.getElem?_append_left hj2]
    have e2 : (T ++ [m]).getD j 0 = T.getD j 0 := by simp [List.getElem?_append_left (show j < T.length by omega)]
    rw [e1, e2]; exact h2 j hj2
  · have e : j = L.length := by omega
    subst e
    have e1 : (L ++ [x]).getD L.length ByteArray.empty = x := by simp
    have e2 : (T ++ [m]).getD L.length 0 = m := by rw [← h1]; simp
    rw [e1, e2]; exact hx
/-- A word's type is there already exactly if a word like it is. -/
theorem TypesOf.mem {D : List (List UInt8)} (hD : D.Nodup) {k m : Nat} {L : List ByteArray} {T : List Nat} {x : ByteArray} (h : TypesOf D k L T) (hx : Gs.TypeNum D (wSt x) k [] m) :
    decide (m ∈ T) = L.any (fun v => likeW k v x) := by
  obtain ⟨h1, h2⟩ := h
  rw [Bool.eq_iff_iff, decide_eq_true_iff, List.any_eq_true]
  constructor
  · intro hm
    obtain ⟨j, hj, e⟩ := List.getElem_of_mem hm
    have hj2 : j < L.length := by omega
    refine ⟨L[j], List.getElem_mem hj2, ?_⟩
    have ht := h2 j hj2
    have e1 : T.getD j 0 = m := by simp [hj, e]
    have e2 : L.getD j ByteArray.empty = L[j] := by simp [hj2]
    rw [e1, e2] at ht
    exact winsEqv.2 ((Gs.typeNum_iff hD ht hx).1 rfl)
  · rintro ⟨v, hv, hw⟩
    obtain ⟨j, hj, rfl⟩ := List.getElem_of_mem hv
    have ht := h2 j hj
    have e2 : L.getD j ByteArray.empty = L[j] := by simp [hj]
    rw [e2] at ht
    have e := (Gs.typeNum_iff hD ht hx).2 (winsEqv.1 hw)
    rw [← e]
    have hj' : j < T.length := by omega
    have e1 : T.getD j 0 = T[j] := by simp [hj']
    rw [e1]
    exact List.getElem_mem hj'
end Go.Proofs.YtagnikcnakdehaaDoor

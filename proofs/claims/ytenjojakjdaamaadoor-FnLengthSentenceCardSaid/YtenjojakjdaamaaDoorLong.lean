/- Sentences of lengths: what lengthBetween of the program and l13Longer of the reference return. Conditions: small numbers, names of at most one byte. -/
import Derived.Test.YtenjojakjdaamaaDoorJoin
import Derived.Test.YtenjojakjdaamaaDoorStrs
import Derived.Test.YtenjojakjdaamaaDoorOrd
import Derived.Deep.DeepCutAuto
namespace Go.Proofs.YtenjojakjdaamaaDoor
open Go.RowKit
set_option linter.unusedVariables false

/-- A variable's name. -/
def nm (i : Nat) : ByteArray := ⟨#[UInt8.ofNat (97 + i)]⟩
/-- The first name of k that is neither of two. -/
def vA (f g : ByteArray) : Nat → ByteArray
  | 0 => ByteArray.empty
  | k + 1 => if (vA f g k).toList = [] ∧ ¬ (nm k).toList = f.toList ∧ ¬ (nm k).toList = g.toList then nm k else vA f g k
def vOf (f g : ByteArray) : ByteArray := vA f g 4
theorem nm_size (k : Nat) : (nm k).size = 1 := rfl
theorem nm_toList (k : Nat) : (nm k).toList = [UInt8.ofNat (97 + k)] := by rw [ByteArray.toList_eq]; rfl
theorem vA_size (f g : ByteArray) (k : Nat) : (vA f g k).size ≤ 1 := by
  induction k with
  | zero => exact Nat.zero_le _
  | succ k ih =>
    rw [vA]
    split
    · exact Nat.le_refl _
    · exact ih
theorem vA_stay (f g : ByteArray) (k j : Nat) (h : ¬ (vA f g k).toList = []) : vA f g (k + j) = vA f g k := by
  induction j with
  | zero => rfl
  | succ j ih =>
    show vA f g (k + j + 1) = _
    rw [vA, ih, if_neg (fun h' => h h'.1)]
theorem vOf_some (f g : ByteArray) : ¬ vOf f g = ByteArray.empty := by
  intro h
  have hz : ∀ k, k ≤ 4 → (vA f g k).toList = [] := by
    intro k hk
    apply Decidable.byContradiction
    intro h'
    have h1 := vA_stay f g k (4 - k) h'
    rw [show k + (4 - k) = 4 by omega] at h1
    rw [← h1] at h'
    exact h' (by rw [show vA f g 4 = ByteArray.empty from h, ByteArray.toList_eq]; rfl)
  have hx : ∀ k, k < 4 → (nm k).toList = f.toList ∨ (nm k).toList = g.toList := by
    intro k hk
    apply Decidable.byContradiction
    intro h'
    rw [not_or] at h'
    have h1 : vA f g (k + 1) = nm k := by rw [vA, if_pos ⟨hz k (by omega), h'.1, h'.2⟩]
    have h2 := hz (k + 1) (by omega)
    rw [h1, nm_toList] at h2
    cases h2
  have h0 := hx 0 (by omega)
  have h1 := hx 1 (by omega)
  have h2 := hx 2 (by omega)
  rw [nm_toList] at h0 h1 h2
  rcases h0 with h0 | h0 <;> rcases h1 with h1 | h1 <;> rcases h2 with h2 | h2 <;> first
    | (have e := h0.trans h1.symm; revert e; decide)
    | (have e := h0.trans h2.symm; revert e; decide)
    | (have e := h1.trans h2.symm; revert e; decide)

def textL (b : Bool) (s : ByteArray) : List ByteArray := if b then [s] else []
/-- The sentence that there are at least n elements between two. -/
def longP (n : Nat) (f g : ByteArray) : ByteArray :=
  if h : n = 0 then ⟨#[116]⟩ else
    ⟨#[83]⟩ ++ vOf f g ++ joinP ⟨#[38]⟩
      (textL (!f.toList.isEmpty) (⟨#[69]⟩ ++ f ++ vOf f g) ++ textL (!g.toList.isEmpty) (⟨#[69]⟩ ++ vOf f g ++ g) ++
       (if (n - 1) / 2 = 0 then [] else [longP ((n - 1) / 2) f (vOf f g)]) ++ (if n - 1 - (n - 1) / 2 = 0 then [] else [longP (n - 1 - (n - 1) / 2) (vOf f g) g]))
termination_by n
decreasing_by all_goals omega

theorem joinP_size (op : ByteArray) (L : List ByteArray) (hop : op.size = 1) (h : 0 < L.length) : (joinP op L).size + 1 = L.length + sumL L := by
  have h0 : ¬ L.length = 0 := by omega
  rw [joinP, if_neg h0, ByteArray.size_append, joinL_size]
  have hl : L.getD (L.length - 1) ByteArray.empty = L[L.length - 1] := by
    rw [List.getD_eq_getElem?_getD, List.getElem?_eq_getElem (by omega)]; rfl
  rw [hl, hop, List.length_take]
  have hs := sumL_take L (L.length - 1) (by omega)
  rw [show L.length - 1 + 1 = L.length by omega, List.take_length] at hs
  omega
theorem sumL_text (b : Bool) (s : ByteArray) : sumL (textL b s) ≤ s.size := by
  cases b
  · exact Nat.zero_le _
  · simp [textL, sumL]
theorem textL_length (b : Bool) (s : ByteArray) : (textL b s).length ≤ 1 := by
  cases b
  · exact Nat.zero_le _
  · exact Nat.le_refl _
theorem longP_size : ∀ (n : Nat) (f g : ByteArray), f.size ≤ 1 → g.size ≤ 1 → (longP n f g).size ≤ 12 * n + 1 ∧ (1 ≤ n → (longP n f g).size + 1 ≤ 12 * n) := by
  intro n
  induction n using Nat.strongRecOn with
  | _ n ih =>
    intro f g hf hg
    rw [longP]
    by_cases h0 : n = 0
    · rw [dif_pos h0]
      subst h0
      exact ⟨by decide, by omega⟩
    · rw [dif_neg h0]
      have hv := vA_size f g 4
      have hv' : (vOf f g).size ≤ 1 := hv
      generalize vOf f g = V at hv' ⊢
      suffices h : ∀ L : List ByteArray, L = (textL (!f.toList.isEmpty) (⟨#[69]⟩ ++ f ++ V) ++ textL (!g.toList.isEmpty) (⟨#[69]⟩ ++ V ++ g) ++ (if (n - 1) / 2 = 0 then [] else [longP ((n - 1) / 2) f V]) ++ (if n - 1 - (n - 1) / 2 = 0 then [] else [longP (n - 1 - (n - 1) / 2) V g])) → (joinP ⟨#[38]⟩ L).size ≤ 12 * n - 3 by
        have h1 := h _ rfl
        rw [ByteArray.size_append, ByteArray.size_append]
        have h2 : (⟨#[83]⟩ : ByteArray).size = 1 := rfl
        omega
      intro L hL
      have hE : (⟨#[69]⟩ : ByteArray).size = 1 := rfl
      have ha := sumL_text (!f.toList.isEmpty) (⟨#[69]⟩ ++ f ++ V)
      have hb := sumL_text (!g.toList.isEmpty) (⟨#[69]⟩ ++ V ++ g)
      have ha' := textL_length (!f.toList.isEmpty) (⟨#[69]⟩ ++ f ++ V)
      have hb' := textL_length (!g.toList.isEmpty) (⟨#[69]⟩ ++ V ++ g)
      have hc : sumL (if (n - 1) / 2 = 0 then [] else [longP ((n - 1) / 2) f V]) + (if (n - 1) / 2 = 0 then ([] : List ByteArray) else [longP ((n - 1) / 2) f V]).length ≤ 12 * ((n - 1) / 2) := by
        by_cases hk : (n - 1) / 2 = 0
        · rw [if_pos hk]; simp [sumL]
        · rw [if_neg hk]
          have := (ih ((n - 1) / 2) (by omega) f V hf hv').2 (by omega)
          simp [sumL]; omega
      have hd : sumL (if n - 1 - (n - 1) / 2 = 0 then [] else [longP (n - 1 - (n - 1) / 2) V g]) + (if n - 1 - (n - 1) / 2 = 0 then ([] : List ByteArray) else [longP (n - 1 - (n - 1) / 2) V g]).length ≤ 12 * (n - 1 - (n - 1) / 2) := by
        by_cases hk : n - 1 - (n - 1) / 2 = 0
        · rw [if_pos hk]; simp [sumL]
        · rw [if_neg hk]
          have := (ih (n - 1 - (n - 1) / 2) (by omega) V g hv' hg).2 (by omega)
          simp [sumL]; omega
      rw [ByteArray.size_append, ByteArray.size_append] at ha hb
      by_cases hl : 0 < L.length
      · have h1 := joinP_size ⟨#[38]⟩ L rfl hl
        have h2 : sumL L + L.length ≤ 3 + 3 + 2 + 12 * ((n - 1) / 2) + 12 * (n - 1 - (n - 1) / 2) := by
          rw [hL]
          simp only [sumL_append, List.length_append]
          omega
        omega
      · have h1 : L.length = 0 := by omega
        rw [joinP, if_pos h1, if_pos rfl]
        show 1 ≤ _
        omega
end Go.Proofs.YtenjojakjdaamaaDoor

/- Contracts of the program's functions and what they compute: part 38. Conditions: those that each theorem states. -/
import Derived.Test.YtlkemhhkcanmoaaGreatDoorP54n2
import Derived.Test.YtlkemhhkcanmoaaGreatDoorP54n8
import Derived.Test.YtlkemhhkcanmoaaGreatDoorP54n17
import Derived.Test.YtlkemhhkcanmoaaGreatDoorP54n21
import Derived.Test.YtlkemhhkcanmoaaGreatDoorP54n25
namespace Go.Proofs.YtlkemhhkcanmoaaGreatDoor
open Go.RowKit
set_option linter.unusedVariables false
set_option maxRecDepth 100000
theorem vb_ge (v : Fin 4) : 33 ≤ (Fm.vb v).toNat := by revert v; decide
theorem text_ge : ∀ (φ : Fm.T) (c : UInt8), c ∈ Fm.text φ → 33 ≤ c.toNat
  | .lit b, c, h => by
    cases b
    · simp [Fm.text] at h; subst h; decide
    · simp [Fm.text] at h; subst h; decide
  | .set v, c, h => by
    simp [Fm.text] at h
    rcases h with rfl | rfl
    · decide
    · exact vb_ge v
  | .rel e v w, c, h => by
    cases e
    all_goals
      simp [Fm.text] at h
      rcases h with rfl | rfl | rfl
      · decide
      · exact vb_ge v
      · exact vb_ge w
  | .neg f, c, h => by
    simp [Fm.text] at h
    rcases h with rfl | h
    · decide
    · exact text_ge f c h
  | .bin o f g, c, h => by
    cases o
    all_goals
      simp [Fm.text] at h
      rcases h with rfl | h | h
      · decide
      · exact text_ge f c h
      · exact text_ge g c h
  | .qu q v f, c, h => by
    simp [Fm.text] at h
    rcases h with rfl | rfl | h
    · cases q <;> decide
    · exact vb_ge v
    · exact text_ge f c h
theorem read_ge {f : ByteArray} {φ : Fm.T} (h : readB f = some φ) : ∀ c ∈ f.data.toList, 33 ≤ c.toNat := by
  unfold readB at h
  rw [(Fm.read_iff.1 h).1]
  exact fun c hc => text_ge φ c hc
theorem ge_no {l : List UInt8} (h : ∀ c ∈ l, 33 ≤ c.toNat) : (10 : UInt8) ∉ l ∧ (32 : UInt8) ∉ l := by
  constructor
  · intro hm
    have := h 10 hm
    revert this; decide
  · intro hm
    have := h 32 hm
    revert this; decide
end Go.Proofs.YtlkemhhkcanmoaaGreatDoor

namespace Go.Proofs.YtlkemhhkcanmoaaGreatDoor
open Go.RowKit
set_option linter.unusedVariables false
set_option maxRecDepth 100000
/-- The lines of the script. -/
def wordLines (w f : ByteArray) : List ByteArray := [(⟨#[119, 111, 114, 100, 32]⟩ : ByteArray) ++ w, (⟨#[101, 120, 99, 104, 97, 110, 103, 101]⟩ : ByteArray), (⟨#[119, 111, 114, 100, 32]⟩ : ByteArray) ++ w, (⟨#[119, 111, 114, 100]⟩ : ByteArray), (⟨#[102, 111, 114, 109, 117, 108, 97, 32]⟩ : ByteArray) ++ f, (⟨#[104, 111, 108, 100, 115]⟩ : ByteArray), (⟨#[102, 111, 114, 109, 117, 108, 97, 32, 80, 97]⟩ : ByteArray), (⟨#[115, 101, 116]⟩ : ByteArray), (⟨#[99, 108, 97, 115, 115, 101, 115, 32, 49]⟩ : ByteArray)]
theorem wordScript (w f : ByteArray) : (⟨#[119, 111, 114, 100, 32]⟩ : ByteArray) ++ w ++ (⟨#[10, 101, 120, 99, 104, 97, 110, 103, 101, 10, 119, 111, 114, 100, 32]⟩ : ByteArray) ++ w ++ (⟨#[10, 119, 111, 114, 100, 10, 102, 111, 114, 109, 117, 108, 97, 32]⟩ : ByteArray) ++ f ++ (⟨#[10, 104, 111, 108, 100, 115, 10, 102, 111, 114, 109, 117, 108, 97, 32, 80, 97, 10, 115, 101, 116, 10, 99, 108, 97, 115, 115, 101, 115, 32, 49, 10]⟩ : ByteArray) = linesB (wordLines w f) := by
  apply ByteArray.ext
  apply Array.toList_inj.1
  simp [linesB, wordLines, linesL, ByteArray.data_append, Array.toList_append]
theorem wordLines_no (w f : ByteArray) (hw : (10 : UInt8) ∉ w.data.toList) (hf : (10 : UInt8) ∉ f.data.toList) : ∀ l ∈ wordLines w f, (10 : UInt8) ∉ l.data.toList := by
  intro l hl
  simp only [wordLines, List.mem_cons, List.not_mem_nil, or_false] at hl
  rcases hl with rfl | rfl | rfl | rfl | rfl | rfl | rfl | rfl | rfl
  · simp [ByteArray.data_append, Array.toList_append, hw]
  · decide
  · simp [ByteArray.data_append, Array.toList_append, hw]
  · decide
  · simp [ByteArray.data_append, Array.toList_append, hf]
  · decide
  · decide
  · decide
  · decide
end Go.Proofs.YtlkemhhkcanmoaaGreatDoor

namespace Go.Proofs.YtlkemhhkcanmoaaGreatDoor
open Go.RowKit
set_option linter.unusedVariables false
theorem oneAt_bitsW (f : Nat → Bool) (n x : Nat) (h : x < n) : oneAt (bitsOf f n) x = f x := by
  unfold oneAt bitsOf
  have e : ((List.range n).map fun i => bit (f i)).getD x 0 = bit (f x) := by simp [h]
  show (((List.range n).map fun i => bit (f i)).toArray.toList.getD x 0 == 49) = f x
  rw [List.toList_toArray, e]
  cases f x <;> rfl
theorem relAt_gridW (f : Nat → Nat → Bool) (n x y : Nat) (hx : x < n) (hy : y < n) : relAt n (gridOf f n) x y = f x y := by
  unfold relAt gridOf
  have h : (x + 1) * n ≤ n * n := Nat.mul_le_mul_right _ (by omega)
  rw [Nat.succ_mul] at h
  rw [oneAt_bitsW _ _ _ (by omega)]
  exact grid_at (r := f) hy
theorem cntR_ord {n : Nat} {R : ByteArray} (h : ∀ x y, x < n → y < n → relAt n R x y = decide (x < y)) {x : Nat} (hx : x < n) : ∀ y, y ≤ n → cntR n R x y = min x y
  | 0, _ => by simp [cntR]
  | y + 1, hy => by
    have ih := cntR_ord h hx y (by omega)
    unfold cntR
    rw [ih, h y x (by omega) hx]
    by_cases hyx : y < x
    · rw [if_pos (by simpa using hyx)]; omega
    · rw [if_neg (by simpa using hyx)]; omega
/-- The letters of an order, in order. -/
theorem fill_ord {n : Nat} {S R : ByteArray} (h : ∀ x y, x < n → y < n → relAt n R x y = decide (x < y)) : ∀ x, x ≤ n → fillW n S R x = some ((List.range n).map fun i => if i < x then (if oneAt S i then 120 else 121) else 0)
  | 0, _ => by
    show some (List.replicate n 0) = _
    congr 1
    apply List.ext_getElem
    · simp
    · intro i h1 h2
      simp
  | x + 1, hx => by
    have ih := fill_ord (S := S) h x (by omega)
    have hp : plc n R x = x := by unfold plc; rw [cntR_ord h (by omega) n (Nat.le_refl _)]; omega
    rw [fill_step ih, hp, if_pos ⟨by omega, by simp [show x < n by omega]⟩]
    congr 1
    apply List.ext_getElem
    · simp
    · intro i h1 h2
      rw [List.getElem_set]
      simp only [List.getElem_map, List.getElem_range]
      by_cases e : x = i
      · subst e
        rw [if_pos rfl, if_pos (show x < x + 1 by omega)]
      · rw [if_neg e]
        by_cases hi : i < x
        · rw [if_pos hi, if_pos (show i < x + 1 by omega)]
        · rw [if_neg hi, if_neg (show ¬ i < x + 1 by omega)]
theorem xy_let {s : ByteArray} (h : wordB s = true) {i : Nat} (hi : i < s.data.toList.length) : (if letB s i then (120 : UInt8) else 121) = s.data.toList[i] := by
  unfold wordB at h
  rw [Bool.and_eq_true] at h
  have hx := List.all_eq_true.1 h.2 _ (List.getElem_mem hi)
  unfold isXY at hx
  unfold letB
  rw [List.getD_eq_getElem?_getD, List.getElem?_eq_getElem hi, Option.getD_some]
  generalize s.data.toList[i] = c at *
  rw [Bool.or_eq_true, beq_iff_eq, beq_iff_eq] at hx
  rcases hx with rfl | rfl <;> rfl
theorem word_size8 {s : ByteArray} (h : wordB s = true) : 1 ≤ s.size ∧ s.size ≤ 8 := by
  unfold wordB at h
  rw [Bool.and_eq_true] at h
  have := h.1
  unfold inB at this
  simp at this
  omega
theorem txB_data (s : ByteArray) : txB s.data.toList = s := by
  cases s with
  | mk d => simp [txB]
/-- An order's structure is the same in one order alone. -/
theorem word_shapes {s : ByteArray} (h : wordB s = true) : Gs.shapes (stOf s.size (bitsOf (letB s) s.size) (gridOf ltB s.size)) (stOf s.size (bitsOf (letB s) s.size) (gridOf ltB s.size)) = [List.range s.size] :=
  Gs.shapes_ord (a := stOf s.size (bitsOf (letB s) s.size) (gridOf ltB s.size)) (fun x y hx hy => relAt_gridW ltB _ _ _ hx hy)
theorem word_of_word {s : ByteArray} (h : wordB s = true) : woB s.size (bitsOf (letB s) s.size) (gridOf ltB s.size) = some s := by
  obtain ⟨h1, h8⟩ := word_size8 h
  have hv := valid_bits h1 h8 (letB s) ltB
  have hf := fill_ord (n := s.size) (S := bitsOf (letB s) s.size) (R := gridOf ltB s.size) (fun x y hx hy => relAt_gridW ltB _ _ _ hx hy) s.size (Nat.le_refl _)
  have hl : ((List.range s.size).map fun i => if i < s.size then (if oneAt (bitsOf (letB s) s.size) i then (120 : UInt8) else 121) else 0) = s.data.toList := by
    apply List.ext_getElem
    · simp
    · intro i h1 h2
      have hi : i < s.size := by simpa using h1
      simp only [List.getElem_map, List.getElem_range]
      rw [if_pos hi, oneAt_bitsW _ _ _ hi]
      exact xy_let h h2
  rw [hl] at hf
  rw [woB_some hv hf, txB_data]
  have hs : shpB s.size (bitsOf (letB s) s.size) (gridOf ltB s.size) s.data.toList = true := by
    unfold shpB ssB
    rw [txB_data, hv, Int.toNat_natCast, word_shapes h]
    simp
  rw [if_pos hs]
end Go.Proofs.YtlkemhhkcanmoaaGreatDoor

/- Where words lie among all words, and the first word of a class, plainly. No condition. -/
import Derived.Test.YtagnikcnakdehaaDoorClsP
import Derived.Test.YtagnikcnakdehaaDoorWord
namespace Go.Proofs.YtagnikcnakdehaaDoor
open Go.RowKit
set_option linter.unusedVariables false

theorem xy_cases {c : UInt8} (h : isXY c = true) : c = 120 ∨ c = 121 := by
  simp [isXY] at h
  exact h
theorem allW_mem : ∀ (n : Nat) (u : ByteArray), u.size = n → u.data.toList.all isXY = true → u ∈ allW n
  | 0, u, h, _ => by
    have : u = ByteArray.empty := by simpa using h
    subst this
    simp [allW]
  | n + 1, u, h, ha => by
    have hl : u.data.toList.length = n + 1 := by simpa using h
    rcases Gs.list_snoc u.data.toList with e | ⟨l, c, e⟩
    · rw [e] at hl; simp at hl
    · have hl2 : l.length = n := by rw [e] at hl; simpa using hl
      rw [e, List.all_append, Bool.and_eq_true] at ha
      have h1 := allW_mem n ⟨l.toArray⟩ (by show l.toArray.size = n; simpa using hl2) (by simpa using ha.1)
      have h2 : u = (⟨l.toArray⟩ : ByteArray) ++ ⟨#[c]⟩ := by
        apply ByteArray.ext
        apply Array.ext'
        rw [e]; simp
      have h3 := xy_cases (c := c) (by simpa using ha.2)
      rw [allW, List.mem_flatMap]
      refine ⟨_, h1, ?_⟩
      rw [h2]
      rcases h3 with rfl | rfl <;> simp
theorem upTo_mem (n : Nat) (u : ByteArray) (h1 : 1 ≤ u.size) (hn : u.size ≤ n) (ha : u.data.toList.all isXY = true) : u ∈ upTo n := by
  induction n with
  | zero => omega
  | succ n ih =>
    rw [upTo, List.mem_append]
    by_cases h : u.size ≤ n
    · exact .inl (ih h)
    · exact .inr (allW_mem (n + 1) u (by omega) ha)
theorem upTo_more {m n : Nat} (h : m ≤ n) : ∃ R, upTo n = upTo m ++ R := by
  induction n with
  | zero => obtain rfl : m = 0 := by omega
            exact ⟨[], rfl⟩
  | succ n ih =>
    by_cases hm : m = n + 1
    · subst hm; exact ⟨[], by simp⟩
    · obtain ⟨R, hR⟩ := ih (by omega)
      exact ⟨R ++ allW (n + 1), by rw [upTo, hR, List.append_assoc]⟩
theorem upTo_up : ∀ n, (upTo n).Pairwise (fun u v => u.size ≤ v.size)
  | 0 => List.Pairwise.nil
  | n + 1 => by
    rw [upTo, List.pairwise_append]
    refine ⟨upTo_up n, ?_, fun u hu v hv => ?_⟩
    · rw [List.pairwise_iff_forall_sublist]
      intro a b hs
      have h1 := allW_size (n + 1) a (hs.subset (by simp))
      have h2 := allW_size (n + 1) b (hs.subset (by simp))
      omega
    · have h1 := upTo_size n u hu
      have h2 := allW_size (n + 1) v hv
      omega
theorem wordB_mem {u : ByteArray} (h : wordB u = true) (n : Nat) (hn : u.size ≤ n) : u ∈ upTo n := by
  simp only [wordB, Bool.and_eq_true, inB_iff] at h
  exact upTo_mem n u (by omega) hn h.2
theorem upTo_word : ∀ (n : Nat) (u : ByteArray), n ≤ 8 → u ∈ upTo n → wordB u = true := by
  have hA : ∀ (n : Nat) (u : ByteArray), u ∈ allW n → u.data.toList.all isXY = true := by
    intro n
    induction n with
    | zero => intro u h; simp [allW] at h; subst h; rfl
    | succ n ih =>
      intro u h
      obtain ⟨x, hx, hu⟩ := List.mem_flatMap.1 h
      have := ih x hx
      simp at hu
      rcases hu with rfl | rfl <;> (simp only [ByteArray.data_append, Array.toList_append, List.all_append, this]; rfl)
  intro n
  induction n with
  | zero => intro u _ h; cases h
  | succ n ih =>
    intro u hn h
    rcases List.mem_append.1 h with h | h
    · exact ih u (by omega) h
    · have h1 := allW_size (n + 1) u h
      simp only [wordB, Bool.and_eq_true, inB_iff]
      exact ⟨by omega, hA _ u h⟩
/-- The first word that is like a word. -/
def firstW (k : Nat) (u : ByteArray) : ByteArray := firstL k (upTo u.size) u
theorem first_find {k : Nat} {u : ByteArray} (h : wordB u = true) : ∃ v, (upTo u.size).find? (fun x => likeW k x u) = some v ∧ firstW k u = v ∧ v ∈ upTo u.size ∧ likeW k v u = true := by
  have hm := wordB_mem h u.size (Nat.le_refl _)
  cases hf : (upTo u.size).find? (fun x => likeW k x u) with
  | none =>
    have := List.find?_eq_none.1 hf u hm
    simp [like_refl] at this
  | some v => exact ⟨v, rfl, by unfold firstW firstL; rw [hf]; rfl, List.mem_of_find?_eq_some hf, by simpa using List.find?_some hf⟩
theorem first_up {k : Nat} {u : ByteArray} (h : wordB u = true) {n : Nat} (hn : u.size ≤ n) : (upTo n).find? (fun x => likeW k x u) = some (firstW k u) := by
  obtain ⟨v, h1, h2, _⟩ := first_find (k := k) h
  obtain ⟨R, hR⟩ := upTo_more hn
  rw [hR, List.find?_append, h1, h2]; rfl
theorem first_same {k : Nat} {u x : ByteArray} (hu : wordB u = true) (hx : wordB x = true) (h : likeW k u x = true) : firstW k u = firstW k x := by
  have h1 := first_up (k := k) hu (n := max u.size x.size) (by omega)
  have h2 := first_up (k := k) hx (n := max u.size x.size) (by omega)
  have e : (fun y => likeW k y u) = fun y => likeW k y x := funext fun y => like_congr h
  rw [e, h2] at h1
  exact (Option.some.inj h1).symm
theorem wordB_size' {s : ByteArray} (h : wordB s = true) : 1 ≤ s.size ∧ s.size ≤ 8 := by
  simp only [wordB, Bool.and_eq_true, inB_iff] at h
  omega
theorem first_word {k : Nat} {u : ByteArray} (h : wordB u = true) : wordB (firstW k u) = true ∧ (firstW k u).size ≤ u.size ∧ likeW k (firstW k u) u = true ∧ firstW k (firstW k u) = firstW k u := by
  obtain ⟨v, h1, h2, h3, h4⟩ := first_find (k := k) h
  have hs := wordB_size' h
  have hw := upTo_word _ _ hs.2 h3
  rw [h2]
  exact ⟨hw, (upTo_size _ _ h3).2, h4, by rw [first_same hw h h4, h2]⟩
/-- A word of a class is the first of it. -/
theorem cls_firstW {k n : Nat} {v : ByteArray} (hn : n ≤ 8) (h : v ∈ clsL k (upTo n)) : firstW k v = v := by
  have hm := clsL_sub k _ _ rfl v h
  have hw := upTo_word n v hn hm
  have h1 := first_up (k := k) hw (upTo_size n v hm).2
  rw [cls_first k _ v h] at h1
  exact (Option.some.inj h1).symm
theorem cls_up {k n : Nat} : (clsL k (upTo n)).Pairwise (fun u v => u.size ≤ v.size) := (upTo_up n).sublist (cls_sublist k _)
end Go.Proofs.YtagnikcnakdehaaDoor

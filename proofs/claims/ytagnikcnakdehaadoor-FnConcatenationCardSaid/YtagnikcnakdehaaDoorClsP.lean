/- Classes of words, plainly. No condition. -/
import Derived.Test.YtagnikcnakdehaaDoorClass2
import Derived.Test.YtagnikcnakdehaaDoorGame3
namespace Go.Proofs.YtagnikcnakdehaaDoor
open Go.RowKit
set_option linter.unusedVariables false

theorem like_iff {k : Nat} {v u : ByteArray} : likeW k v u = true ↔ Gs.Eqv k (wSt v) [] (wSt u) [] := Gs.wins_iff rfl
theorem like_refl (k : Nat) (v : ByteArray) : likeW k v v = true := like_iff.2 (Gs.Eqv.refl _ _ _)
theorem like_symm {k : Nat} {v u : ByteArray} (h : likeW k v u = true) : likeW k u v = true := like_iff.2 (like_iff.1 h).symm
theorem like_trans {k : Nat} {v u x : ByteArray} (h : likeW k v u = true) (h2 : likeW k u x = true) : likeW k v x = true := like_iff.2 ((like_iff.1 h).trans (like_iff.1 h2))
theorem like_comm (k : Nat) (v u : ByteArray) : likeW k v u = likeW k u v := by
  rw [Bool.eq_iff_iff]; exact ⟨like_symm, like_symm⟩
theorem like_congr {k : Nat} {v u x : ByteArray} (h : likeW k v u = true) : likeW k x v = likeW k x u := by
  rw [Bool.eq_iff_iff]; exact ⟨fun h1 => like_trans h1 h, fun h1 => like_trans h1 (like_symm h)⟩
/-- Induction over a list from behind. -/
theorem snoc_ind {α : Type} {P : List α → Prop} (h0 : P []) (h1 : ∀ L x, P L → P (L ++ [x])) : ∀ L, P L := by
  have key : ∀ (n : Nat) (L : List α), L.length = n → P L := by
    intro n
    induction n with
    | zero => intro L hL; obtain rfl := List.eq_nil_of_length_eq_zero hL; exact h0
    | succ n ih =>
      intro L hL
      rcases Gs.list_snoc L with rfl | ⟨M, x, rfl⟩
      · exact h0
      · exact h1 M x (ih M (by simpa using hL))
  exact fun L => key _ L rfl
/-- Each word is like one of its list's classes. -/
theorem cls_covers (k : Nat) : ∀ (L : List ByteArray) (x : ByteArray), x ∈ L → (clsL k L).any (fun v => likeW k v x) = true :=
  snoc_ind (fun x hx => by cases hx) (fun L u ih x hx => by
    rw [clsL_snoc]
    rcases List.mem_append.1 hx with hx | hx
    · have h1 := ih x hx
      split
      · exact h1
      · rw [List.any_append, h1]; rfl
    · obtain rfl := List.mem_singleton.1 hx
      split
      · rename_i h; exact h
      · rw [List.any_append]; simp [like_refl])
theorem cls_apart (k : Nat) : ∀ L : List ByteArray, (clsL k L).Pairwise (fun v u => likeW k v u = false) :=
  snoc_ind List.Pairwise.nil (fun L u ih => by
    rw [clsL_snoc]
    split
    · exact ih
    · rename_i h
      rw [List.pairwise_append]
      refine ⟨ih, List.pairwise_singleton _ _, fun v hv x hx => ?_⟩
      obtain rfl := List.mem_singleton.1 hx
      have h2 : ∀ v ∈ clsL k L, likeW k v x = false := by
        intro v hv
        rw [← Bool.not_eq_true]
        intro h3
        exact h (List.any_eq_true.2 ⟨v, hv, h3⟩)
      exact h2 v hv)
theorem cls_sublist (k : Nat) : ∀ L : List ByteArray, (clsL k L).Sublist L :=
  snoc_ind (List.Sublist.refl _) (fun L u ih => by
    rw [clsL_snoc]
    split
    · exact ih.trans (List.sublist_append_left _ _)
    · exact ih.append (List.Sublist.refl _))
/-- A class's word is the first one of its list that is like it. -/
theorem cls_first (k : Nat) : ∀ (L : List ByteArray) (v : ByteArray), v ∈ clsL k L → L.find? (fun u => likeW k u v) = some v :=
  snoc_ind (fun v hv => by cases hv) (fun L u ih v hv => by
    rw [clsL_snoc] at hv
    rw [List.find?_append]
    split at hv
    · rw [ih v hv]; rfl
    · rename_i h
      rcases List.mem_append.1 hv with hv | hv
      · rw [ih v hv]; rfl
      · obtain rfl := List.mem_singleton.1 hv
        have h2 : L.find? (fun u => likeW k u v) = none := by
          rw [List.find?_eq_none]
          intro x hx h3
          have h4 := cls_covers k L x hx
          obtain ⟨y, hy, h5⟩ := List.any_eq_true.1 h4
          exact h (List.any_eq_true.2 ⟨y, hy, like_trans h5 h3⟩)
        rw [h2]
        simp [like_refl])
/-- The first class's word that is like a word is the first word that is. -/
theorem cls_find (k : Nat) (x : ByteArray) : ∀ L : List ByteArray, (clsL k L).find? (fun v => likeW k v x) = L.find? (fun v => likeW k v x) :=
  snoc_ind rfl (fun L u ih => by
    rw [clsL_snoc, List.find?_append]
    split
    · rename_i h
      rw [ih]
      cases hf : L.find? (fun v => likeW k v x) with
      | some v => rfl
      | none =>
        have hu : likeW k u x = false := by
          rw [← Bool.not_eq_true]
          intro hx
          obtain ⟨v, hv, h2⟩ := List.any_eq_true.1 h
          have h3 := clsL_sub k _ L rfl v hv
          exact List.find?_eq_none.1 hf v h3 (like_trans h2 hx)
        simp [hu]
    · rw [List.find?_append, ih])
/-- How many of a list's words are like a word. -/
def likes (k : Nat) (L : List ByteArray) (x : ByteArray) : Nat := (L.filter fun v => likeW k v x).length
theorem likes_zero (k : Nat) (x : ByteArray) : ∀ L : List ByteArray, (∀ v ∈ L, likeW k v x = false) → likes k L x = 0 := by
  intro L h
  unfold likes
  rw [List.length_eq_zero_iff, List.filter_eq_nil_iff]
  intro v hv h2
  rw [h v hv] at h2
  cases h2
theorem likes_one (k : Nat) (x : ByteArray) : ∀ L : List ByteArray, L.Pairwise (fun v u => likeW k v u = false) → L.any (fun v => likeW k v x) = true → likes k L x = 1 := by
  intro L
  induction L with
  | nil => intro _ h; cases h
  | cons v L ih =>
    intro hp ha
    obtain ⟨h1, h2⟩ := List.pairwise_cons.1 hp
    unfold likes
    cases hv : likeW k v x with
    | true =>
      rw [List.filter_cons_of_pos (p := fun v => likeW k v x) hv, List.length_cons]
      have := likes_zero k x L (fun u hu => by
        rw [← Bool.not_eq_true]
        intro h3
        have := h1 u hu
        rw [like_trans hv (like_symm h3)] at this
        cases this)
      unfold likes at this
      omega
    | false =>
      rw [List.filter_cons_of_neg (p := fun v => likeW k v x) (by rw [hv]; simp)]
      rw [List.any_cons, hv] at ha
      exact ih h2 (by simpa using ha)
end Go.Proofs.YtagnikcnakdehaaDoor

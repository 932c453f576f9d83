/- Powers of words and words in sequence, plainly: their games. No condition. -/
import Derived.Test.YtagnikcnakdehaaDoorClsP
import Derived.Test.YtagnikcnakdehaaDoorPower
namespace Go.Proofs.YtagnikcnakdehaaDoor
open Go.RowKit
set_option linter.unusedVariables false

theorem oneAt_bits (f : Nat → Bool) (n x : Nat) (h : x < n) : oneAt (bitsOf f n) x = f x := by
  unfold oneAt bitsOf
  have e : ((List.range n).map fun i => bit (f i)).getD x 0 = bit (f x) := by simp [h]
  show (((List.range n).map fun i => bit (f i)).toArray.toList.getD x 0 == 49) = f x
  rw [List.toList_toArray, e]
  cases f x <;> rfl
theorem wSt_s (s : ByteArray) (x : Nat) (h : x < s.size) : (wSt s).s x = letB s x := oneAt_bits _ _ _ h
theorem wSt_r (s : ByteArray) (x y : Nat) (hx : x < s.size) (hy : y < s.size) : (wSt s).r x y = ltB x y := by
  show oneAt (gridOf ltB s.size) (x * s.size + y) = _
  unfold gridOf
  have h : (x + 1) * s.size ≤ s.size * s.size := Nat.mul_le_mul_right _ (by omega)
  rw [Nat.succ_mul] at h
  rw [oneAt_bits _ _ _ (by omega)]
  exact grid_at (r := ltB) hy
theorem letB_append (u v : ByteArray) (x : Nat) : letB (u ++ v) x = if x < u.size then letB u x else letB v (x - u.size) := by
  unfold letB
  have e : (u ++ v).data.toList = u.data.toList ++ v.data.toList := by simp
  have hl : u.data.toList.length = u.size := by simp
  rw [e]
  by_cases h : x < u.size
  · rw [if_pos h]
    simp only [List.getD_eq_getElem?_getD]
    rw [List.getElem?_append_left (by omega)]
  · rw [if_neg h]
    simp only [List.getD_eq_getElem?_getD]
    rw [List.getElem?_append_right (by omega), hl]
/-- Words in sequence are an ordered sum. -/
theorem wSt_append (u v : ByteArray) : Gs.Like (wSt (u ++ v)) (Gs.osum (wSt u) (wSt v)) := by
  have hz : (u ++ v).size = u.size + v.size := ByteArray.size_append
  refine ⟨hz, fun x hx => ?_, fun x y hx hy => ?_⟩
  · have hx : x < (u ++ v).size := hx
    rw [wSt_s _ _ hx, letB_append]
    show _ = if x < u.size then (wSt u).s x else (wSt v).s (x - u.size)
    by_cases h : x < u.size
    · rw [if_pos h, if_pos h, wSt_s _ _ h]
    · rw [if_neg h, if_neg h, wSt_s _ _ (by omega)]
  · have hx : x < (u ++ v).size := hx
    have hy : y < (u ++ v).size := hy
    rw [wSt_r _ _ _ hx hy]
    show _ = if x < u.size then (if y < u.size then (wSt u).r x y else true) else (if y < u.size then false else (wSt v).r (x - u.size) (y - u.size))
    unfold ltB
    by_cases h1 : x < u.size
    · by_cases h2 : y < u.size
      · rw [if_pos h1, if_pos h2, wSt_r _ _ _ h1 h2]; rfl
      · rw [if_pos h1, if_neg h2]; exact decide_eq_true (by omega)
    · by_cases h2 : y < u.size
      · rw [if_neg h1, if_pos h2]; exact decide_eq_false (by omega)
      · rw [if_neg h1, if_neg h2, wSt_r _ _ _ (by omega) (by omega)]
        unfold ltB
        rw [decide_eq_decide]
        omega
theorem wSt_nil : (wSt ByteArray.empty).n = 0 := rfl
theorem wSt_rep (s : ByteArray) : ∀ n, Gs.Like (wSt (rep s n)) (Gs.pw (wSt s) n)
  | 0 => ⟨rfl, fun x hx => absurd hx (by show ¬ x < 0; omega), fun x y hx _ => absurd hx (by show ¬ x < 0; omega)⟩
  | n + 1 => (wSt_append s (rep s n)).trans (Gs.Like.sum (Gs.Like.refl _) (wSt_rep s n))
/-- In sequence with the same word. -/
theorem like_append {k : Nat} {u v x y : ByteArray} (h1 : likeW k u v = true) (h2 : likeW k x y = true) : likeW k (u ++ x) (v ++ y) = true :=
  like_iff.2 ((wSt_append u x).eqv2 (wSt_append v y) (fun _ h => by cases h) (fun _ h => by cases h) (Gs.osum_eqv (like_iff.1 h1) (like_iff.1 h2)))
theorem like_pow {k n m : Nat} (s : ByteArray) (h : Gs.alike k n m) : likeW k (rep s n) (rep s m) = true :=
  like_iff.2 ((wSt_rep s n).eqv2 (wSt_rep s m) (fun _ h => by cases h) (fun _ h => by cases h) (Gs.pw_eqv (wSt s) h))
theorem like_less {k : Nat} {u v : ByteArray} (h : likeW (k + 1) u v = true) : likeW k u v = true := like_iff.2 (Gs.eqv_less (like_iff.1 h))

theorem stopN_up {f : Nat → Bool} : ∀ {n j : Nat}, stopN f n ≤ j → j < n → f j = true
  | 0, j, _, h => by omega
  | n + 1, j, h1, h2 => by
    unfold stopN at h1
    split at h1
    · rename_i hf
      by_cases hj : j = n
      · subst hj; exact hf
      · exact stopN_up h1 (by omega)
    · omega
theorem stopN_down {f : Nat → Bool} : ∀ {n : Nat}, 0 < stopN f n → f (stopN f n - 1) = false
  | 0, h => by cases h
  | n + 1, h => by
    unfold stopN at h ⊢
    split
    · rename_i hf
      rw [if_pos hf] at h
      exact stopN_down h
    · rename_i hf
      simpa using hf
theorem stopN_bound {f : Nat → Bool} {c : Nat} : ∀ {n : Nat}, (∀ j, c ≤ j → j < n → f j = true) → stopN f n ≤ c
  | 0, _ => Nat.zero_le _
  | n + 1, h => by
    unfold stopN
    split
    · exact stopN_bound (fun j h1 h2 => h j h1 (by omega))
    · rename_i hf
      by_cases hc : c ≤ n
      · exact absurd (h n hc (by omega)) hf
      · omega
theorem adjB_up (s : ByteArray) (k j : Nat) (h : 2 ^ k - 1 ≤ j + 1) : adjB s k j = true := like_pow s (.inr ⟨h, by omega⟩)
end Go.Proofs.YtagnikcnakdehaaDoor

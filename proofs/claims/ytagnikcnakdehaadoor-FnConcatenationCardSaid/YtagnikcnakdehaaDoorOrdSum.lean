/- OrderedSum of the program; the ordered sum of two words' structures is the structure of the words in sequence. Condition: the structures are valid. -/
import Derived.Test.YtagnikcnakdehaaDoorCircles
import Derived.Test.YtagnikcnakdehaaDoorPowP
import Derived.Test.YtagnikcnakdehaaDoorWordStr
namespace Go.Proofs.YtagnikcnakdehaaDoor
open Go.RowKit
set_option linter.unusedVariables false

theorem implOrdered_any (n : Nat) (S R : ByteArray) (m : Nat) (S2 R2 : ByteArray) (w : World) (h1 : validB n S R = true) (h2 : validB m S2 R2 = true) :
    Calls Tryd.prog 30 #[strV n S R, strV m S2 R2] w fun e w' => e = .returned (sumRes true n S R m S2 R2) ∧ Below w.heap.size w w' := by
  have HS := Lib.hid (fun w => sumOf_any true n S R m S2 R2 w h1 h2)
  have HF := Lib.hid (PairFr.first w n S R m S2 R2)
  clear h1 h2
  obtain ⟨N, T, U, b, hv⟩ : ∃ N T U b, sumRes true n S R m S2 R2 = .tuple #[strV N T U, .bool b] := by
    unfold sumRes sumV
    by_cases h : n + m ≤ 8
    · rw [if_pos h]; exact ⟨_, _, _, _, rfl⟩
    · rw [if_neg h]; exact ⟨_, _, _, _, rfl⟩
  rw [hv] at HS ⊢
  clear hv
  unfold strV
  go_enter Tryd.func30, Tryd.ntmps30
  go_wp2_with fail
  unfold strV at HS
  refine (HS.out _).mono ?_; rintro e w1 ⟨rfl, hb⟩
  have HF1 := Lib.hid (HF.out.below hb); clear hb
  obtain ⟨c0, c1, c2, f0, f1, f2, hl⟩ := HF1.out.res.cells
  go_wp2_with fail
  refine bodyPost_ret (v := .tuple #[strV N T U, .bool b]) ?_ rfl ⟨rfl, ?_⟩
  · exact results_str2 rfl rfl HF1.out.res.set3 rfl
  · exact ((HF1.out.old.setCell (by simp <;> omega) _).setCell (by simp <;> omega) _).setCell (by simp <;> omega) _

theorem relAt_grid (f : Nat → Nat → Bool) (n x y : Nat) (hx : x < n) (hy : y < n) : relAt n (gridOf f n) x y = f x y := by
  unfold relAt gridOf
  have h : (x + 1) * n ≤ n * n := Nat.mul_le_mul_right _ (by omega)
  rw [Nat.succ_mul] at h
  rw [oneAt_bits _ _ _ (by omega)]
  exact grid_at (r := f) hy
theorem gridOf_congr {f g : Nat → Nat → Bool} {n : Nat} (h : ∀ x y, x < n → y < n → f x y = g x y) : gridOf f n = gridOf g n := by
  unfold gridOf
  refine bitsOf_congr fun i hi => ?_
  have hn : 0 < n := by
    rcases Nat.eq_zero_or_pos n with h0 | h0
    · subst h0; omega
    · exact h0
  exact h _ _ (Nat.div_lt_of_lt_mul hi) (Nat.mod_lt _ hn)
/-- The sum of two words' structures. -/
theorem sum_word (u v : ByteArray) : sumV true u.size (bitsOf (letB u) u.size) (gridOf ltB u.size) v.size (bitsOf (letB v) v.size) (gridOf ltB v.size) = wordV (u ++ v) := by
  have hz : (u ++ v).size = u.size + v.size := ByteArray.size_append
  unfold sumV wordV
  rw [hz, Int.natCast_add]
  have e1 : bitsOf (sumSet u.size (bitsOf (letB u) u.size) (bitsOf (letB v) v.size)) (u.size + v.size) = bitsOf (letB (u ++ v)) (u.size + v.size) := by
    refine bitsOf_congr fun x hx => ?_
    rw [letB_append]
    unfold sumSet
    by_cases h : x < u.size
    · rw [if_pos h, if_pos h, oneAt_bits _ _ _ h]
    · rw [if_neg h, if_neg h, oneAt_bits _ _ _ (by omega)]
  have e2 : gridOf (sumRel true u.size (gridOf ltB u.size) v.size (gridOf ltB v.size)) (u.size + v.size) = gridOf ltB (u.size + v.size) := by
    refine gridOf_congr fun x y hx hy => ?_
    unfold sumRel
    by_cases h1 : x < u.size
    · by_cases h2 : y < u.size
      · rw [if_pos h1, if_pos h2, relAt_grid _ _ _ _ h1 h2]
      · rw [if_pos h1, if_neg h2]; exact (decide_eq_true (by omega)).symm
    · by_cases h2 : y < u.size
      · rw [if_neg h1, if_pos h2]; exact (decide_eq_false (by omega)).symm
      · rw [if_neg h1, if_neg h2, relAt_grid _ _ _ _ (by omega) (by omega)]
        unfold ltB
        rw [decide_eq_decide]
        omega
  rw [e1, e2]
end Go.Proofs.YtagnikcnakdehaaDoor

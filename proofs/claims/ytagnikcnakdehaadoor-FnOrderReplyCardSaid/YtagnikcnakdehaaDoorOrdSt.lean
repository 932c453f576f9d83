/- The structure of an order, plainly: it is like the order of the games; what OrderOf returns. No condition. -/
import Derived.Test.YtagnikcnakdehaaDoorReplyP
import Derived.Test.YtagnikcnakdehaaDoorOrderOf
import Derived.Test.YtagnikcnakdehaaDoorSum
namespace Go.Proofs.YtagnikcnakdehaaDoor
open Go.RowKit
set_option linter.unusedVariables false

theorem oneAt_bits5 (f : Nat → Bool) (n x : Nat) (h : x < n) : oneAt (bitsOf f n) x = f x := by
  unfold oneAt bitsOf
  have e : ((List.range n).map fun i => bit (f i)).getD x 0 = bit (f x) := by simp [h]
  show (((List.range n).map fun i => bit (f i)).toArray.toList.getD x 0 == 49) = f x
  rw [List.toList_toArray, e]
  cases f x <;> rfl
theorem relAt_grid5 (f : Nat → Nat → Bool) (n x y : Nat) (hx : x < n) (hy : y < n) : relAt n (gridOf f n) x y = f x y := by
  unfold relAt gridOf
  have h : (x + 1) * n ≤ n * n := Nat.mul_le_mul_right _ (by omega)
  rw [Nat.succ_mul] at h
  rw [oneAt_bits5 _ _ _ (by omega)]
  exact grid_at (r := f) hy
theorem y_list : ∀ n : Nat, (rep ⟨#[121]⟩ n).data.toList = List.replicate n 121
  | 0 => by simp [rep]
  | n + 1 => by
    show ((⟨#[121]⟩ : ByteArray) ++ rep ⟨#[121]⟩ n).data.toList = _
    rw [ByteArray.data_append, Array.toList_append, y_list n]
    rfl
theorem y_let (n x : Nat) : letB (rep ⟨#[121]⟩ n) x = false := by
  unfold letB
  rw [y_list, List.getD_eq_getElem?_getD, List.getElem?_replicate]
  split <;> rfl
theorem oSt_like (n : Nat) : Gs.Like (oSt n) (Gs.ord n) := by
  have hz := yrep_size n
  refine ⟨?_, ?_, ?_⟩
  · exact hz
  · intro x hx
    have hx' : x < (rep ⟨#[121]⟩ n).size := hx
    show oneAt (bitsOf (letB (rep ⟨#[121]⟩ n)) (rep ⟨#[121]⟩ n).size) x = false
    rw [oneAt_bits5 _ _ _ hx', y_let]
  · intro x y hx hy
    have hx' : x < (rep ⟨#[121]⟩ n).size := hx
    have hy' : y < (rep ⟨#[121]⟩ n).size := hy
    show relAt (rep ⟨#[121]⟩ n).size (gridOf ltB (rep ⟨#[121]⟩ n).size) x y = decide (x < y)
    rw [relAt_grid5 _ _ _ _ hx' hy']; rfl
theorem orders_win {k n m x y : Nat} (hx : x < n) (hy : y < m) (h1 : Gs.alike k x y) (h2 : Gs.alike k (n - 1 - x) (m - 1 - y)) : Gs.wins k (oSt n) [x] (oSt m) [y] = true := by
  refine (Gs.wins_iff (show [x].length = [y].length from rfl)).2 (Gs.Like.eqv2 (oSt_like n) (oSt_like m) ?_ ?_ (Gs.ord_eqv1 (n := n) (m := m) (x := x) (y := y) hx hy h1 h2))
  · intro z hz; simp at hz; subst hz; rw [(oSt_like n).n]; exact hx
  · intro z hz; simp at hz; subst hz; rw [(oSt_like m).n]; exact hy
theorem orderRes_is (k : Int) : ∃ (z : Nat) (S R : ByteArray) (b : Bool), orderRes k = .tuple #[.agg #[.int .i64 (z : Int), .string S, .string R], .bool b] ∧ (b = true → k = (z : Int) ∧ validB z S R = true ∧ stOf z S R = oSt z) := by
  unfold orderRes
  cases h : inB k 1 8
  · exact ⟨0, _, _, false, rfl, fun h => by cases h⟩
  · have h1 := inB_iff.1 h
    obtain ⟨n, rfl⟩ := Int.eq_ofNat_of_zero_le (show 0 ≤ k by omega)
    have hz := yrep_size n
    refine ⟨n, bitsOf (letB (rep ⟨#[121]⟩ n)) n, gridOf ltB n, true, ?_, fun _ => ⟨rfl, valid_bits (by omega) (by omega) _ _, ?_⟩⟩
    · show Value.tuple #[orderV n, _] = _
      unfold orderV wordV strV
      rw [hz]
    · unfold oSt wSt
      rw [hz]
end Go.Proofs.YtagnikcnakdehaaDoor

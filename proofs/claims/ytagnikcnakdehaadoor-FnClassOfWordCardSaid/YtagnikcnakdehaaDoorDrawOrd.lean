/- The draws of the order laws: DrawOrdersAlike, DrawOrderRounds, DrawEvenSentence; each number lies in a range. Condition: the bytes are readable. -/
import Derived.Test.YtagnikcnakdehaaDoorDraw
namespace Go.Proofs.YtagnikcnakdehaaDoor
open Go.RowKit

theorem below_of_grown {w w1 w2 : World} {b : Nat} (h : Below w.heap.size w w1) (hb : w.heap.size ≤ b) (hg : w1.grownBy w2 (some b)) : Below w.heap.size w w2 :=
  h.grown hg h.size (fun k hk => by injection hk with hk; omega)

/-- Three numbers that are drawn. -/
def Draw3 (w : World) (e : Ending) (w' : World) : Prop :=
  ∃ n m r : Int, e = .returned (.tuple #[.int .i64 n, .int .i64 m, .int .i64 r]) ∧ (-1 ≤ n ∧ n ≤ 1000003) ∧ (-1 ≤ m ∧ m ≤ 1000003) ∧ (-1 ≤ r ∧ r ≤ 11) ∧ Below w.heap.size w w'
def Draw2 (w : World) (e : Ending) (w' : World) : Prop :=
  ∃ n m : Int, e = .returned (.tuple #[.int .i64 n, .int .i64 m]) ∧ (-1 ≤ n ∧ n ≤ 1000003) ∧ (-1 ≤ m ∧ m ≤ 1000003) ∧ Below w.heap.size w w'
def DrawNR (w : World) (e : Ending) (w' : World) : Prop :=
  ∃ n r : Int, e = .returned (.tuple #[.int .i64 n, .int .i64 r]) ∧ (-1 ≤ n ∧ n ≤ 1000003) ∧ (-1 ≤ r ∧ r ≤ 11) ∧ Below w.heap.size w w'

theorem DrawOrdersAlike_any (w : World) (a : Option Addr) (len cap : Nat) (zs : List Int) (h : IsRow .u8 w a len cap zs) :
    Calls Tryd.prog 82 #[.slice a len cap] w (Draw3 w) := by
  have H := Lib.hid h; clear h
  go_enter Tryd.func82, Tryd.ntmps82
  go_wp2_with fail
  refine (l15Open_any _ _ _ _ _ H.out).mono ?_; rintro e w1 ⟨rfl, hr, hb, hs⟩
  have HR := Lib.hid hr; have HB := Lib.hid hb; clear hr hb hs
  generalize hB : w.heap.size = B at *
  have HW := Lib.hid hB; clear hB
  go_wp2_with fail
  refine (l13Length_any _ _ _ HR.out (by omega)).mono ?_; rintro e w2 ⟨n, rfl, n0, n1, hr2, hg2⟩
  have HR2 := Lib.hid hr2
  have HB2 : Hid (Below B w w2) := by
    have hB := HW.out
    subst hB
    exact below_of_grown HB.out (Nat.le_refl _) hg2
  clear hr2 hg2
  go_wp2_with fail
  refine (pickB _ _ _ _ HR2.out (by omega) (by omega) (by omega)).mono ?_; rintro e w3 ⟨d, rfl, d0, d1, hr3, hg3⟩
  have HR3 := Lib.hid hr3
  have HB3 : Hid (Below B w w3) := by
    have hB := HW.out
    subst hB
    exact below_of_grown HB2.out (Nat.le_refl _) hg3
  clear hr3 hg3
  go_wp2_with fail
  refine (pickB _ _ _ _ HR3.out (by omega) (by omega) (by omega)).mono ?_; rintro e w4 ⟨c, rfl, c0, c1, hr4, hg4⟩
  have HR4 := Lib.hid hr4
  have HB4 : Hid (Below B w w4) := by
    have hB := HW.out
    subst hB
    exact below_of_grown HB3.out (Nat.le_refl _) hg4
  clear hr4 hg4
  by_cases hc : c = 0
  · subst hc
    go_wp2_with fail
    refine (l13Length_any _ _ _ HR4.out (by omega)).mono ?_; rintro e w5 ⟨m, rfl, m0, m1, hr5, hg5⟩
    have HR5 := Lib.hid hr5
    have HB5 : Hid (Below B w w5) := by
      have hB := HW.out
      subst hB
      exact below_of_grown HB4.out (Nat.le_refl _) hg5
    clear hr5 hg5
    go_wp2_with fail
    refine (num_list w5 _ _ [1, 2, 3, 0, 2, 4, 10, 11, -1] _ HR5.out (by omega) (by decide) (by decide)).mono ?_; rintro e w6 ⟨u, hu, rfl, hr6, hg6⟩
    have hu' : -1 ≤ u ∧ u ≤ 11 := by
      simp at hu
      omega
    have HP : Hid (Draw3 w (.returned (.tuple #[.int .i64 n, .int .i64 m, .int .i64 u])) w6) := by
      have hB := HW.out
      subst hB
      exact ⟨n, m, u, rfl, by omega, by omega, hu', below_of_grown HB5.out (Nat.le_refl _) hg6⟩
    clear hr6 hg6 hu hu'
    go_wp2
    go_ret3
    exact HP.out
  · have hc' : (c == 0) = false := by simpa using hc
    clear hc
    go_wp2_with fail
    refine (num_list w4 _ _ [1, 2, 3, 0, 2, 4, 10, 11, -1] _ HR4.out (by omega) (by decide) (by decide)).mono ?_; rintro e w6 ⟨u, hu, rfl, hr6, hg6⟩
    have hu' : -1 ≤ u ∧ u ≤ 11 := by
      simp at hu
      omega
    have HP : Hid (Draw3 w (.returned (.tuple #[.int .i64 n, .int .i64 (n + d), .int .i64 u])) w6) := by
      have hB := HW.out
      subst hB
      exact ⟨n, n + d, u, rfl, by omega, by omega, hu', below_of_grown HB4.out (Nat.le_refl _) hg6⟩
    clear hr6 hg6 hu hu'
    go_wp2
    go_ret3
    exact HP.out

end Go.Proofs.YtagnikcnakdehaaDoor

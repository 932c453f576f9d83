/- The draws of the word laws' arguments. Condition: the bytes are readable. -/
import Derived.Test.YtagnikcnakdehaaDoorDrawW
namespace Go.Proofs.YtagnikcnakdehaaDoor
open Go.RowKit
set_option linter.unusedVariables false

/-- A text and a number that are drawn. -/
def DrawTN (w : World) (e : Ending) (w' : World) : Prop := ∃ (t : ByteArray) (n : Int), t.size ≤ 9 ∧ e = .returned (.tuple #[.string t, .int .i64 n]) ∧ Below w.heap.size w w'

set_option maxHeartbeats 1000000 in
theorem DrawPowerStops_any (w : World) (a : Option Addr) (len cap : Nat) (zs : List Int) (h : IsRow .u8 w a len cap zs) :
    Calls Tryd.prog 17 #[.slice a len cap] w (DrawTN w) := by
  have H := Lib.hid h; clear h
  go_enter Tryd.func17, Tryd.ntmps17
  go_wp2_with fail
  refine (l15Open_any _ _ _ _ _ H.out).mono ?_; rintro e w1 ⟨rfl, hr, hb, hs⟩
  have HR := Lib.hid hr; have HB := Lib.hid hb; clear hr hb hs
  generalize hB : w.heap.size = B at *
  have HW := Lib.hid hB; clear hB
  go_wp2_with fail
  refine (l12Draw_any _ _ _ 3 HR.out (by omega) (by omega) (by omega)).mono ?_; rintro e w2 ⟨t, ht, rfl, hr2, hg2⟩
  have HR2 := Lib.hid hr2
  have HB2 : Hid (Below B w w2) := by
    have hB := HW.out
    subst hB
    exact below_of_grown HB.out (Nat.le_refl _) hg2
  clear hr2 hg2
  go_wp2_with fail
  refine (pickB _ _ _ _ HR2.out (by omega) (by omega) (by omega)).mono ?_; rintro e w3 ⟨c, rfl, c0, c1, hr3, hg3⟩
  have HR3 := Lib.hid hr3
  have HB3 : Hid (Below B w w3) := by
    have hB := HW.out
    subst hB
    exact below_of_grown HB2.out (Nat.le_refl _) hg3
  clear hr3 hg3
  by_cases hc : c = 0
  · subst hc
    go_wp2_with fail
    refine (l12Open_any _ _ _ HR3.out (by omega)).mono ?_; rintro e w4 ⟨u, hu, rfl, hr4, hg4⟩
    have HR4 := Lib.hid hr4
    have HB4 : Hid (Below B w w4) := by
      have hB := HW.out
      subst hB
      exact below_of_grown HB3.out (Nat.le_refl _) hg4
    clear hr4 hg4
    go_wp2_with fail
    refine (num_list w4 _ _ [1, 2, 1, 0, 2, 3, -1] _ HR4.out (by omega) (by decide) (by decide)).mono ?_; rintro e w5 ⟨n, hn, rfl, hr5, hg5⟩
    have HP : Hid (DrawTN w (.returned (.tuple #[.string u, .int .i64 n])) w5) := by
      have hB := HW.out
      subst hB
      exact ⟨u, n, hu, rfl, below_of_grown HB4.out (Nat.le_refl _) hg5⟩
    clear hr5 hg5 hn
    go_wp2
    go_ret2
    exact HP.out
  · have hc' : (c == 0) = false := by simpa using hc
    clear hc
    go_wp2_with fail
    refine (num_list w3 _ _ [1, 2, 1, 0, 2, 3, -1] _ HR3.out (by omega) (by decide) (by decide)).mono ?_; rintro e w5 ⟨n, hn, rfl, hr5, hg5⟩
    have HP : Hid (DrawTN w (.returned (.tuple #[.string t, .int .i64 n])) w5) := by
      have hB := HW.out
      subst hB
      exact ⟨t, n, by omega, rfl, below_of_grown HB3.out (Nat.le_refl _) hg5⟩
    clear hr5 hg5 hn
    go_wp2
    go_ret2
    exact HP.out

set_option maxHeartbeats 1000000 in
theorem DrawClassOfWord_any (w : World) (a : Option Addr) (len cap : Nat) (zs : List Int) (h : IsRow .u8 w a len cap zs) :
    Calls Tryd.prog 26 #[.slice a len cap] w (DrawTN w) := by
  have H := Lib.hid h; clear h
  go_enter Tryd.func26, Tryd.ntmps26
  go_wp2_with fail
  refine (l15Open_any _ _ _ _ _ H.out).mono ?_; rintro e w1 ⟨rfl, hr, hb, hs⟩
  have HR := Lib.hid hr; have HB := Lib.hid hb; clear hr hb hs
  generalize hB : w.heap.size = B at *
  have HW := Lib.hid hB; clear hB
  go_wp2_with fail
  refine (l12Draw_any _ _ _ 5 HR.out (by omega) (by omega) (by omega)).mono ?_; rintro e w2 ⟨t, ht, rfl, hr2, hg2⟩
  have HR2 := Lib.hid hr2
  have HB2 : Hid (Below B w w2) := by
    have hB := HW.out
    subst hB
    exact below_of_grown HB.out (Nat.le_refl _) hg2
  clear hr2 hg2
  go_wp2_with fail
  refine (pickB _ _ _ _ HR2.out (by omega) (by omega) (by omega)).mono ?_; rintro e w3 ⟨c, rfl, c0, c1, hr3, hg3⟩
  have HR3 := Lib.hid hr3
  have HB3 : Hid (Below B w w3) := by
    have hB := HW.out
    subst hB
    exact below_of_grown HB2.out (Nat.le_refl _) hg3
  clear hr3 hg3
  by_cases hc : c = 0
  · subst hc
    go_wp2_with fail
    refine (l12Open_any _ _ _ HR3.out (by omega)).mono ?_; rintro e w4 ⟨u, hu, rfl, hr4, hg4⟩
    have HR4 := Lib.hid hr4
    have HB4 : Hid (Below B w w4) := by
      have hB := HW.out
      subst hB
      exact below_of_grown HB3.out (Nat.le_refl _) hg4
    clear hr4 hg4
    go_wp2_with fail
    refine (num_list w4 _ _ [1, 2, 1, 0, 2, 3, -1] _ HR4.out (by omega) (by decide) (by decide)).mono ?_; rintro e w5 ⟨n, hn, rfl, hr5, hg5⟩
    have HP : Hid (DrawTN w (.returned (.tuple #[.string u, .int .i64 n])) w5) := by
      have hB := HW.out
      subst hB
      exact ⟨u, n, hu, rfl, below_of_grown HB4.out (Nat.le_refl _) hg5⟩
    clear hr5 hg5 hn
    go_wp2
    go_ret2
    exact HP.out
  · have hc' : (c == 0) = false := by simpa using hc
    clear hc
    go_wp2_with fail
    refine (num_list w3 _ _ [1, 2, 1, 0, 2, 3, -1] _ HR3.out (by omega) (by decide) (by decide)).mono ?_; rintro e w5 ⟨n, hn, rfl, hr5, hg5⟩
    have HP : Hid (DrawTN w (.returned (.tuple #[.string t, .int .i64 n])) w5) := by
      have hB := HW.out
      subst hB
      exact ⟨t, n, by omega, rfl, below_of_grown HB3.out (Nat.le_refl _) hg5⟩
    clear hr5 hg5 hn
    go_wp2
    go_ret2
    exact HP.out

def DrawNN (w : World) (e : Ending) (w' : World) : Prop := ∃ (n m : Int), e = .returned (.tuple #[.int .i64 n, .int .i64 m]) ∧ Below w.heap.size w w'
set_option maxHeartbeats 1000000 in
theorem DrawWordClasses_any (w : World) (a : Option Addr) (len cap : Nat) (zs : List Int) (h : IsRow .u8 w a len cap zs) :
    Calls Tryd.prog 21 #[.slice a len cap] w (DrawNN w) := by
  have H := Lib.hid h; clear h
  go_enter Tryd.func21, Tryd.ntmps21
  go_wp2_with fail
  refine (l15Open_any _ _ _ _ _ H.out).mono ?_; rintro e w1 ⟨rfl, hr, hb, hs⟩
  have HR := Lib.hid hr; have HB := Lib.hid hb; clear hr hb hs
  generalize hB : w.heap.size = B at *
  have HW := Lib.hid hB; clear hB
  go_wp2_with fail
  refine (num_list w1 _ _ [3, 2, 4, 1, 0, 6, -1] _ HR.out (by omega) (by decide) (by decide)).mono ?_; rintro e w2 ⟨n, hn, rfl, hr2, hg2⟩
  have HR2 := Lib.hid hr2
  have HB2 : Hid (Below B w w2) := by
    have hB := HW.out
    subst hB
    exact below_of_grown HB.out (Nat.le_refl _) hg2
  clear hr2 hg2 hn
  go_wp2_with fail
  refine (num_list w2 _ _ [1, 2, 1, 0, 2, 3, -1] _ HR2.out (by omega) (by decide) (by decide)).mono ?_; rintro e w3 ⟨m, hm, rfl, hr3, hg3⟩
  have HP : Hid (DrawNN w (.returned (.tuple #[.int .i64 n, .int .i64 m])) w3) := by
    have hB := HW.out
    subst hB
    exact ⟨n, m, rfl, below_of_grown HB2.out (Nat.le_refl _) hg3⟩
  clear hr3 hg3 hm
  go_wp2
  go_ret2
  exact HP.out
def DrawT1 (w : World) (e : Ending) (w' : World) : Prop := ∃ t : ByteArray, t.size ≤ 9 ∧ e = .returned (.string t) ∧ Below w.heap.size w w'
theorem DrawWordValid_any (w : World) (a : Option Addr) (len cap : Nat) (zs : List Int) (h : IsRow .u8 w a len cap zs) :
    Calls Tryd.prog 24 #[.slice a len cap] w (DrawT1 w) := by
  have H := Lib.hid h; clear h
  go_enter Tryd.func24, Tryd.ntmps24
  go_wp2_with fail
  refine (l15Open_any _ _ _ _ _ H.out).mono ?_; rintro e w1 ⟨rfl, hr, hb, hs⟩
  have HR := Lib.hid hr; have HB := Lib.hid hb; clear hr hb hs
  generalize hB : w.heap.size = B at *
  have HW := Lib.hid hB; clear hB
  go_wp2_with fail
  refine (l12Open_any _ _ _ HR.out (by omega)).mono ?_; rintro e w2 ⟨t, ht, rfl, hr2, hg2⟩
  have HP : Hid (DrawT1 w (.returned (.string t)) w2) := by
    have hB := HW.out
    subst hB
    exact ⟨t, ht, rfl, below_of_grown HB.out (Nat.le_refl _) hg2⟩
  clear hr2 hg2
  go_wp2_with fail
  go_ret
  exact HP.out
end Go.Proofs.YtagnikcnakdehaaDoor

/- The draw of the arguments of SameWords. Condition: the bytes are readable. -/
import Derived.Test.YtagnikcnakdehaaDoorDrawW
import Derived.Test.YtagnikcnakdehaaDoorSince
namespace Go.Proofs.YtagnikcnakdehaaDoor
open Go.RowKit
set_option linter.unusedVariables false

theorem rdB_below {w w' : World} {b K : Nat} (h : RdB w b K) (hb : Below w.heap.size w w') : RdB w' b K := by
  have hlt := h.block
  obtain ⟨k, h1, a, len, cap, f, c0, c1, fr, short, room, row⟩ := h
  have cc : ∀ p v, w.cell? p = some v → w'.cell? p = some v := fun p v h => (hb.cell (World.block_lt_of_cell? w p h)).trans h
  refine ⟨k, h1, a, len, cap, f, cc _ _ c0, cc _ _ c1, ?_, short, room, ?_⟩
  · exact (World.frozen?_of_block (hb.block b hlt)).trans fr
  · rcases row with h | ⟨b', off, rfl, hb', hc, hf⟩
    · exact .inl h
    · exact .inr ⟨b', off, rfl, hb', fun j hj => cc _ _ (hc j hj), hf⟩
/-- Two texts and a number that are drawn. -/
def DrawTTN (w : World) (e : Ending) (w' : World) : Prop := ∃ (t u : ByteArray) (n : Int), t.size ≤ 9 ∧ u.size ≤ 9 ∧ e = .returned (.tuple #[.string t, .string u, .int .i64 n]) ∧ Below w.heap.size w w'

set_option maxHeartbeats 1000000 in
theorem DrawSameWords_any (w : World) (a : Option Addr) (len cap : Nat) (zs : List Int) (h : IsRow .u8 w a len cap zs) :
    Calls Tryd.prog 27 #[.slice a len cap] w (DrawTTN w) := by
  have H := Lib.hid h; clear h
  go_enter Tryd.func27, Tryd.ntmps27
  go_wp2_with fail
  refine (l15Open_any _ _ _ _ _ H.out).mono ?_; rintro e w1 ⟨rfl, hr, hb, hs⟩
  have HR := Lib.hid hr; have HB := Lib.hid hb; clear hr hb hs
  generalize hB : w.heap.size = B at *
  have HW := Lib.hid hB; clear hB
  go_wp2_with fail
  refine (l12Open_any _ _ _ HR.out (by omega)).mono ?_; rintro e w2 ⟨t, ht, rfl, hr2, hg2⟩
  have HR2 := Lib.hid hr2
  have HB2 : Hid (Below B w w2) := by
    have hB := HW.out
    subst hB
    exact below_of_grown HB.out (Nat.le_refl _) hg2
  clear hr2 hg2
  go_wp2_with fail
  refine (l12Open_any _ _ _ HR2.out (by omega)).mono ?_; rintro e w3 ⟨u, hu, rfl, hr3, hg3⟩
  have HR3 := Lib.hid hr3
  have HB3 : Hid (Below B w w3) := by
    have hB := HW.out
    subst hB
    exact below_of_grown HB2.out (Nat.le_refl _) hg3
  clear hr3 hg3
  go_wp2_with fail
  refine (pickB _ _ _ _ HR3.out (by omega) (by omega) (by omega)).mono ?_; rintro e w4 ⟨c, rfl, c0, c1, hr4, hg4⟩
  have HR4 := Lib.hid hr4
  have HB4 : Hid (Below B w w4) := by
    have hB := HW.out
    subst hB
    exact below_of_grown HB3.out (Nat.le_refl _) hg4
  clear hr4 hg4
  by_cases hc : c = 0
  · subst hc
    by_cases h2 : (2 : Int) < (t.size : Int)
    · by_cases h8 : (t.size : Int) < 8
      · go_wp2_with fail
        refine wp_region_since (by kernel_rfl) (by kernel_rfl) ?_
        repeat (go_big_quiet_step (fail))
        refine wpQuiet_nil ?_
        intro w5 hb5
        have HR5 := Lib.hid (rdB_below HR4.out hb5)
        have HB5 : Hid (Below B w w5) := by
          have hB := HW.out
          subst hB
          exact HB4.out.trans (hb5.mono HB4.out.size)
        have hz : (t.extract 0 2 ++ t.extract 1 t.size).size ≤ 9 := by
          rw [ByteArray.size_append, ByteArray.size_extract, ByteArray.size_extract]; omega
        generalize t.extract 0 2 ++ t.extract 1 t.size = u2 at *
        clear hb5
        go_wp2_with fail
        refine (num_list w5 _ _ [2, 1, 2, 0, 3, 1, 4, -1] _ HR5.out (by omega) (by decide) (by decide)).mono ?_; rintro e w6 ⟨n, hn, rfl, hr6, hg6⟩
        have HP : Hid (DrawTTN w (.returned (.tuple #[.string t, .string u2, .int .i64 n])) w6) := by
          have hB := HW.out
          subst hB
          exact ⟨t, u2, n, ht, hz, rfl, below_of_grown HB5.out (Nat.le_refl _) hg6⟩
        clear hr6 hg6 hn
        go_wp2
        go_ret3
        exact HP.out
      · go_wp2_with fail
        refine (num_list w4 _ _ [2, 1, 2, 0, 3, 1, 4, -1] _ HR4.out (by omega) (by decide) (by decide)).mono ?_; rintro e w5 ⟨n, hn, rfl, hr5, hg5⟩
        have HP : Hid (DrawTTN w (.returned (.tuple #[.string t, .string u, .int .i64 n])) w5) := by
          have hB := HW.out
          subst hB
          exact ⟨t, u, n, ht, hu, rfl, below_of_grown HB4.out (Nat.le_refl _) hg5⟩
        clear hr5 hg5 hn
        go_wp2
        go_ret3
        exact HP.out
    · go_wp2_with fail
      refine (num_list w4 _ _ [2, 1, 2, 0, 3, 1, 4, -1] _ HR4.out (by omega) (by decide) (by decide)).mono ?_; rintro e w5 ⟨n, hn, rfl, hr5, hg5⟩
      have HP : Hid (DrawTTN w (.returned (.tuple #[.string t, .string u, .int .i64 n])) w5) := by
        have hB := HW.out
        subst hB
        exact ⟨t, u, n, ht, hu, rfl, below_of_grown HB4.out (Nat.le_refl _) hg5⟩
      clear hr5 hg5 hn
      go_wp2
      go_ret3
      exact HP.out
  · have hc' : (c == 0) = false := by simpa using hc
    clear hc
    go_wp2_with fail
    refine (num_list w4 _ _ [2, 1, 2, 0, 3, 1, 4, -1] _ HR4.out (by omega) (by decide) (by decide)).mono ?_; rintro e w5 ⟨n, hn, rfl, hr5, hg5⟩
    have HP : Hid (DrawTTN w (.returned (.tuple #[.string t, .string u, .int .i64 n])) w5) := by
      have hB := HW.out
      subst hB
      exact ⟨t, u, n, ht, hu, rfl, below_of_grown HB4.out (Nat.le_refl _) hg5⟩
    clear hr5 hg5 hn
    go_wp2
    go_ret3
    exact HP.out
end Go.Proofs.YtagnikcnakdehaaDoor

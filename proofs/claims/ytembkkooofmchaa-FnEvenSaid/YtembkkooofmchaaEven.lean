/- The law FnEven: which lengths a sentence of a rank tells from the next, and the walk: it returns true. Condition: the bytes are readable. -/
import Derived.Test.YtembkkooofmchaaOrdP13
namespace Go.Proofs.Ytembkkooofmchaa
open Go.RowKit

theorem even_is {b : Bool} {len r : Int} (w : World) (h : evenB len r = b) :
    Calls Try.prog 18 #[.int .i64 len, .int .i64 r] w fun e w' => e = .returned (.bool b) ∧ w = w' := by
  subst h; exact implEvenSentence_any _ _ _
theorem even_is' {b : Bool} {len r : Int} (w : World) (h : evenB len r = b) :
    Calls Try.prog 17 #[.int .i64 len, .int .i64 r] w fun e w' => e = .returned (.bool b) ∧ w = w' := by
  subst h; exact specEvenSentence_any _ _ _
theorem orders_next {k r : Int} (k0 : 0 ≤ k) (k1 : k < 1000000) (r0 : 0 ≤ r) (r1 : r ≤ 10) : ordersB k (k + 1) r = decide (enough r ≤ k) := by
  rw [orders_ready k0 (by omega) (by omega) (by omega) r0 r1, alike_next]

/-- Whether two of the first lengths, up to k, are alike. -/
def seenB (E k : Int) : Bool := decide (max 1 E < k)
theorem seen_step {E k : Int} (_h1 : 1 ≤ k) : seenB E (k + 1) = (seenB E k || decide (E ≤ k)) := by
  rw [Bool.eq_iff_iff]
  simp only [seenB, Bool.or_eq_true, decide_eq_true_eq]
  omega
theorem shift_enough {r : Int} (r0 : 0 ≤ r) (r1 : r ≤ 10) : wrap64 (2 ^ r.toNat) = enough r + 1 := by
  rcases rounds_cases r0 r1 with rfl | rfl | rfl | rfl | rfl | rfl | rfl | rfl | rfl | rfl | rfl <;> decide +kernel

set_option maxHeartbeats 1000000 in
theorem fnEven_walk (a0 : Option Addr) (len0 cap0 : Nat) (z0 : List Int) (w : World) (w0 : IsRow .u8 w a0 len0 cap0 z0) :
    Calls Try.prog 9 #[.slice a0 len0 cap0] w fun e w' => e = .returned (.bool true) ∧ Below w.heap.size w w' := by
  have m0 := w0.len_le
  unfold maxLen at m0
  have W0 := Lib.hid w0; clear w0
  by_cases l0 : (len0 : Int) ≤ 1048576
  · go_enter Try.func9, Try.ntmps9
    go_wp2_with fail
    refine (DrawEvenSentence_any _ _ _ _ _ W0.out).mono ?_; rintro e w2 ⟨n, r, rfl, hn, hr, hb⟩
    have HB := Lib.hid hb; clear hb
    obtain ⟨hn0, hn1⟩ := hn
    obtain ⟨hr0, hr1⟩ := hr
    by_cases hok : (0 ≤ n ∧ n ≤ 1000000) ∧ (0 ≤ r ∧ r ≤ 10)
    · obtain ⟨⟨n2, n3⟩, r2, r3⟩ := hok
      have hs := shift_enough r2 r3
      obtain ⟨E0, E1⟩ := enough_bound r2 r3
      have HN : Hid (∀ k : Int, 0 ≤ k → k < 1000000 → ordersB k (k + 1) r = decide (enough r ≤ k)) := fun k k0 k1 => orders_next k0 k1 r2 r3
      have hev : evenB n r = decide (n < max 2 (enough r + 1)) := by simp [evenB, inB_true n2 n3, inB_true r2 r3]
      generalize enough r = E at *
      have HE := Lib.hid hev; clear hev
      go_wp2_with fail
      refine (even_is _ HE.out).mono ?_; rintro e w' ⟨rfl, rfl⟩
      go_wp2_with fail
      refine (even_is' _ HE.out).mono ?_; rintro e w' ⟨rfl, rfl⟩
      go_wp2
      have HSS := Lib.hid hs
      clear hs
      go_loop [6, 7] (fun c v => ∃ k : Int, 1 ≤ k ∧ k ≤ max 1 n ∧ k ≤ 1100 ∧ v = .int .i64 k ∧ c = .bool (seenB E k)) (fun _ v => 1100 - (intOf v).toNat)
      case atStart =>
        refine ⟨1, by omega, by omega, by omega, rfl, ?_⟩
        have : seenB E 1 = false := decide_eq_false (by omega)
        rw [this]
      case round =>
        obtain ⟨k, hk, hk', hk2, rfl, rfl⟩ := hrel
        by_cases hlt : k < n
        · by_cases hk3 : k < 1100
          · have HS := Lib.hid (seen_step (E := E) hk)
            cases hc : seenB E k
            · have HC := Lib.hid hc; clear hc
              cases hd : decide (E ≤ k)
              all_goals
                have HD := Lib.hid hd; clear hd
                go_wp2_with fail
                refine (implOrdersAlike_is _ ((HN.out k (by omega) (by omega)).trans HD.out)).mono ?_; rintro e w' ⟨rfl, rfl⟩
                go_wp2
                go_round
                case rel => exact ⟨k + 1, by omega, by omega, by omega, rfl, by rw [HS.out, HC.out, HD.out]; rfl⟩
                case measure => simp [intOf]; omega
            · have HC := Lib.hid hc; clear hc
              go_wp2
              go_round
              case rel => exact ⟨k + 1, by omega, by omega, by omega, rfl, by rw [HS.out, HC.out]; rfl⟩
              case measure => simp [intOf]; omega
          · have hc : seenB E k = true := decide_eq_true (by omega)
            have hd : decide (n < max 2 (E + 1)) = false := decide_eq_false (by omega)
            rw [hc]
            have hs := HSS.out
            go_wp2
            all_goals
              go_ret
              refine ⟨ret_bool ?_, HB.out⟩
              simp
              try omega
        · by_cases hn : n < max 2 (E + 1)
          · have hc : seenB E k = false := decide_eq_false (by omega)
            have hd : decide (n < max 2 (E + 1)) = true := decide_eq_true hn
            rw [hc]
            have hs := HSS.out
            go_wp2
            all_goals
              go_ret
              refine ⟨ret_bool ?_, HB.out⟩
              simp
              try omega
          · have hc : seenB E k = true := decide_eq_true (by omega)
            have hd : decide (n < max 2 (E + 1)) = false := decide_eq_false hn
            rw [hc]
            have hs := HSS.out
            go_wp2
            all_goals
              go_ret
              refine ⟨ret_bool ?_, HB.out⟩
              simp
              try omega
    · have hor : n < 0 ∨ (0 ≤ n ∧ 1000000 < n) ∨ (0 ≤ n ∧ n ≤ 1000000 ∧ r < 0) ∨ (0 ≤ n ∧ n ≤ 1000000 ∧ 0 ≤ r ∧ 10 < r) := by omega
      clear hok
      obtain ⟨b, hs⟩ : ∃ b, evenB n r = b := ⟨_, rfl⟩
      have HS := Lib.hid hs; clear hs
      rcases hor with h1 | ⟨h1, h2⟩ | ⟨h1, h2, h3⟩ | ⟨h1, h2, h3, h4⟩
      all_goals
        go_wp2_with fail
        refine (even_is _ HS.out).mono ?_; rintro e w' ⟨rfl, rfl⟩
        go_wp2_with fail
        refine (even_is' _ HS.out).mono ?_; rintro e w' ⟨rfl, rfl⟩
        go_wp2_with fail
        refine (even_is' _ HS.out).mono ?_; rintro e w' ⟨rfl, rfl⟩
        go_wp2
        go_ret
        exact ⟨rfl, HB.out⟩
  · go_enter Try.func9, Try.ntmps9
    go_wp2
    go_ret
    exact ⟨rfl, Below.refl _ _⟩
end Go.Proofs.Ytembkkooofmchaa

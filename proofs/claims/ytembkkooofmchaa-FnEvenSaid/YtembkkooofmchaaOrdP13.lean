/- The laws FnOrdersAlike and FnOrderRounds: plain facts on when orders are alike, and the walks: each returns true. Condition: the bytes are readable. -/
import Derived.Test.YtembkkooofmchaaOrd
import Derived.Test.YtembkkooofmchaaDrawOrd
namespace Go.Proofs.Ytembkkooofmchaa
open Go.RowKit

theorem alike_iff {n m r : Int} : alikeB n m r = true ↔ n = m ∨ (enough r ≤ n ∧ enough r ≤ m) := by
  simp only [alikeB, Bool.or_eq_true, Bool.and_eq_true, decide_eq_true_eq]
theorem alike_symm (n m r : Int) : alikeB m n r = alikeB n m r := by
  rw [Bool.eq_iff_iff, alike_iff, alike_iff]; omega
theorem alike_third {n m p r : Int} (h : alikeB n m r = true) : alikeB n p r = alikeB m p r := by
  rw [alike_iff] at h
  rw [Bool.eq_iff_iff, alike_iff, alike_iff]; omega
theorem enough_mono {r s : Int} (h : r ≤ s) : enough r ≤ enough s := by
  unfold enough
  have h1 : (2 : Nat) ^ r.toNat ≤ 2 ^ s.toNat := Nat.pow_le_pow_right (by decide) (by omega)
  have h2 : ((2 ^ r.toNat : Nat) : Int) ≤ ((2 ^ s.toNat : Nat) : Int) := by exact_mod_cast h1
  simpa using h2
theorem cnt_spec (p : Nat → Bool) : ∀ f k, k ≤ cnt p f k ∧ cnt p f k ≤ k + f ∧ (∀ j, k ≤ j → j < cnt p f k → p j = true) ∧ (cnt p f k = k + f ∨ p (cnt p f k) = false)
  | 0, k => by simp [cnt]; omega
  | f + 1, k => by
    cases h : p k
    · simp [cnt, h]; omega
    · have ih := cnt_spec p f (k + 1)
      have e : cnt p (f + 1) k = cnt p f (k + 1) := by simp [cnt, h]
      rw [e]
      obtain ⟨i1, i2, i3, i4⟩ := ih
      refine ⟨by omega, by omega, fun j hj hj' => ?_, ?_⟩
      · by_cases hk : j = k
        · rw [hk]; exact h
        · exact i3 j (by omega) hj'
      · rcases i4 with i4 | i4
        · left; omega
        · right; exact i4
theorem rounds_spec {n m : Int} (n0 : 0 ≤ n) (n1 : n ≤ 1000000) (m0 : 0 ≤ m) (m1 : m ≤ 1000000) :
    ∃ K : Int, roundsOf n m = K ∧ 0 ≤ K ∧ K ≤ 10 ∧ alikeB n m K = true ∧ (K = 10 ∨ alikeB n m (K + 1) = false) := by
  have h := cnt_spec (fun k => alikeB n m ((k : Int) + 1)) 10 0
  obtain ⟨_, h2, h3, h4⟩ := h
  generalize hK : cnt (fun k => alikeB n m ((k : Int) + 1)) 10 0 = K at *
  refine ⟨K, ?_, by omega, by omega, ?_, ?_⟩
  · simp [roundsOf, inB_true n0 n1, inB_true m0 m1, hK]
  · by_cases h0 : K = 0
    · subst h0
      rw [alike_iff]
      right
      have : enough ((0 : Nat) : Int) = 0 := rfl
      rw [this]
      exact ⟨n0, m0⟩
    · have := h3 (K - 1) (by omega) (by omega)
      have e : (((K - 1 : Nat) : Int) + 1) = K := by omega
      simpa [e] using this
  · rcases h4 with h4 | h4
    · left; omega
    · right; exact h4
theorem rounds_le {n m r K : Int} (h : alikeB n m K = true) (h' : K = 10 ∨ alikeB n m (K + 1) = false) (r1 : r ≤ 10) : alikeB n m r = decide (r ≤ K) := by
  rw [alike_iff] at h
  by_cases hr : r ≤ K
  · have := enough_mono hr
    rw [decide_eq_true hr, alike_iff]
    omega
  · rw [decide_eq_false hr]
    rcases h' with h' | h'
    · omega
    · have := enough_mono (show K + 1 ≤ r by omega)
      rw [← Bool.not_eq_true, alike_iff] at h'
      rw [← Bool.not_eq_true, alike_iff]
      omega
theorem implOrdersAlike_is {b : Bool} {n m r : Int} (w : World) (h : ordersB n m r = b) :
    Calls Try.prog 14 #[.int .i64 n, .int .i64 m, .int .i64 r] w fun e w' => e = .returned (.bool b) ∧ w = w' := by
  subst h; exact implOrdersAlike_any _ _ _ _
theorem specOrdersAlike_is {b : Bool} {n m r : Int} (w : World) (h : ordersB n m r = b) :
    Calls Try.prog 13 #[.int .i64 n, .int .i64 m, .int .i64 r] w fun e w' => e = .returned (.bool b) ∧ w = w' := by
  subst h; exact specOrdersAlike_any _ _ _ _
theorem implOrderRounds_is {K n m : Int} (w : World) (h : roundsOf n m = K) :
    Calls Try.prog 16 #[.int .i64 n, .int .i64 m] w fun e w' => e = .returned (.int .i64 K) ∧ w = w' := by
  subst h; exact implOrderRounds_any _ _ _
theorem specOrderRounds_is {K n m : Int} (w : World) (h : roundsOf n m = K) :
    Calls Try.prog 15 #[.int .i64 n, .int .i64 m] w fun e w' => e = .returned (.int .i64 K) ∧ w = w' := by
  subst h; exact specOrderRounds_any _ _ _
theorem orders_ready {n m r : Int} (n0 : 0 ≤ n) (n1 : n ≤ 1000000) (m0 : 0 ≤ m) (m1 : m ≤ 1000000) (r0 : 0 ≤ r) (r1 : r ≤ 10) : ordersB n m r = alikeB n m r := by
  simp [ordersB, readyB, inB_true n0 n1, inB_true m0 m1, inB_true r0 r1]

theorem IsRow.len_le {k : IntKind} {w : World} {a : Option Addr} {len cap : Nat} {zs : List Int} (h : IsRow k w a len cap zs) : len ≤ maxLen := by
  rcases h with ⟨rfl, rfl, rfl, rfl⟩ | ⟨x, rfl, h2, h3, h4, h5, h6⟩ <;> omega

set_option maxHeartbeats 1000000 in
theorem fnOrdersAlike_walk (a0 : Option Addr) (len0 cap0 : Nat) (z0 : List Int) (a1 : Option Addr) (len1 cap1 : Nat) (z1 : List Int) (w : World) (w0 : IsRow .u8 w a0 len0 cap0 z0) (w1 : IsRow .u8 w a1 len1 cap1 z1) :
    Calls Try.prog 7 #[.slice a0 len0 cap0, .slice a1 len1 cap1] w fun e w' => e = .returned (.bool true) ∧ Below w.heap.size w w' := by
  have m0 := w0.len_le
  have m1 := w1.len_le
  unfold maxLen at m0 m1
  have W0 := Lib.hid w0; have W1 := Lib.hid w1; clear w0 w1
  by_cases l0 : (len0 : Int) ≤ 1048576
  · by_cases l1 : (len1 : Int) ≤ 1048576
    · go_enter Try.func7, Try.ntmps7
      go_wp2_with fail
      refine (DrawOrdersAlike_any _ _ _ _ _ W0.out).mono ?_; rintro e w2 ⟨n, m, r, rfl, hn, hm, hr, hb⟩
      have HB := Lib.hid hb; clear hb
      obtain ⟨hn0, hn1⟩ := hn
      obtain ⟨hm0, hm1⟩ := hm
      obtain ⟨hr0, hr1⟩ := hr
      by_cases hok : (0 ≤ n ∧ n ≤ 1000000) ∧ (0 ≤ m ∧ m ≤ 1000000) ∧ (0 ≤ r ∧ r ≤ 10)
      · obtain ⟨⟨n2, n3⟩, ⟨m2, m3⟩, r2, r3⟩ := hok
        obtain ⟨K, hK, K0, K1, k1, k2⟩ := rounds_spec n2 n3 m2 m3
        have HK := Lib.hid hK; clear hK
        have hd := rounds_le k1 k2 r3
        clear k1 k2
        have HNN : Hid (ordersB n n r = true) := by
          show ordersB n n r = true
          rw [orders_ready n2 n3 n2 n3 r2 r3]; exact alike_eq rfl
        cases hs : alikeB n m r
        · have hrk : K < r := by
            rw [hs] at hd
            have := of_decide_eq_false hd.symm
            omega
          have hrd : decide (r ≤ K) = false := decide_eq_false (by omega)
          have HS : Hid (ordersB n m r = false) := by
            show ordersB n m r = false
            rw [orders_ready n2 n3 m2 m3 r2 r3, hs]
          have HS' : Hid (ordersB m n r = false) := by
            show ordersB m n r = false
            rw [orders_ready m2 m3 n2 n3 r2 r3, alike_symm, hs]
          clear hs hd
          go_wp2_with fail
          refine (implOrdersAlike_is _ HS.out).mono ?_; rintro e w' ⟨rfl, rfl⟩
          go_wp2_with fail
          refine (specOrdersAlike_is _ HS.out).mono ?_; rintro e w' ⟨rfl, rfl⟩
          go_wp2_with fail
          refine (implOrderRounds_is _ HK.out).mono ?_; rintro e w' ⟨rfl, rfl⟩
          go_wp2_with fail
          refine (DrawOrdersAlike_any _ _ _ _ _ (W1.out.below HB.out)).mono ?_; rintro e w3 ⟨p, p', p'', rfl, hp, hp', hp'', hb3⟩
          have HB3 : Hid (Below w.heap.size w w3) := HB.out.trans (hb3.mono HB.out.size)
          clear hb3 hp' hp''
          obtain ⟨hp0, hp1⟩ := hp
          by_cases p2 : 0 ≤ p
          · by_cases p3 : p ≤ 1000000
            · go_wp2_with fail
              refine (implOrdersAlike_is _ HS'.out).mono ?_; rintro e w' ⟨rfl, rfl⟩
              go_wp2_with fail
              refine (implOrdersAlike_is _ HNN.out).mono ?_; rintro e w' ⟨rfl, rfl⟩
              go_wp2
              go_ret
              exact ⟨rfl, HB3.out⟩
            · go_wp2_with fail
              refine (implOrdersAlike_is _ HS'.out).mono ?_; rintro e w' ⟨rfl, rfl⟩
              go_wp2_with fail
              refine (implOrdersAlike_is _ HNN.out).mono ?_; rintro e w' ⟨rfl, rfl⟩
              go_wp2
              go_ret
              exact ⟨rfl, HB3.out⟩
          · go_wp2_with fail
            refine (implOrdersAlike_is _ HS'.out).mono ?_; rintro e w' ⟨rfl, rfl⟩
            go_wp2_with fail
            refine (implOrdersAlike_is _ HNN.out).mono ?_; rintro e w' ⟨rfl, rfl⟩
            go_wp2
            go_ret
            exact ⟨rfl, HB3.out⟩
        · have hrk : r ≤ K := by
            rw [hs] at hd
            exact of_decide_eq_true hd.symm
          have HS : Hid (ordersB n m r = true) := by
            show ordersB n m r = true
            rw [orders_ready n2 n3 m2 m3 r2 r3, hs]
          have HS' : Hid (ordersB m n r = true) := by
            show ordersB m n r = true
            rw [orders_ready m2 m3 n2 n3 r2 r3, alike_symm, hs]
          have HT : Hid (∀ p, 0 ≤ p → p ≤ 1000000 → ordersB m p r = ordersB n p r) := by
            intro p p2 p3
            rw [orders_ready m2 m3 p2 p3 r2 r3, orders_ready n2 n3 p2 p3 r2 r3, alike_third hs]
          clear hs hd
          go_wp2_with fail
          refine (implOrdersAlike_is _ HS.out).mono ?_; rintro e w' ⟨rfl, rfl⟩
          go_wp2_with fail
          refine (specOrdersAlike_is _ HS.out).mono ?_; rintro e w' ⟨rfl, rfl⟩
          go_wp2_with fail
          refine (implOrderRounds_is _ HK.out).mono ?_; rintro e w' ⟨rfl, rfl⟩
          go_wp2_with fail
          refine (DrawOrdersAlike_any _ _ _ _ _ (W1.out.below HB.out)).mono ?_; rintro e w3 ⟨p, p', p'', rfl, hp, hp', hp'', hb3⟩
          have HB3 : Hid (Below w.heap.size w w3) := HB.out.trans (hb3.mono HB.out.size)
          clear hb3 hp' hp''
          obtain ⟨hp0, hp1⟩ := hp
          by_cases p2 : 0 ≤ p
          · by_cases p3 : p ≤ 1000000
            · go_wp2_with fail
              refine (implOrdersAlike_is _ HS'.out).mono ?_; rintro e w' ⟨rfl, rfl⟩
              go_wp2_with fail
              refine (implOrdersAlike_is _ HNN.out).mono ?_; rintro e w' ⟨rfl, rfl⟩
              go_wp2_with fail
              refine (implOrdersAlike_any _ _ _ _).mono ?_; rintro e w' ⟨rfl, rfl⟩
              go_wp2_with fail
              refine (implOrdersAlike_is _ (HT.out p p2 p3)).mono ?_; rintro e w' ⟨rfl, rfl⟩
              generalize ordersB n p r = c
              go_wp2
              go_ret
              exact ⟨rfl, HB3.out⟩
            · go_wp2_with fail
              refine (implOrdersAlike_is _ HS'.out).mono ?_; rintro e w' ⟨rfl, rfl⟩
              go_wp2_with fail
              refine (implOrdersAlike_is _ HNN.out).mono ?_; rintro e w' ⟨rfl, rfl⟩
              go_wp2
              go_ret
              exact ⟨rfl, HB3.out⟩
          · go_wp2_with fail
            refine (implOrdersAlike_is _ HS'.out).mono ?_; rintro e w' ⟨rfl, rfl⟩
            go_wp2_with fail
            refine (implOrdersAlike_is _ HNN.out).mono ?_; rintro e w' ⟨rfl, rfl⟩
            go_wp2
            go_ret
            exact ⟨rfl, HB3.out⟩
      · have hor : n < 0 ∨ (0 ≤ n ∧ m < 0) ∨ (0 ≤ n ∧ 0 ≤ m ∧ 1000000 < n) ∨ (0 ≤ n ∧ 0 ≤ m ∧ n ≤ 1000000 ∧ 1000000 < m) ∨ (0 ≤ n ∧ 0 ≤ m ∧ n ≤ 1000000 ∧ m ≤ 1000000 ∧ r < 0) ∨ (0 ≤ n ∧ 0 ≤ m ∧ n ≤ 1000000 ∧ m ≤ 1000000 ∧ 0 ≤ r ∧ 10 < r) := by omega
        clear hok
        obtain ⟨b, hs⟩ : ∃ b, ordersB n m r = b := ⟨_, rfl⟩
        have HS := Lib.hid hs; clear hs
        rcases hor with h1 | ⟨h1, h2⟩ | ⟨h1, h2, h3⟩ | ⟨h1, h2, h3, h4⟩ | ⟨h1, h2, h3, h4, h5⟩ | ⟨h1, h2, h3, h4, h5, h6⟩
        all_goals
          go_wp2_with fail
          refine (implOrdersAlike_is _ HS.out).mono ?_; rintro e w' ⟨rfl, rfl⟩
          go_wp2_with fail
          refine (specOrdersAlike_is _ HS.out).mono ?_; rintro e w' ⟨rfl, rfl⟩
          go_wp2_with fail
          refine (specOrdersAlike_is _ HS.out).mono ?_; rintro e w' ⟨rfl, rfl⟩
          go_wp2
          go_ret
          exact ⟨rfl, HB.out⟩
    · go_enter Try.func7, Try.ntmps7
      go_wp2
      go_ret
      exact ⟨rfl, Below.refl _ _⟩
  · go_enter Try.func7, Try.ntmps7
    go_wp2
    go_ret
    exact ⟨rfl, Below.refl _ _⟩

theorem rounds_not {n m : Int} (h : inB n 0 1000000 = false ∨ inB m 0 1000000 = false) : roundsOf n m = -1 := by
  rcases h with h | h <;> simp [roundsOf, h]

set_option maxHeartbeats 1000000 in
theorem fnOrderRounds_walk (a0 : Option Addr) (len0 cap0 : Nat) (z0 : List Int) (w : World) (w0 : IsRow .u8 w a0 len0 cap0 z0) :
    Calls Try.prog 8 #[.slice a0 len0 cap0] w fun e w' => e = .returned (.bool true) ∧ Below w.heap.size w w' := by
  have m0 := w0.len_le
  unfold maxLen at m0
  have W0 := Lib.hid w0; clear w0
  by_cases l0 : (len0 : Int) ≤ 1048576
  · go_enter Try.func8, Try.ntmps8
    go_wp2_with fail
    refine (DrawOrderRounds_any _ _ _ _ _ W0.out).mono ?_; rintro e w2 ⟨n, m, rfl, hn, hm, hb⟩
    have HB := Lib.hid hb; clear hb
    obtain ⟨hn0, hn1⟩ := hn
    obtain ⟨hm0, hm1⟩ := hm
    by_cases hok : (0 ≤ n ∧ n ≤ 1000000) ∧ (0 ≤ m ∧ m ≤ 1000000)
    · obtain ⟨⟨n2, n3⟩, m2, m3⟩ := hok
      obtain ⟨K, hK, K0, K1, k1, k2⟩ := rounds_spec n2 n3 m2 m3
      have hK' : roundsOf m n = K := by
        obtain ⟨K', hK', K0', K1', k1', k2'⟩ := rounds_spec m2 m3 n2 n3
        rw [hK']
        rw [alike_symm] at k1' k2'
        have a1 := rounds_le k1 k2 K1'
        have a2 := rounds_le k1' k2' K1
        rw [k1'] at a1; rw [k1] at a2
        have := of_decide_eq_true a1.symm
        have := of_decide_eq_true a2.symm
        omega
      have HK := Lib.hid hK; clear hK
      have HK' := Lib.hid hK'; clear hK'
      rw [alike_iff] at k1
      by_cases hnm : n = m
      · subst hnm
        have h10 : K = 10 := by
          rcases k2 with h | h
          · exact h
          · rw [alike_eq rfl] at h; cases h
        subst h10
        clear k1 k2
        go_wp2_with fail
        refine (implOrderRounds_is _ HK.out).mono ?_; rintro e w' ⟨rfl, rfl⟩
        go_wp2_with fail
        refine (specOrderRounds_is _ HK.out).mono ?_; rintro e w' ⟨rfl, rfl⟩
        go_wp2_with fail
        refine (implOrderRounds_is _ HK'.out).mono ?_; rintro e w' ⟨rfl, rfl⟩
        go_wp2
        go_ret
        exact ⟨rfl, HB.out⟩
      · have k3 : K = 10 ∨ ¬ (enough (K + 1) ≤ n ∧ enough (K + 1) ≤ m) := by
          rcases k2 with h | h
          · exact .inl h
          · right
            intro h'
            have : alikeB n m (K + 1) = true := alike_iff.2 (.inr h')
            rw [h] at this; cases this
        have k4 := k1.resolve_left hnm
        clear k1 k2
        have hnm' : (n == m) = false := by simpa using hnm
        rcases rounds_cases K0 K1 with rfl | rfl | rfl | rfl | rfl | rfl | rfl | rfl | rfl | rfl | rfl
        all_goals
          obtain ⟨k4, k5⟩ := k4
          simp [enough] at k3 k4 k5
          clear K0 K1
          go_wp2_with fail
          refine (implOrderRounds_is _ HK.out).mono ?_; rintro e w' ⟨rfl, rfl⟩
          go_wp2_with fail
          refine (specOrderRounds_is _ HK.out).mono ?_; rintro e w' ⟨rfl, rfl⟩
          rcases Int.lt_or_le n m with hlt | hlt
          all_goals
            go_wp2_with fail
            refine (implOrderRounds_is _ HK'.out).mono ?_; rintro e w' ⟨rfl, rfl⟩
            go_wp2
            go_ret
            refine ⟨ret_bool ?_, HB.out⟩
            simp [hnm]
            try omega
    · have hK : roundsOf n m = -1 := by
        apply rounds_not
        by_cases h : 0 ≤ n ∧ n ≤ 1000000
        · right
          rw [← Bool.not_eq_true, inB_iff]; omega
        · left
          rw [← Bool.not_eq_true, inB_iff]; exact h
      have HK := Lib.hid hK; clear hK hok
      go_wp2_with fail
      refine (implOrderRounds_is _ HK.out).mono ?_; rintro e w' ⟨rfl, rfl⟩
      go_wp2_with fail
      refine (specOrderRounds_is _ HK.out).mono ?_; rintro e w' ⟨rfl, rfl⟩
      go_wp2_with fail
      refine (specOrderRounds_is _ HK.out).mono ?_; rintro e w' ⟨rfl, rfl⟩
      go_wp2
      go_ret
      exact ⟨rfl, HB.out⟩
  · go_enter Try.func8, Try.ntmps8
    go_wp2
    go_ret
    exact ⟨rfl, Below.refl _ _⟩

end Go.Proofs.Ytembkkooofmchaa

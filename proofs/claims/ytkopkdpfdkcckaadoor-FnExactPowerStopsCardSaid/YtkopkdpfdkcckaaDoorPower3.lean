/- PowerStops of the program and of the reference; the law FnExactPowerStops. Conditions: a text's length fits an integer. -/
import Derived.Test.YtkopkdpfdkcckaaDoorPower2
namespace Go.Proofs.YtkopkdpfdkcckaaDoor
open Go.RowKit
set_option linter.unusedVariables false

theorem powRes_no {s : ByteArray} {K : Int} (h : wordB s = false ∨ inB K 0 2 = false) : powRes s K = -2 := by
  unfold powRes
  rcases h with h | h <;> rw [h] <;> simp
theorem implPower_any (s : ByteArray) (K : Int) (w : World) (hs : s.size ≤ 9223372036854775807) : Calls Tryd.prog 25 #[.string s, .int .i64 K] w (IntB w (powRes s K)) := by
  have HI := Lib.hid (fun w => isWord_any s w hs)
  obtain ⟨b, hb⟩ : ∃ b, wordB s = b := ⟨_, rfl⟩
  cases b
  · rw [powRes_no (.inl hb)]
    rw [hb] at HI
    clear hb hs
    go_enter Tryd.func25, Tryd.ntmps25
    go_wp2_with fail
    refine (HI.out _).mono ?_; rintro e w1 ⟨rfl, hb⟩
    have HB1 := Lib.hid hb; clear hb
    go_wp2_with fail
    go_ret
    exact ⟨rfl, HB1.out⟩
  · by_cases k0 : 0 ≤ K
    · by_cases k2 : K ≤ 2
      · obtain ⟨k, rfl⟩ := Int.eq_ofNat_of_zero_le k0
        exact implPower_yes s k w hb (by omega)
      · rw [powRes_no (.inr (inB_hi k2))]
        rw [hb] at HI
        clear hb hs
        go_enter Tryd.func25, Tryd.ntmps25
        go_wp2_with fail
        refine (HI.out _).mono ?_; rintro e w1 ⟨rfl, hb⟩
        have HB1 := Lib.hid hb; clear hb
        go_wp2_with fail
        go_ret
        exact ⟨rfl, HB1.out⟩
    · rw [powRes_no (.inr (inB_lo k0))]
      rw [hb] at HI
      clear hb hs
      go_enter Tryd.func25, Tryd.ntmps25
      go_wp2_with fail
      refine (HI.out _).mono ?_; rintro e w1 ⟨rfl, hb⟩
      have HB1 := Lib.hid hb; clear hb
      go_wp2_with fail
      go_ret
      exact ⟨rfl, HB1.out⟩
theorem specPower_any (s : ByteArray) (K : Int) (w : World) (hs : s.size ≤ 9223372036854775807) : Calls Tryd.prog 24 #[.string s, .int .i64 K] w (IntB w (powRes s K)) := by
  have HI := Lib.hid (fun w => specWordValid_any s w hs)
  have HIN := Lib.hid (fun w => l1In_any K 0 2 w)
  obtain ⟨b, hb⟩ : ∃ b, wordB s = b := ⟨_, rfl⟩
  cases b
  · rw [powRes_no (.inl hb)]
    rw [hb] at HI
    clear hb hs
    go_enter Tryd.func24, Tryd.ntmps24
    go_wp2_with fail
    refine (HI.out _).mono ?_; rintro e w' ⟨rfl, rfl⟩
    go_wp2_with fail
    go_ret
    exact ⟨rfl, Below.refl _ _⟩
  · obtain ⟨c, hc⟩ : ∃ c, inB K 0 2 = c := ⟨_, rfl⟩
    cases c
    · rw [powRes_no (.inr hc)]
      rw [hb] at HI
      rw [hc] at HIN
      clear hb hs hc
      go_enter Tryd.func24, Tryd.ntmps24
      go_wp2_with fail
      refine (HI.out _).mono ?_; rintro e w' ⟨rfl, rfl⟩
      go_wp2_with fail
      refine (HIN.out _).mono ?_; rintro e w' ⟨rfl, rfl⟩
      go_wp2_with fail
      go_ret
      exact ⟨rfl, Below.refl _ _⟩
    · have hK := inB_iff.1 hc
      obtain ⟨k, rfl⟩ := Int.eq_ofNat_of_zero_le hK.1
      exact specPower_yes s k w hb (by omega)

theorem fnExactPowerStops_walk (s : ByteArray) (K : Int) (w : World) (hs : s.size ≤ maxLen) (hK : (Lit.int .i64 K).wf = true) :
    Calls Tryd.prog 8 #[.string s, .int .i64 K] w fun e w' => e = .returned (.bool true) ∧ Below w.heap.size w w' := by
  have hs' : s.size ≤ 9223372036854775807 := hs
  have H1 := Lib.hid (fun w => specPower_any s K w hs')
  have H2 := Lib.hid (fun w => implPower_any s K w hs')
  clear hs hK
  generalize powRes s K = B at *
  by_cases h0 : (s.size : Int) ≤ 1048576
  · go_enter Tryd.func8, Tryd.ntmps8
    go_wp2_with fail
    refine (H1.out _).mono ?_; rintro e w1 ⟨rfl, hb⟩
    have HB1 := Lib.hid hb; clear hb
    go_wp2_with fail
    refine (H2.out _).mono ?_; rintro e w2 ⟨rfl, hb⟩
    have HB2 := Lib.hid (HB1.out.trans (hb.mono HB1.out.size)); clear hb
    go_wp2_with fail
    go_ret
    exact ⟨rfl, HB2.out⟩
  · go_enter Tryd.func8, Tryd.ntmps8
    go_wp2_with fail
    go_ret
    exact ⟨rfl, Below.refl _ _⟩
end Go.Proofs.YtkopkdpfdkcckaaDoor

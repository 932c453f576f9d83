/- The walk of the law FnClassOfWord: it returns true. Condition: the bytes are readable. -/
import Derived.Test.YtagnikcnakdehaaDoorClassOf
import Derived.Test.YtagnikcnakdehaaDoorDrawW
import Derived.Test.YtagnikcnakdehaaDoorOrdP13
namespace Go.Proofs.YtagnikcnakdehaaDoor
open Go.RowKit
set_option linter.unusedVariables false

theorem sameB_yes {v u : ByteArray} {k : Nat} (hv : wordB v = true) (hu : wordB u = true) (hk : k ≤ 3) : sameB v u (k : Int) = likeW k v u := by
  unfold sameB
  rw [hv, hu, inB_true (by omega) (by omega)]; rfl
theorem classRes_size (s : ByteArray) (K : Int) : (classRes s K).size ≤ 8 := by
  unfold classRes
  split
  · rename_i h
    rw [Bool.and_eq_true] at h
    have h1 := wordB_size' h.1
    have h2 := (first_word (k := K.toNat) h.1).2.1
    omega
  · simp

theorem not_empty {v : ByteArray} (h : 1 ≤ v.size) : v.toList.isEmpty = false := by
  rw [Lib.toList_data]
  cases hl : v.data.toList with
  | nil =>
    have h2 : v.data.toList.length = v.size := by simp
    rw [hl] at h2
    simp at h2
    omega
  | cons c l => rfl

set_option maxHeartbeats 1000000 in
theorem fnClassOfWord_walk (a0 : Option Addr) (len0 cap0 : Nat) (z0 : List Int) (a1 : Option Addr) (len1 cap1 : Nat) (z1 : List Int) (w : World) (w0 : IsRow .u8 w a0 len0 cap0 z0) (w1 : IsRow .u8 w a1 len1 cap1 z1) :
    Calls Tryd.prog 6 #[.slice a0 len0 cap0, .slice a1 len1 cap1] w fun e w' => e = .returned (.bool true) ∧ Below w.heap.size w w' := by
  have m0 := w0.len_le
  have m1 := w1.len_le
  unfold maxLen at m0 m1
  have W0 := Lib.hid w0; have W1 := Lib.hid w1; clear w0 w1
  by_cases l0 : (len0 : Int) ≤ 1048576
  · by_cases l1 : (len1 : Int) ≤ 1048576
    · go_enter Tryd.func6, Tryd.ntmps6
      go_wp2_with fail
      refine (DrawClassOfWord_any _ _ _ _ _ W0.out).mono ?_; rintro e w1 ⟨t, n, ht, rfl, hb⟩
      have HB1 := Lib.hid hb; clear hb
      have hT : t.size ≤ 9223372036854775807 := by omega
      have HI := Lib.hid (fun w => implClassOf_any t n w hT)
      have HS := Lib.hid (fun w => specClassOf_any t n w hT)
      have HV := Lib.hid (fun w => implWordValid_any t w hT)
      obtain ⟨v, hv⟩ : ∃ v, classRes t n = v := ⟨_, rfl⟩
      rw [hv] at HI HS
      cases hw : wordB t
      · rw [classRes_no1 hw] at hv
        rw [hw] at HV
        subst hv
        clear hw
        go_wp2_with fail
        refine (HI.out _).mono ?_; rintro e w2 ⟨rfl, hb⟩
        have HB2 := Lib.hid (HB1.out.trans (hb.mono HB1.out.size)); clear hb
        go_wp2_with fail
        refine (HS.out _).mono ?_; rintro e w3 ⟨rfl, hb⟩
        have HB3 := Lib.hid (HB2.out.trans (hb.mono HB2.out.size)); clear hb
        go_wp2_with fail
        refine (HS.out _).mono ?_; rintro e w4 ⟨rfl, hb⟩
        have HB4 := Lib.hid (HB3.out.trans (hb.mono HB3.out.size)); clear hb
        go_wp2_with fail
        refine (HV.out _).mono ?_; rintro e w5 ⟨rfl, hb⟩
        have HB5 := Lib.hid (HB4.out.trans (hb.mono HB4.out.size)); clear hb
        go_wp2_with fail
        go_ret
        exact ⟨rfl, HB5.out⟩
      · rw [hw] at HV
        cases hn : inB n 0 2
        · rw [classRes_no2 hn] at hv
          subst hv
          have hn2 : n < 0 ∨ 2 < n := by
            rw [← Bool.not_eq_true, inB_iff] at hn
            omega
          clear hw hn
          go_wp2_with fail
          refine (HI.out _).mono ?_; rintro e w2 ⟨rfl, hb⟩
          have HB2 := Lib.hid (HB1.out.trans (hb.mono HB1.out.size)); clear hb
          go_wp2_with fail
          refine (HS.out _).mono ?_; rintro e w3 ⟨rfl, hb⟩
          have HB3 := Lib.hid (HB2.out.trans (hb.mono HB2.out.size)); clear hb
          go_wp2_with fail
          refine (HS.out _).mono ?_; rintro e w4 ⟨rfl, hb⟩
          have HB4 := Lib.hid (HB3.out.trans (hb.mono HB3.out.size)); clear hb
          go_wp2_with fail
          refine (HV.out _).mono ?_; rintro e w5 ⟨rfl, hb⟩
          have HB5 := Lib.hid (HB4.out.trans (hb.mono HB4.out.size)); clear hb
          rcases hn2 with hn2 | hn2
          · go_wp2_with fail
            go_ret
            exact ⟨rfl, HB5.out⟩
          · have hn3 : ¬ n < 0 := by omega
            go_wp2_with fail
            go_ret
            exact ⟨rfl, HB5.out⟩
        · have hn2 := inB_iff.1 hn
          obtain ⟨k, rfl⟩ := Int.eq_ofNat_of_zero_le hn2.1
          have hk : k ≤ 2 := by omega
          rw [classRes_yes hw hk] at hv
          obtain ⟨v1, v2, v3, v4⟩ := first_word (k := k) hw
          rw [hv] at v1 v2 v3 v4
          have HW := Lib.hid hw
          have HV1 := Lib.hid v1
          have hvs := wordB_size' v1
          have HVW := Lib.hid (fun W => implSameWords_any v t (k : Int) W (by omega) hT)
          rw [sameB_yes v1 hw (by omega), v3] at HVW
          have HVV := Lib.hid (fun W => implClassOf_any v (k : Int) W (by omega))
          rw [classRes_yes v1 hk, v4] at HVV
          have HFU : Hid (∀ u, wordB u = true → likeW k u t = true → classRes u (k : Int) = v) := by
            intro u h1 h2
            rw [classRes_yes h1 hk, first_same h1 hw h2, hv]
          have hvn := not_empty hvs.1
          clear hw hv v1 v3 v4 hn hn2
          go_wp2_with fail
          refine (HI.out _).mono ?_; rintro e w2 ⟨rfl, hb⟩
          have HB2 := Lib.hid (HB1.out.trans (hb.mono HB1.out.size)); clear hb
          go_wp2_with fail
          refine (HS.out _).mono ?_; rintro e w3 ⟨rfl, hb⟩
          have HB3 := Lib.hid (HB2.out.trans (hb.mono HB2.out.size)); clear hb
          go_wp2_with fail
          refine (DrawClassOfWord_any _ _ _ _ _ (W1.out.below HB3.out)).mono ?_; rintro e w4 ⟨u, m, hu, rfl, hb⟩
          have HB4 := Lib.hid (HB3.out.trans (hb.mono HB3.out.size)); clear hb
          have hU : u.size ≤ 9223372036854775807 := by omega
          have HVU := Lib.hid (fun W => implWordValid_any u W hU)
          obtain ⟨b1, hb1⟩ : ∃ b, wordB u = b := ⟨_, rfl⟩
          rw [hb1] at HVU
          cases b1
          · clear hb1
            go_wp2_with fail
            refine (HVU.out _).mono ?_; rintro e w5 ⟨rfl, hb⟩
            have HB5 := Lib.hid (HB4.out.trans (hb.mono HB4.out.size)); clear hb
            go_wp2_with fail
            refine (HVW.out _).mono ?_; rintro e w6 ⟨rfl, hb⟩
            have HB6 := Lib.hid (HB5.out.trans (hb.mono HB5.out.size)); clear hb
            go_wp2_with fail
            refine (HVV.out _).mono ?_; rintro e w7 ⟨rfl, hb⟩
            have HB7 := Lib.hid (HB6.out.trans (hb.mono HB6.out.size)); clear hb
            go_wp2_with fail
            go_ret
            exact ⟨rfl, HB7.out⟩
          · have HUW := Lib.hid (fun W => implSameWords_any u t (k : Int) W hU hT)
            rw [sameB_yes hb1 HW.out (by omega)] at HUW
            obtain ⟨b2, hb2⟩ : ∃ b, likeW k u t = b := ⟨_, rfl⟩
            rw [hb2] at HUW
            cases b2
            · clear hb1 hb2
              go_wp2_with fail
              refine (HVU.out _).mono ?_; rintro e w5 ⟨rfl, hb⟩
              have HB5 := Lib.hid (HB4.out.trans (hb.mono HB4.out.size)); clear hb
              go_wp2_with fail
              refine (HUW.out _).mono ?_; rintro e w6 ⟨rfl, hb⟩
              have HB6 := Lib.hid (HB5.out.trans (hb.mono HB5.out.size)); clear hb
              go_wp2_with fail
              refine (HVW.out _).mono ?_; rintro e w7 ⟨rfl, hb⟩
              have HB7 := Lib.hid (HB6.out.trans (hb.mono HB6.out.size)); clear hb
              go_wp2_with fail
              refine (HVV.out _).mono ?_; rintro e w8 ⟨rfl, hb⟩
              have HB8 := Lib.hid (HB7.out.trans (hb.mono HB7.out.size)); clear hb
              go_wp2_with fail
              go_ret
              exact ⟨rfl, HB8.out⟩
            · have HCU := Lib.hid (fun W => implClassOf_any u (k : Int) W hU)
              rw [HFU.out u hb1 hb2] at HCU
              clear hb1 hb2
              go_wp2_with fail
              refine (HVU.out _).mono ?_; rintro e w5 ⟨rfl, hb⟩
              have HB5 := Lib.hid (HB4.out.trans (hb.mono HB4.out.size)); clear hb
              go_wp2_with fail
              refine (HUW.out _).mono ?_; rintro e w6 ⟨rfl, hb⟩
              have HB6 := Lib.hid (HB5.out.trans (hb.mono HB5.out.size)); clear hb
              go_wp2_with fail
              refine (HCU.out _).mono ?_; rintro e w7 ⟨rfl, hb⟩
              have HB7 := Lib.hid (HB6.out.trans (hb.mono HB6.out.size)); clear hb
              go_wp2_with fail
              refine (HVW.out _).mono ?_; rintro e w8 ⟨rfl, hb⟩
              have HB8 := Lib.hid (HB7.out.trans (hb.mono HB7.out.size)); clear hb
              go_wp2_with fail
              refine (HVV.out _).mono ?_; rintro e w9 ⟨rfl, hb⟩
              have HB9 := Lib.hid (HB8.out.trans (hb.mono HB8.out.size)); clear hb
              go_wp2_with fail
              go_ret
              exact ⟨rfl, HB9.out⟩
    · go_enter Tryd.func6, Tryd.ntmps6
      go_wp2_with fail
      go_ret
      exact ⟨rfl, Below.refl _ _⟩
  · go_enter Tryd.func6, Tryd.ntmps6
    go_wp2_with fail
    go_ret
    exact ⟨rfl, Below.refl _ _⟩
end Go.Proofs.YtagnikcnakdehaaDoor

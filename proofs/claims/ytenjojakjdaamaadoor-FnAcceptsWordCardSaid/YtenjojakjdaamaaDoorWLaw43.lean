/- The walk of the law FnAcceptsWord: it returns true. Condition: the bytes are readable. -/
import Derived.Test.YtenjojakjdaamaaDoorRank
import Derived.Test.YtenjojakjdaamaaDoorDrawF
import Derived.Test.YtenjojakjdaamaaDoorNumW
import Derived.Test.YtenjojakjdaamaaDoorNew
import Derived.Test.YtenjojakjdaamaaDoorRd
namespace Go.Proofs.YtenjojakjdaamaaDoor
open Go.RowKit
set_option linter.unusedVariables false

theorem rowLenA {k : IntKind} {w : World} {a : Option Addr} {len cap : Nat} {zs : List Int} (h : IsRow k w a len cap zs) : len ≤ maxLen := by
  rcases h with ⟨_, h, _⟩ | ⟨_, _, h1, h2, _⟩
  · rw [h]; decide
  · omega
/-- What a sentence and its negation answer of a word. -/
structure AccF (f s : ByteArray) : Prop where
  word : wordB s = true
  some : ∃ φ, readB f = .some φ ∧ Fm.free φ = 0 ∧ (accW f s).1 = Fm.holds (wSt' s) φ (fun _ => 0)
theorem accW_yes {f s : ByteArray} (h : (accW f s).2 = true) : AccF f s := by
  unfold accW at h
  by_cases hw : wordB s = true
  · rw [if_pos hw] at h
    unfold hin at h
    cases hr : readB f with
    | none => rw [hr] at h; simp at h
    | some φ =>
      rw [hr] at h
      by_cases h0 : Fm.free φ = 0
      · refine ⟨hw, φ, hr, h0, ?_⟩
        unfold accW hin
        rw [if_pos hw, hr]; simp only [h0, if_true]; rfl
      · simp [h0] at h
  · rw [if_neg hw] at h; simp at h
theorem accW_of {f s : ByteArray} {φ : Fm.T} (hw : wordB s = true) (hr : readB f = some φ) (h0 : Fm.free φ = 0) : accW f s = (Fm.holds (wSt' s) φ (fun _ => 0), true) := by
  unfold accW hin
  rw [if_pos hw, hr]; simp only [h0, if_true]; rfl
theorem accW_same {f s t : ByteArray} (h : (accW f s).2 = true) (ht : (accW f t).2 = true) (hs : sameB t s (rankV f) = true) : (accW f t).1 = (accW f s).1 := by
  obtain ⟨_, φ, hr, h0, h1⟩ := accW_yes h
  obtain ⟨_, ψ, hr', _, h2⟩ := accW_yes ht
  rw [hr] at hr'; obtain rfl := Option.some.inj hr'
  have hk : rankV f = (Fm.rank φ : Int) := by unfold rankV; rw [hr]
  rw [hk] at hs
  simp only [sameB, Bool.and_eq_true, Int.toNat_natCast] at hs
  have he := (Gs.wins_iff rfl).1 hs.2.2.2
  rw [h1, h2]
  exact Fm.holds_eqv φ he (Nat.le_refl _) (fun u hu => by rw [h0] at hu; simp at hu)
theorem accW_not {f s : ByteArray} (h : (accW f s).2 = true) (hf : f.size ≤ 3999) : (readB f).isSome = true ∧ accW (⟨#[33]⟩ ++ f) s = (!(accW f s).1, true) := by
  obtain ⟨hw, φ, hr, h0, h1⟩ := accW_yes h
  refine ⟨by rw [hr]; rfl, ?_⟩
  rw [accW_of hw (readB_neg hr hf) (by rw [free_neg]; exact h0), h1]; rfl

set_option maxRecDepth 100000 in
set_option maxHeartbeats 1000000 in
theorem fnAcceptsWord_walk (a0 : Option Addr) (len0 cap0 : Nat) (z0 : List Int) (a1 : Option Addr) (len1 cap1 : Nat) (z1 : List Int) (w : World) (w0 : IsRow .u8 w a0 len0 cap0 z0) (w1 : IsRow .u8 w a1 len1 cap1 z1) :
    Calls Tryd.prog 3 #[.slice a0 len0 cap0, .slice a1 len1 cap1] w fun e w' => e = .returned (.bool true) ∧ Below w.heap.size w w' := by
  have m0 := rowLenA w0
  have m1 := rowLenA w1
  unfold maxLen at m0 m1
  have W0 := Lib.hid w0; have W1 := Lib.hid w1; clear w0 w1
  by_cases l0 : (len0 : Int) ≤ 1048576
  · by_cases l1 : (len1 : Int) ≤ 1048576
    · go_enter Tryd.func3, Tryd.ntmps3
      go_wp2_with fail
      refine (DrawAcceptsWord_any _ _ _ _ _ W0.out).mono ?_; rintro e w1 ⟨f, s, hf, hs, rfl, hb⟩
      have HB1 := Lib.hid hb; clear hb
      have HI := Lib.hid (fun W => implAccepts_any f s (by omega) (by omega) W)
      have HS := Lib.hid (fun W => specAccepts_any f s (by omega) (by omega) W)
      have HIV := Lib.hid (fun t (ht : t.size ≤ 9) W => implAccepts_any f t (by omega) (by omega) W)
      have HR := Lib.hid (fun W => RankOf_any f W (by omega))
      have HN := Lib.hid (fun W => NotFormula_any f W (by omega))
      have hzn : (⟨#[33]⟩ ++ f : ByteArray).size ≤ 73 := by rw [ByteArray.size_append]; have : (⟨#[33]⟩ : ByteArray).size = 1 := rfl; omega
      have HU := Lib.hid (fun W => implAccepts_any (⟨#[33]⟩ ++ f) s (by omega) (by omega) W)
      have HSW := Lib.hid (fun t (ht : t.size ≤ 9) W => implSameWords_any t s (rankV f) W (by omega) (by omega))
      have hX := Lib.hid (fun (h : (accW f s).2 = true) => accW_not (f := f) (s := s) h (by omega))
      have hY := Lib.hid (fun (h : (accW f s).2 = true) t ht => accW_same (f := f) (s := s) (t := t) h ht)
      obtain ⟨b, hb⟩ : ∃ b, (accW f s).2 = b := ⟨_, rfl⟩
      obtain ⟨c, hc⟩ : ∃ b, (accW f s).1 = b := ⟨_, rfl⟩
      rw [hc] at hX hY
      rw [hb] at HI HS hX hY
      rw [hc] at HI HS
      cases b
      · clear hX hY HU HN HIV HR HSW hb hc hzn hf hs
        go_wp2_with fail
        refine (HI.out _).mono ?_; rintro e w2 ⟨rfl, hb⟩
        have HB2 := Lib.hid (HB1.out.trans (hb.mono HB1.out.size)); clear hb
        go_wp2_with fail
        refine (HS.out _).mono ?_; rintro e w3 ⟨rfl, hb⟩
        have HB3 := Lib.hid (HB2.out.trans (hb.mono HB2.out.size)); clear hb
        go_wp2_with fail
        go_ret
        exact ⟨rfl, HB3.out⟩
      · have hx := hX.out rfl
        have HYY := Lib.hid (hY.out rfl)
        clear hY
        rw [hx.1] at HN
        rw [hx.2] at HU
        clear hX hx hb hc
        simp only [if_true] at HN HU
        go_wp2_with fail
        refine (HI.out _).mono ?_; rintro e w2 ⟨rfl, hb⟩
        have HB2 := Lib.hid (HB1.out.trans (hb.mono HB1.out.size)); clear hb
        go_wp2_with fail
        refine (HS.out _).mono ?_; rintro e w3 ⟨rfl, hb⟩
        have HB3 := Lib.hid (HB2.out.trans (hb.mono HB2.out.size)); clear hb HI HS
        go_wp2_with fail
        refine (DrawWordValid_any _ _ _ _ _ (W1.out.below HB3.out)).mono ?_; rintro e w4 ⟨t, ht, rfl, hb⟩
        have HB4 := Lib.hid (HB3.out.trans (hb.mono HB3.out.size)); clear hb
        have HIT := Lib.hid (HIV.out t ht); have HST := Lib.hid (HSW.out t ht); clear HIV HSW
        have hYt := Lib.hid (HYY.out t)
        clear HYY
        generalize rankV f = R at *
        generalize sameB t s R = S at *
        obtain ⟨o, ho⟩ : ∃ o, accW f t = o := ⟨_, rfl⟩
        rw [ho] at HIT hYt
        obtain ⟨o, d⟩ := o
        simp only at HIT hYt
        clear ho hf hs ht
        generalize (⟨#[33]⟩ ++ f : ByteArray) = nf at *
        go_wp2_with fail
        refine (HIT.out _).mono ?_; rintro e w5 ⟨rfl, hb⟩
        have HB5 := Lib.hid (HB4.out.trans (hb.mono HB4.out.size)); clear hb HIT HB1 HB2 HB3 HB4
        cases d
        · go_wp2_with fail
          refine (HN.out _).mono ?_; rintro e w6 ⟨rfl, hb⟩
          have HB6 := Lib.hid (HB5.out.trans (hb.mono HB5.out.size)); clear hb
          go_wp2_with fail
          refine (HU.out _).mono ?_; rintro e w7 ⟨rfl, hb⟩
          have HB7 := Lib.hid (HB6.out.trans (hb.mono HB6.out.size)); clear hb
          cases c
          all_goals
            go_wp2_with fail
            go_ret
            exact ⟨rfl, HB7.out⟩
        · go_wp2_with fail
          refine (HR.out _).mono ?_; rintro e w6 ⟨rfl, hb⟩
          have HB6 := Lib.hid (HB5.out.trans (hb.mono HB5.out.size)); clear hb
          by_cases h3 : R ≤ 3
          · go_wp2_with fail
            refine (HR.out _).mono ?_; rintro e w7 ⟨rfl, hb⟩
            have HB7 := Lib.hid (HB6.out.trans (hb.mono HB6.out.size)); clear hb
            go_wp2_with fail
            refine (HST.out _).mono ?_; rintro e w8 ⟨rfl, hb⟩
            have HB8 := Lib.hid (HB7.out.trans (hb.mono HB7.out.size)); clear hb
            cases S
            · go_wp2_with fail
              refine (HN.out _).mono ?_; rintro e w9 ⟨rfl, hb⟩
              have HB9 := Lib.hid (HB8.out.trans (hb.mono HB8.out.size)); clear hb
              go_wp2_with fail
              refine (HU.out _).mono ?_; rintro e w10 ⟨rfl, hb⟩
              have HB10 := Lib.hid (HB9.out.trans (hb.mono HB9.out.size)); clear hb
              cases c
              all_goals
                go_wp2_with fail
                go_ret
                exact ⟨rfl, HB10.out⟩
            · have hoc := hYt.out (by trivial) (by trivial)
              subst hoc
              cases o
              all_goals
                go_wp2_with fail
                refine (HN.out _).mono ?_; rintro e w9 ⟨rfl, hb⟩
                have HB9 := Lib.hid (HB8.out.trans (hb.mono HB8.out.size)); clear hb
                go_wp2_with fail
                refine (HU.out _).mono ?_; rintro e w10 ⟨rfl, hb⟩
                have HB10 := Lib.hid (HB9.out.trans (hb.mono HB9.out.size)); clear hb
                go_wp2_with fail
                go_ret
                exact ⟨rfl, HB10.out⟩
          · have h3' : (3 : Int) < R := by omega
            go_wp2_with fail
            refine (HN.out _).mono ?_; rintro e w9 ⟨rfl, hb⟩
            have HB9 := Lib.hid (HB6.out.trans (hb.mono HB6.out.size)); clear hb
            go_wp2_with fail
            refine (HU.out _).mono ?_; rintro e w10 ⟨rfl, hb⟩
            have HB10 := Lib.hid (HB9.out.trans (hb.mono HB9.out.size)); clear hb
            cases c
            all_goals
              go_wp2_with fail
              go_ret
              exact ⟨rfl, HB10.out⟩
    · go_enter Tryd.func3, Tryd.ntmps3
      go_wp2_with fail
      go_ret
      exact ⟨rfl, Below.refl _ _⟩
  · go_enter Tryd.func3, Tryd.ntmps3
    go_wp2_with fail
    go_ret
    exact ⟨rfl, Below.refl _ _⟩
end Go.Proofs.YtenjojakjdaamaaDoor

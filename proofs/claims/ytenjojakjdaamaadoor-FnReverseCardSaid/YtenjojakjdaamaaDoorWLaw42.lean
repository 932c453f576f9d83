/- The walk of the law FnReverse: it returns true. Condition: the bytes are readable. -/
import Derived.Test.YtenjojakjdaamaaDoorRevT
import Derived.Test.YtenjojakjdaamaaDoorDrawF
import Derived.Test.YtenjojakjdaamaaDoorRd
namespace Go.Proofs.YtenjojakjdaamaaDoor
open Go.RowKit
set_option linter.unusedVariables false

theorem rowLenR {k : IntKind} {w : World} {a : Option Addr} {len cap : Nat} {zs : List Int} (h : IsRow k w a len cap zs) : len ≤ maxLen := by
  rcases h with ⟨_, h, _⟩ | ⟨_, _, h1, h2, _⟩
  · rw [h]; decide
  · omega
theorem DrawReverse_any (w : World) (a : Option Addr) (len cap : Nat) (zs : List Int) (h : IsRow .u8 w a len cap zs) :
    Calls Tryd.prog 20 #[.slice a len cap] w fun e w' => ∃ t : ByteArray, t.size ≤ 72 ∧ e = .returned (.string t) ∧ Below w.heap.size w w' := by
  have H := Lib.hid h; clear h
  go_enter Tryd.func20, Tryd.ntmps20
  go_wp2_with fail
  refine (DrawAcceptsWord_any _ _ _ _ _ H.out).mono ?_; rintro e w1 ⟨f, s, hf, hs, rfl, hb⟩
  have HB := Lib.hid hb; clear hb
  go_wp2_with fail
  go_ret
  exact ⟨f, hf, rfl, HB.out⟩

set_option maxRecDepth 100000 in
set_option maxHeartbeats 1000000 in
theorem fnReverse_walk (a0 : Option Addr) (len0 cap0 : Nat) (z0 : List Int) (a1 : Option Addr) (len1 cap1 : Nat) (z1 : List Int) (w : World) (w0 : IsRow .u8 w a0 len0 cap0 z0) (w1 : IsRow .u8 w a1 len1 cap1 z1) :
    Calls Tryd.prog 4 #[.slice a0 len0 cap0, .slice a1 len1 cap1] w fun e w' => e = .returned (.bool true) ∧ Below w.heap.size w w' := by
  have m0 := rowLenR w0
  have m1 := rowLenR w1
  unfold maxLen at m0 m1
  have W0 := Lib.hid w0; have W1 := Lib.hid w1; clear w0 w1
  by_cases l0 : (len0 : Int) ≤ 1048576
  · by_cases l1 : (len1 : Int) ≤ 1048576
    · go_enter Tryd.func4, Tryd.ntmps4
      go_wp2_with fail
      refine (DrawReverse_any _ _ _ _ _ W0.out).mono ?_; rintro e w1 ⟨f, hf, rfl, hb⟩
      have HB1 := Lib.hid hb; clear hb
      have HI := Lib.hid (fun W => implReverse_any f (by omega) W)
      have HS := Lib.hid (fun W => specReverse_any f (by omega) W)
      rcases rev_is f with hn | ⟨g, hg⟩
      · rw [hn] at HI HS
        clear hn hf
        go_wp2_with fail
        refine (HI.out _).mono ?_; rintro e w2 ⟨rfl, hb⟩
        have HB2 := Lib.hid (HB1.out.trans (hb.mono HB1.out.size)); clear hb
        go_wp2_with fail
        refine (HS.out _).mono ?_; rintro e w3 ⟨rfl, hb⟩
        have HB3 := Lib.hid (HB2.out.trans (hb.mono HB2.out.size)); clear hb
        go_wp2_with fail
        go_ret
        exact ⟨rfl, HB3.out⟩
      · rw [hg.turn] at HI HS
        have hgz := hg.size
        have HBK : Hid (∀ W, Calls Tryd.prog 21 #[.string g] W fun e w' => e = .returned (.tuple #[.string f, .bool true]) ∧ Below W.heap.size W w') := fun W => by
          have := implReverse_any g (by omega) W
          rw [hg.back] at this
          exact this
        have HR1 := Lib.hid (fun W => RankOf_any f W (by omega))
        have HR2 := Lib.hid (fun W => RankOf_any g W (by omega))
        rw [hg.rank] at HR2
        have HA1 := Lib.hid (fun t (ht : t.size ≤ 9) W => implAccepts_any f t (by omega) (by omega) W)
        have HA2 := Lib.hid (fun t (ht : t.size ≤ 9) W => implAccepts_any g t (by omega) (by omega) W)
        have HACC := Lib.hid hg.acc
        generalize rankV f = R at *
        clear hg hf hgz
        go_wp2_with fail
        refine (HI.out _).mono ?_; rintro e w2 ⟨rfl, hb⟩
        have HB2 := Lib.hid (HB1.out.trans (hb.mono HB1.out.size)); clear hb
        go_wp2_with fail
        refine (HS.out _).mono ?_; rintro e w3 ⟨rfl, hb⟩
        have HB3 := Lib.hid (HB2.out.trans (hb.mono HB2.out.size)); clear hb HI HS
        go_wp2_with fail
        refine (DrawWordValid_any _ _ _ _ _ (W1.out.below HB3.out)).mono ?_; rintro e w4 ⟨t, ht, rfl, hb⟩
        have HB4 := Lib.hid (HB3.out.trans (hb.mono HB3.out.size)); clear hb HB1 HB2 HB3
        have HV := Lib.hid (fun W => implWordValid_any t W (by omega))
        obtain ⟨b, hb⟩ : ∃ b, wordB t = b := ⟨_, rfl⟩
        have HWB := Lib.hid hb
        rw [hb] at HV
        clear hb
        cases b
        · clear HA1 HA2 HACC
          go_wp2_with fail
          refine (HV.out _).mono ?_; rintro e w5 ⟨rfl, hb⟩
          have HB5 := Lib.hid (HB4.out.trans (hb.mono HB4.out.size)); clear hb
          go_wp2_with fail
          refine (HBK.out _).mono ?_; rintro e w6 ⟨rfl, hb⟩
          have HB6 := Lib.hid (HB5.out.trans (hb.mono HB5.out.size)); clear hb
          go_wp2_with fail
          refine (HR2.out _).mono ?_; rintro e w7 ⟨rfl, hb⟩
          have HB7 := Lib.hid (HB6.out.trans (hb.mono HB6.out.size)); clear hb
          go_wp2_with fail
          refine (HR1.out _).mono ?_; rintro e w8 ⟨rfl, hb⟩
          have HB8 := Lib.hid (HB7.out.trans (hb.mono HB7.out.size)); clear hb
          go_wp2_with fail
          go_ret
          exact ⟨ret_bool (by simp), HB8.out⟩
        · have hacc := HACC.out t HWB.out
          have HC1 := Lib.hid (HA1.out t ht)
          have HC2 := Lib.hid (HA2.out (revTo t t.size) (by rw [revTo_size t _ (Nat.le_refl _)]; exact ht))
          rw [hacc.1] at HC2
          rw [hacc.2] at HC1 HC2
          generalize (accW f t).1 = c at *
          have HTS := Lib.hid (fun i (h : i ≤ t.size) => revTo_size t i h)
          have HT1 : Hid (∀ i, t.extract i (i + 1) ++ revTo t i = revTo t (i + 1)) := fun i => rfl
          clear hacc HA1 HA2 HACC HWB
          go_wp2_with fail
          refine (HV.out _).mono ?_; rintro e w5 ⟨rfl, hb⟩
          have HB5 := Lib.hid (HB4.out.trans (hb.mono HB4.out.size)); clear hb
          go_wp2_with fail
          go_loop [12, 11] (fun q s => ∃ i : Nat, i ≤ t.size ∧ q = .int .i64 i ∧ ∃ r : ByteArray, s = .string r ∧ Hid (r = revTo t i)) (fun q _ => t.size - (intOf q).toNat)
          case atStart => exact ⟨0, by omega, rfl, _, rfl, rfl⟩
          case round =>
            obtain ⟨i, hi, rfl, r, rfl, HR⟩ := hrel
            have hrz : r.size = i := by rw [HR.out]; exact HTS.out i hi
            by_cases hlt : i < t.size
            · have hx : (t.extract i (i + 1)).size = 1 := ex1_size hlt
              have hsl : ∀ wx, (Instr.slice 9 (.string t) (some (.int .i64 (i : Int))) (some (.int .i64 ((i : Int) + 1))) none).run Tryd.prog wx = .ok (.string (t.extract i (i + 1))) wx := fun wx => run_slice_string wx _ t _ _ _ _ Tryd.underlying9 (by omega) (by omega) (by omega)
              have hi64 : IntKind.i64.wrap ((i : Int) + 1) = (i : Int) + 1 := IntWalk.i64_in _ (by omega)
              have HN : Hid (t.extract i (i + 1) ++ r = revTo t (i + 1)) := by show _ = _; rw [HR.out]; exact HT1.out i
              generalize t.extract i (i + 1) = x at *
              go_wp2_with fail
              go_round
              case rel => exact ⟨i + 1, by omega, by go_num, _, rfl, HN.out⟩
              case measure => simp [intOf]; omega
            · obtain rfl : i = t.size := by omega
              rw [← HR.out] at HC2
              clear hrz
              go_wp2_with fail
              refine (HC1.out _).mono ?_; rintro e w6 ⟨rfl, hb⟩
              have HB6 := Lib.hid (HB5.out.trans (hb.mono HB5.out.size)); clear hb
              go_wp2_with fail
              refine (HC2.out _).mono ?_; rintro e w7 ⟨rfl, hb⟩
              have HB7 := Lib.hid (HB6.out.trans (hb.mono HB6.out.size)); clear hb
              cases c
              all_goals
                go_wp2_with fail
                refine (HBK.out _).mono ?_; rintro e w8 ⟨rfl, hb⟩
                have HB8 := Lib.hid (HB7.out.trans (hb.mono HB7.out.size)); clear hb
                go_wp2_with fail
                refine (HR2.out _).mono ?_; rintro e w9 ⟨rfl, hb⟩
                have HB9 := Lib.hid (HB8.out.trans (hb.mono HB8.out.size)); clear hb
                go_wp2_with fail
                refine (HR1.out _).mono ?_; rintro e w10 ⟨rfl, hb⟩
                have HB10 := Lib.hid (HB9.out.trans (hb.mono HB9.out.size)); clear hb
                go_wp2_with fail
                go_ret
                exact ⟨ret_bool (by simp), HB10.out⟩
    · go_enter Tryd.func4, Tryd.ntmps4
      go_wp2_with fail
      go_ret
      exact ⟨rfl, Below.refl _ _⟩
  · go_enter Tryd.func4, Tryd.ntmps4
    go_wp2_with fail
    go_ret
    exact ⟨rfl, Below.refl _ _⟩
end Go.Proofs.YtenjojakjdaamaaDoor

/- The walk of the law FnPullBack: it returns true. Condition: the bytes are readable. -/
import Derived.Test.YtmabpmkkleelaaaDoorIV
import Derived.Test.YtmabpmkkleelaaaDoorDrawV
namespace Go.Proofs.YtmabpmkkleelaaaDoor
open Go.RowKit
set_option linter.unusedVariables false
set_option maxRecDepth 100000

theorem rowLen47 {k : IntKind} {w : World} {a : Option Addr} {len cap : Nat} {zs : List Int} (h : IsRow k w a len cap zs) : len ≤ maxLen := by
  rcases h with ⟨_, h, _⟩ | ⟨_, _, h1, h2, _⟩
  · rw [h]; decide
  · omega
theorem nat_valid47 {n : Int} {S R : ByteArray} (h : validB n S R = true) : ∃ m : Nat, n = (m : Int) := by
  have h0 := h
  unfold validB inB at h0
  simp at h0
  exact Int.eq_ofNat_of_zero_le (by omega)
theorem iv_valid {m : Nat} {S R : ByteArray} (h : validB m S R = true) (φ ψ : Fm.T) : validB m (ivS m S R φ) (ivR m S R ψ) = true := by
  obtain ⟨h1, h8, _⟩ := valid_is h
  exact valid_bits h1 h8 _ _
set_option maxHeartbeats 4000000 in
theorem fnPullBack_walk (a0 : Option Addr) (len0 cap0 : Nat) (z0 : List Int) (a1 : Option Addr) (len1 cap1 : Nat) (z1 : List Int) (w : World) (w0 : IsRow .u8 w a0 len0 cap0 z0) (w1 : IsRow .u8 w a1 len1 cap1 z1) :
    Calls Tryd.prog 3 #[.slice a0 len0 cap0, .slice a1 len1 cap1] w fun e w' => e = .returned (.bool true) ∧ Below w.heap.size w w' := by
  have m0 := rowLen47 w0
  have m1 := rowLen47 w1
  unfold maxLen at m0 m1
  have W0 := Lib.hid w0; have W1 := Lib.hid w1; clear w0 w1
  by_cases l0 : (len0 : Int) ≤ 1048576
  · by_cases l1 : (len1 : Int) ≤ 1048576
    · go_enter Tryd.func3, Tryd.ntmps3
      go_wp2_with fail
      refine (DrawPullBack_any _ _ _ _ _ W0.out).mono ?_; rintro e w1 ⟨h, f, g, hz, fz, gz, rfl, hb⟩
      have HB1 := Lib.hid hb; clear hb
      have HI := Lib.hid (fun w => implPullBack_any h f g (by omega) (by omega) (by omega) w)
      have HS := Lib.hid (fun w => specPullBack_any h f g (by omega) (by omega) (by omega) w)
      rcases pb_is h f g with hn | ⟨k, hk⟩
      · rw [hn] at HI HS
        clear hn
        go_wp2_with fail
        refine (HI.out _).mono ?_; rintro e w2 ⟨rfl, hb⟩
        have HB2 := Lib.hid (HB1.out.trans (hb.mono HB1.out.size))
        clear hb
        go_wp2_with fail
        refine (HS.out _).mono ?_; rintro e w3 ⟨rfl, hb⟩
        have HB3 := Lib.hid (HB2.out.trans (hb.mono HB2.out.size))
        clear hb
        go_wp2_with fail
        go_ret
        exact ⟨rfl, HB3.out⟩
      · rw [hk.turn] at HI HS
        have hkz := hk.size
        have HK := Lib.hid hk
        have hkv : (readB k).isSome = true := by
          obtain ⟨_, _, _, κ, _, _, _, _, _, h6⟩ := hk.parts
          rw [h6]; rfl
        have HFV := Lib.hid (fun w => implFormulaValid_any k (by omega) w)
        rw [hkv] at HFV
        have HRK := Lib.hid (fun w => RankOf_any k w (by omega))
        have HRH := Lib.hid (fun w => RankOf_any h w (by omega))
        have HRF := Lib.hid (fun w => RankOf_any f w (by omega))
        have HRG := Lib.hid (fun w => RankOf_any g w (by omega))
        have hrank := hk.rank
        obtain ⟨b1, b2⟩ := rank_bound k
        obtain ⟨b3, b4⟩ := rank_bound h
        obtain ⟨b5, b6⟩ := rank_bound f
        obtain ⟨b7, b8⟩ := rank_bound g
        generalize rankV k = rk at *
        generalize rankV h = rh at *
        generalize rankV f = rf at *
        generalize rankV g = rg at *
        have HRANK := Lib.hid hrank
        clear hk hkv hrank
        go_wp2_with fail
        refine (HI.out _).mono ?_; rintro e w2 ⟨rfl, hb⟩
        have HB2 := Lib.hid (HB1.out.trans (hb.mono HB1.out.size))
        clear hb
        go_wp2_with fail
        refine (HS.out _).mono ?_; rintro e w3 ⟨rfl, hb⟩
        have HB3 := Lib.hid (HB2.out.trans (hb.mono HB2.out.size))
        clear hb
        go_wp2_with fail
        refine (DrawCount_any _ _ _ _ _ (W1.out.below HB3.out)).mono ?_; rintro e w4 ⟨n, S, R, n0, n1, hS, hR, rfl, hb⟩
        have HB4 := Lib.hid (HB3.out.trans (hb.mono HB3.out.size)); clear hb HI HS
        have HSV := Lib.hid (fun w => implStructureValid_any n S R (by omega) (by omega) w)
        cases hv : validB n S R
        · rw [hv] at HSV
          unfold strV at HSV ⊢
          clear hv
          have hal : Below w4.heap.size w4 (w4.alloc (.cells #[.int .i64 n, .string S, .string R] 28)) := (Below.refl _ _).alloc (Nat.le_refl _) _
          have HB5 := Lib.hid (HB4.out.trans (hal.mono HB4.out.size))
          have HXa5 : Hid (SBlk (w4.alloc (.cells #[.int .i64 n, .string S, .string R] 28)) w4.heap.size n S R) := SBlk.new w4 n S R
          clear hal
          obtain ⟨ca0, ca1, ca2, fa0, fa1, fa2, ba⟩ := HXa5.out.cells
          go_wp2_with fail
          refine (HSV.out _).mono ?_; rintro e w6 ⟨rfl, hb⟩
          have HB6 := Lib.hid (HB5.out.trans (hb.mono HB5.out.size))
          have HXa6 := Lib.hid (HXa5.out.below hb HXa5.out.cells.2.2.2.2.2.2)
          clear hb
          clear ca0 ca1 ca2 fa0 fa1 fa2 ba
          go_wp2_with fail
          refine (HFV.out _).mono ?_; rintro e w7 ⟨rfl, hb⟩
          have HB7 := Lib.hid (HB6.out.trans (hb.mono HB6.out.size))
          have HXa7 := Lib.hid (HXa6.out.below hb HXa6.out.cells.2.2.2.2.2.2)
          clear hb
          go_wp2_with fail
          go_ret
          exact ⟨rfl, HB7.out⟩
        · rw [hv] at HSV
          obtain ⟨m, rfl⟩ := nat_valid47 hv
          obtain ⟨h1, h8, _⟩ := valid_is hv
          have HV := Lib.hid hv
          clear hv
          unfold strV at HSV ⊢
          have hal : Below w4.heap.size w4 (w4.alloc (.cells #[.int .i64 (m : Int), .string S, .string R] 28)) := (Below.refl _ _).alloc (Nat.le_refl _) _
          have HB5 := Lib.hid (HB4.out.trans (hal.mono HB4.out.size))
          have HXa5 : Hid (SBlk (w4.alloc (.cells #[.int .i64 (m : Int), .string S, .string R] 28)) w4.heap.size (m : Int) S R) := SBlk.new w4 (m : Int) S R
          clear hal
          obtain ⟨ca0, ca1, ca2, fa0, fa1, fa2, ba⟩ := HXa5.out.cells
          by_cases h4 : m ≤ 4
          · have h4I : (m : Int) ≤ 4 := by omega
            by_cases hr7 : rk ≤ 7
            · obtain ⟨χ, φ, ψ, κ, _, hvw, _, _, _, _⟩ := HK.out.parts
              have HIT := Lib.hid (fun w => implInterpret_yes f g (by omega) (by omega) m S R HV.out w)
              rw [ivRes_some hvw] at HIT
              have HVI := Lib.hid (iv_valid HV.out φ ψ)
              have HTRUE := Lib.hid (fun e he => HK.out.true_ hvw m S R e he)
              have HEQ : Hid (ivSt m S R φ ψ = stOf m (ivS m S R φ) (ivR m S R ψ)) := rfl
              rw [HEQ.out] at HTRUE
              clear hvw HEQ
              generalize ivS m S R φ = TS at *
              generalize ivR m S R ψ = TR at *
              have HJ := Lib.hid (fun (t : ByteArray) (ht : t.size ≤ 4000) T U hv L hl hL v w hat => gsHolds_any t (by omega) m T U hv L hl hL v w hat)
              unfold strV at HIT HJ
              go_wp2_with fail
              refine (HSV.out _).mono ?_; rintro e w6 ⟨rfl, hb⟩
              have HB6 := Lib.hid (HB5.out.trans (hb.mono HB5.out.size))
              have HXa6 := Lib.hid (HXa5.out.below hb HXa5.out.cells.2.2.2.2.2.2)
              clear hb
              clear ca0 ca1 ca2 fa0 fa1 fa2 ba
              obtain ⟨ca0, ca1, ca2, fa0, fa1, fa2, ba⟩ := HXa6.out.cells
              go_wp2_with fail
              refine (HRK.out _).mono ?_; rintro e w7 ⟨rfl, hb⟩
              have HB7 := Lib.hid (HB6.out.trans (hb.mono HB6.out.size))
              have HXa7 := Lib.hid (HXa6.out.below hb HXa6.out.cells.2.2.2.2.2.2)
              clear hb
              clear ca0 ca1 ca2 fa0 fa1 fa2 ba
              obtain ⟨ca0, ca1, ca2, fa0, fa1, fa2, ba⟩ := HXa7.out.cells
              go_wp2_with fail
              refine (HIT.out _).mono ?_; rintro e w8 ⟨rfl, hb⟩
              have HB8 := Lib.hid (HB7.out.trans (hb.mono HB7.out.size))
              have HXa8 := Lib.hid (HXa7.out.below hb HXa7.out.cells.2.2.2.2.2.2)
              clear hb
              clear ca0 ca1 ca2 fa0 fa1 fa2 ba
              have hal : Below w8.heap.size w8 (w8.alloc (.cells #[.int .i64 (m : Int), .string TS, .string TR] 28)) := (Below.refl _ _).alloc (Nat.le_refl _) _
              have HB9 := Lib.hid (HB8.out.trans (hal.mono HB8.out.size))
              have HXa9 := Lib.hid (HXa8.out.below hal HXa8.out.cells.2.2.2.2.2.2)
              have HXb9 : Hid (SBlk (w8.alloc (.cells #[.int .i64 (m : Int), .string TS, .string TR] 28)) w8.heap.size (m : Int) TS TR) := SBlk.new w8 (m : Int) TS TR
              clear hal
              go_wp2_with fail
              go_loopw [15] (fun q wr => ∃ i : Nat, i ≤ 4 ∧ q = .int .i64 (i : Int) ∧ Hid (SBlk wr w4.heap.size (m : Int) S R ∧ SBlk wr w8.heap.size (m : Int) TS TR ∧ Below w.heap.size w wr)) (fun q _ => 4 - (intOf q).toNat)
              case atStart => exact ⟨0, by omega, rfl, HXa9.out, HXb9.out, HB9.out⟩
              case round =>
                obtain ⟨i, hi, rfl, HL⟩ := hrel
                by_cases hlt : i < 4
                · have hltI : (i : Int) < 4 := by omega
                  have HR1 := Lib.hid (W1.out.below HL.out.2.2)
                  obtain ⟨ca0, ca1, ca2, _, _, _, bba⟩ := HL.out.1.cells
                  have HG := Lib.hid (gsFour_any m h1 h8 S R i (by omega) wr a1 len1 cap1 z1 HR1.out (by omega))
                  unfold strV at HG
                  go_wp2_with fail
                  refine HG.out.mono ?_; rintro e w9 ⟨v, L, rfl, hl4, hL, hnv, hb⟩
                  have HL2 : Hid (SBlk w9 w4.heap.size (m : Int) S R ∧ SBlk w9 w8.heap.size (m : Int) TS TR ∧ Below w.heap.size w w9) := ⟨HL.out.1.below hb HL.out.1.cells.2.2.2.2.2.2, HL.out.2.1.below hb HL.out.2.1.cells.2.2.2.2.2.2, HL.out.2.2.trans (hb.mono HL.out.2.2.size)⟩
                  obtain ⟨x, cap, rfl, _, _, _⟩ := hnv.view
                  have J1 := Lib.hid (fun s : Since w9 => HJ.out k hkz S R HV.out L hl4 hL _ s.w (hnv.below s.below))
                  have J2 := Lib.hid (fun s : Since w9 => HJ.out h (by omega) TS TR HVI.out L hl4 hL _ s.w (hnv.below s.below))
                  have he := HTRUE.out (envL L) (envL_lt (by omega) hL)
                  rw [he] at J1
                  rw [hl4] at J1 J2 ⊢
                  generalize (holF h (stOf m TS TR) (envL L)).1 = P at *
                  clear hb hnv hL hl4 he HG HR1 ca0 ca1 ca2 bba
                  obtain ⟨ca0, ca1, ca2, _, _, _, bba⟩ := HL2.out.1.cells
                  obtain ⟨cb0, cb1, cb2, _, _, _, bbb⟩ := HL2.out.2.1.cells
                  go_wp2_with fail
                  have f0 := fun s => Since.cell ca0 s
                  have f1 := fun s => Since.cell ca1 s
                  have f2 := fun s => Since.cell ca2 s
                  have f3 := fun s => Since.cell cb0 s
                  have f4 := fun s => Since.cell cb1 s
                  have f5 := fun s => Since.cell cb2 s
                  refine wp_region_since (by kernel_rfl) (by kernel_rfl) ?_
                  repeat (go_big_quiet_step (first | (with_reducible exact Since.call (J1.out _)) | (with_reducible exact Since.call (J2.out _))))
                  refine wpQuiet_nil ?_
                  intro w10 hb
                  have HL3 : Hid (SBlk w10 w4.heap.size (m : Int) S R ∧ SBlk w10 w8.heap.size (m : Int) TS TR ∧ Below w.heap.size w w10) := ⟨HL2.out.1.below hb HL2.out.1.cells.2.2.2.2.2.2, HL2.out.2.1.below hb HL2.out.2.1.cells.2.2.2.2.2.2, HL2.out.2.2.trans (hb.mono HL2.out.2.2.size)⟩
                  clear hb f0 f1 f2 f3 f4 f5 ca0 ca1 ca2 bba cb0 cb1 cb2 bbb
                  go_wp2_with fail
                  go_roundw
                  case rel => exact ⟨i + 1, by omega, by go_num, HL3.out⟩
                  case measure => simp [intOf]; omega
                · have hltI : ¬ (i : Int) < 4 := by omega
                  have HB20 := Lib.hid HL.out.2.2
                  by_cases hfg : rf < rg
                  · have hle : rk ≤ rh + rg := by have := HRANK.out; omega
                    have hwr : IntKind.i64.wrap (rh + rg) = rh + rg := IntWalk.i64_in _ (by omega)
                    go_wp2_with fail
                    refine (HRK.out _).mono ?_; rintro e w21 ⟨rfl, hb⟩
                    have HB21 := Lib.hid (HB20.out.trans (hb.mono HB20.out.size))
                    clear hb
                    go_wp2_with fail
                    refine (HRH.out _).mono ?_; rintro e w22 ⟨rfl, hb⟩
                    have HB22 := Lib.hid (HB21.out.trans (hb.mono HB21.out.size))
                    clear hb
                    go_wp2_with fail
                    refine (HRF.out _).mono ?_; rintro e w23 ⟨rfl, hb⟩
                    have HB23 := Lib.hid (HB22.out.trans (hb.mono HB22.out.size))
                    clear hb
                    go_wp2_with fail
                    refine (HRG.out _).mono ?_; rintro e w24 ⟨rfl, hb⟩
                    have HB24 := Lib.hid (HB23.out.trans (hb.mono HB23.out.size))
                    clear hb
                    go_wp2_with fail
                    go_ret
                    exact ⟨ret_bool (by simp; exact HRANK.out), HB24.out⟩
                  · have hle : rk ≤ rh + rf := by have := HRANK.out; omega
                    have hwr : IntKind.i64.wrap (rh + rf) = rh + rf := IntWalk.i64_in _ (by omega)
                    go_wp2_with fail
                    refine (HRK.out _).mono ?_; rintro e w21 ⟨rfl, hb⟩
                    have HB21 := Lib.hid (HB20.out.trans (hb.mono HB20.out.size))
                    clear hb
                    go_wp2_with fail
                    refine (HRH.out _).mono ?_; rintro e w22 ⟨rfl, hb⟩
                    have HB22 := Lib.hid (HB21.out.trans (hb.mono HB21.out.size))
                    clear hb
                    go_wp2_with fail
                    refine (HRF.out _).mono ?_; rintro e w23 ⟨rfl, hb⟩
                    have HB23 := Lib.hid (HB22.out.trans (hb.mono HB22.out.size))
                    clear hb
                    go_wp2_with fail
                    refine (HRG.out _).mono ?_; rintro e w24 ⟨rfl, hb⟩
                    have HB24 := Lib.hid (HB23.out.trans (hb.mono HB23.out.size))
                    clear hb
                    go_wp2_with fail
                    go_ret
                    exact ⟨ret_bool (by simp; exact HRANK.out), HB24.out⟩
            · go_wp2_with fail
              refine (HSV.out _).mono ?_; rintro e w6 ⟨rfl, hb⟩
              have HB6 := Lib.hid (HB5.out.trans (hb.mono HB5.out.size))
              have HXa6 := Lib.hid (HXa5.out.below hb HXa5.out.cells.2.2.2.2.2.2)
              clear hb
              clear ca0 ca1 ca2 fa0 fa1 fa2 ba
              obtain ⟨ca0, ca1, ca2, fa0, fa1, fa2, ba⟩ := HXa6.out.cells
              go_wp2_with fail
              refine (HRK.out _).mono ?_; rintro e w7 ⟨rfl, hb⟩
              have HB7 := Lib.hid (HB6.out.trans (hb.mono HB6.out.size))
              have HXa7 := Lib.hid (HXa6.out.below hb HXa6.out.cells.2.2.2.2.2.2)
              clear hb
              clear ca0 ca1 ca2 fa0 fa1 fa2 ba
              go_wp2_with fail
              refine (HFV.out _).mono ?_; rintro e w8 ⟨rfl, hb⟩
              have HB8 := Lib.hid (HB7.out.trans (hb.mono HB7.out.size))
              have HXa8 := Lib.hid (HXa7.out.below hb HXa7.out.cells.2.2.2.2.2.2)
              clear hb
              go_wp2_with fail
              go_ret
              exact ⟨rfl, HB8.out⟩
          · have h4I : ¬ (m : Int) ≤ 4 := by omega
            go_wp2_with fail
            refine (HSV.out _).mono ?_; rintro e w6 ⟨rfl, hb⟩
            have HB6 := Lib.hid (HB5.out.trans (hb.mono HB5.out.size))
            have HXa6 := Lib.hid (HXa5.out.below hb HXa5.out.cells.2.2.2.2.2.2)
            clear hb
            clear ca0 ca1 ca2 fa0 fa1 fa2 ba
            obtain ⟨ca0, ca1, ca2, fa0, fa1, fa2, ba⟩ := HXa6.out.cells
            go_wp2_with fail
            refine (HFV.out _).mono ?_; rintro e w7 ⟨rfl, hb⟩
            have HB7 := Lib.hid (HB6.out.trans (hb.mono HB6.out.size))
            have HXa7 := Lib.hid (HXa6.out.below hb HXa6.out.cells.2.2.2.2.2.2)
            clear hb
            clear ca0 ca1 ca2 fa0 fa1 fa2 ba
            go_wp2_with fail
            go_ret
            exact ⟨rfl, HB7.out⟩
    · go_enter Tryd.func3, Tryd.ntmps3
      go_wp2_with fail
      go_ret
      exact ⟨rfl, Below.refl _ _⟩
  · go_enter Tryd.func3, Tryd.ntmps3
    go_wp2_with fail
    go_ret
    exact ⟨rfl, Below.refl _ _⟩
end Go.Proofs.YtmabpmkkleelaaaDoor

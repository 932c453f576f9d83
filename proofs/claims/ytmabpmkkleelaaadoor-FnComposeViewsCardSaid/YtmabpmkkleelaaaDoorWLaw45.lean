/- The walk of the law FnComposeViews: it returns true. Condition: the bytes are readable. -/
import Derived.Test.YtmabpmkkleelaaaDoorCv
import Derived.Test.YtmabpmkkleelaaaDoorDrawV
namespace Go.Proofs.YtmabpmkkleelaaaDoor
open Go.RowKit
set_option linter.unusedVariables false
set_option maxRecDepth 100000

theorem rowLen45 {k : IntKind} {w : World} {a : Option Addr} {len cap : Nat} {zs : List Int} (h : IsRow k w a len cap zs) : len ≤ maxLen := by
  rcases h with ⟨_, h, _⟩ | ⟨_, _, h1, h2, _⟩
  · rw [h]; decide
  · omega
theorem nat_valid45 {n : Int} {S R : ByteArray} (h : validB n S R = true) : ∃ m : Nat, n = (m : Int) := by
  have h0 := h
  unfold validB inB at h0
  simp at h0
  exact Int.eq_ofNat_of_zero_le (by omega)
theorem iv_valid45 {m : Nat} {S R : ByteArray} (h : validB m S R = true) (φ ψ : Fm.T) : validB m (ivS m S R φ) (ivR m S R ψ) = true := by
  obtain ⟨h1, h8, _⟩ := valid_is h
  exact valid_bits h1 h8 _ _
set_option maxHeartbeats 4000000 in
theorem fnComposeViews_walk (a0 : Option Addr) (len0 cap0 : Nat) (z0 : List Int) (a1 : Option Addr) (len1 cap1 : Nat) (z1 : List Int) (w : World) (w0 : IsRow .u8 w a0 len0 cap0 z0) (w1 : IsRow .u8 w a1 len1 cap1 z1) :
    Calls Tryd.prog 12 #[.slice a0 len0 cap0, .slice a1 len1 cap1] w fun e w' => e = .returned (.bool true) ∧ Below w.heap.size w w' := by
  have m0 := rowLen45 w0
  have m1 := rowLen45 w1
  unfold maxLen at m0 m1
  have W0 := Lib.hid w0; have W1 := Lib.hid w1; clear w0 w1
  by_cases l0 : (len0 : Int) ≤ 1048576
  · by_cases l1 : (len1 : Int) ≤ 1048576
    · go_enter Tryd.func12, Tryd.ntmps12
      go_wp2_with fail
      refine (DrawCompose_any _ _ _ _ _ W0.out).mono ?_; rintro e w1 ⟨f, g, f2, g2, fz, gz, fz2, gz2, rfl, hb⟩
      have HB1 := Lib.hid hb; clear hb
      have HI := Lib.hid (fun w => implCompose_any f g f2 g2 (by omega) (by omega) (by omega) (by omega) w)
      have HS := Lib.hid (fun w => specCompose_any f g f2 g2 (by omega) (by omega) (by omega) (by omega) w)
      rcases cv_is f g f2 g2 with hn | ⟨s, t, hk⟩
      · rw [hn] at HI HS
        unfold badV at HI HS
        clear hn
        go_wp2_with fail
        refine (HI.out _).mono ?_; rintro e w2 ⟨rfl, hb⟩
        have HB2 := Lib.hid (HB1.out.trans (hb.mono HB1.out.size))
        clear hb
        go_wp2_with fail
        refine (HS.out _).mono ?_; rintro e w3 ⟨rfl, hb⟩
        have HB3 := Lib.hid (HB2.out.trans (hb.mono HB2.out.size))
        clear hb
        go_wp2_with fail
        go_ret
        exact ⟨rfl, HB3.out⟩
      · rw [hk.turn] at HI HS
        obtain ⟨sz, tz⟩ := hk.size
        have HK := Lib.hid hk
        have HRS := Lib.hid (fun w => RankOf_any s w (by omega))
        have HRT := Lib.hid (fun w => RankOf_any t w (by omega))
        obtain ⟨b1, b2⟩ := rank_bound s
        obtain ⟨b3, b4⟩ := rank_bound t
        generalize rankV s = rs at *
        generalize rankV t = rt at *
        clear hk
        go_wp2_with fail
        refine (HI.out _).mono ?_; rintro e w2 ⟨rfl, hb⟩
        have HB2 := Lib.hid (HB1.out.trans (hb.mono HB1.out.size))
        clear hb
        go_wp2_with fail
        refine (HS.out _).mono ?_; rintro e w3 ⟨rfl, hb⟩
        have HB3 := Lib.hid (HB2.out.trans (hb.mono HB2.out.size))
        clear hb
        go_wp2_with fail
        refine (DrawCount_any _ _ _ _ _ (W1.out.below HB3.out)).mono ?_; rintro e w4 ⟨n, S, R, n0, n1, hS, hR, rfl, hb⟩
        have HB4 := Lib.hid (HB3.out.trans (hb.mono HB3.out.size)); clear hb HI HS
        have HSV := Lib.hid (fun w => implStructureValid_any n S R (by omega) (by omega) w)
        cases hv : validB n S R
        · rw [hv] at HSV
          unfold strV at HSV ⊢
          clear hv
          have hal : Below w4.heap.size w4 (w4.alloc (.cells #[.int .i64 n, .string S, .string R] 28)) := (Below.refl _ _).alloc (Nat.le_refl _) _
          have HB5 := Lib.hid (HB4.out.trans (hal.mono HB4.out.size))
          have HXa5 : Hid (SBlk (w4.alloc (.cells #[.int .i64 n, .string S, .string R] 28)) w4.heap.size n S R) := SBlk.new w4 n S R
          clear hal
          obtain ⟨ca0, ca1, ca2, fa0, fa1, fa2, ba⟩ := HXa5.out.cells
          go_wp2_with fail
          refine (HSV.out _).mono ?_; rintro e w6 ⟨rfl, hb⟩
          have HB6 := Lib.hid (HB5.out.trans (hb.mono HB5.out.size))
          have HXa6 := Lib.hid (HXa5.out.below hb HXa5.out.cells.2.2.2.2.2.2)
          clear hb
          clear ca0 ca1 ca2 fa0 fa1 fa2 ba
          go_wp2_with fail
          go_ret
          exact ⟨rfl, HB6.out⟩
        · rw [hv] at HSV
          obtain ⟨m, rfl⟩ := nat_valid45 hv
          obtain ⟨h1, h8, _⟩ := valid_is hv
          have HV := Lib.hid hv
          clear hv
          unfold strV at HSV ⊢
          have hal : Below w4.heap.size w4 (w4.alloc (.cells #[.int .i64 (m : Int), .string S, .string R] 28)) := (Below.refl _ _).alloc (Nat.le_refl _) _
          have HB5 := Lib.hid (HB4.out.trans (hal.mono HB4.out.size))
          have HXa5 : Hid (SBlk (w4.alloc (.cells #[.int .i64 (m : Int), .string S, .string R] 28)) w4.heap.size (m : Int) S R) := SBlk.new w4 (m : Int) S R
          clear hal
          obtain ⟨ca0, ca1, ca2, fa0, fa1, fa2, ba⟩ := HXa5.out.cells
          by_cases h4 : m ≤ 4
          · have h4I : (m : Int) ≤ 4 := by omega
            have hwr : IntKind.i64.wrap (rs + rt) = rs + rt := IntWalk.i64_in _ (by omega)
            by_cases hr12 : rs + rt ≤ 12
            · obtain ⟨φ, ψ, χ, κ, α, β, v1, v2, u1, u2, e1, e2, v3⟩ := HK.out.parts
              have HVI := iv_valid45 HV.out φ ψ
              have HI1 := Lib.hid (fun w => implInterpret_yes f g (by omega) (by omega) m S R HV.out w)
              have HI2 := Lib.hid (fun w => implInterpret_yes f2 g2 (by omega) (by omega) m _ _ HVI w)
              have HI3 := Lib.hid (fun w => implInterpret_yes s t (by omega) (by omega) m S R HV.out w)
              have HC4 := Lib.hid (fun w => implCompose_any ⟨#[80, 97]⟩ ⟨#[69, 97, 98]⟩ f g (by decide) (by decide) (by omega) (by omega) w)
              rw [ivRes_some v1] at HI1
              rw [ivRes_some v2] at HI2
              rw [ivRes_some v3] at HI3
              rw [cv_atoms v1] at HC4
              obtain ⟨q1, q2⟩ := iv_iv (n := m) (S := S) (R := R) h1 u1 u2 e1 e2
              rw [q1, q2] at HI2
              generalize ivS m S R φ = TS at *
              generalize ivR m S R ψ = TR at *
              generalize ivS m S R α = US at *
              generalize ivR m S R β = UR at *
              clear v1 v2 u1 u2 e1 e2 v3 q1 q2 HVI
              unfold strV at HI1 HI2 HI3
              go_wp2_with fail
              refine (HSV.out _).mono ?_; rintro e w6 ⟨rfl, hb⟩
              have HB6 := Lib.hid (HB5.out.trans (hb.mono HB5.out.size))
              have HXa6 := Lib.hid (HXa5.out.below hb HXa5.out.cells.2.2.2.2.2.2)
              clear hb
              clear ca0 ca1 ca2 fa0 fa1 fa2 ba
              obtain ⟨ca0, ca1, ca2, fa0, fa1, fa2, ba⟩ := HXa6.out.cells
              go_wp2_with fail
              refine (HRS.out _).mono ?_; rintro e w7 ⟨rfl, hb⟩
              have HB7 := Lib.hid (HB6.out.trans (hb.mono HB6.out.size))
              have HXa7 := Lib.hid (HXa6.out.below hb HXa6.out.cells.2.2.2.2.2.2)
              clear hb
              clear ca0 ca1 ca2 fa0 fa1 fa2 ba
              go_wp2_with fail
              refine (HRT.out _).mono ?_; rintro e w8 ⟨rfl, hb⟩
              have HB8 := Lib.hid (HB7.out.trans (hb.mono HB7.out.size))
              have HXa8 := Lib.hid (HXa7.out.below hb HXa7.out.cells.2.2.2.2.2.2)
              clear hb
              obtain ⟨ca0, ca1, ca2, fa0, fa1, fa2, ba⟩ := HXa8.out.cells
              go_wp2_with fail
              refine (HI1.out _).mono ?_; rintro e w9 ⟨rfl, hb⟩
              have HB9 := Lib.hid (HB8.out.trans (hb.mono HB8.out.size))
              have HXa9 := Lib.hid (HXa8.out.below hb HXa8.out.cells.2.2.2.2.2.2)
              clear hb
              clear ca0 ca1 ca2 fa0 fa1 fa2 ba
              have hal : Below w9.heap.size w9 (w9.alloc (.cells #[.int .i64 (m : Int), .string TS, .string TR] 28)) := (Below.refl _ _).alloc (Nat.le_refl _) _
              have HB10 := Lib.hid (HB9.out.trans (hal.mono HB9.out.size))
              have HXa10 := Lib.hid (HXa9.out.below hal HXa9.out.cells.2.2.2.2.2.2)
              have HXb10 : Hid (SBlk (w9.alloc (.cells #[.int .i64 (m : Int), .string TS, .string TR] 28)) w9.heap.size (m : Int) TS TR) := SBlk.new w9 (m : Int) TS TR
              clear hal
              obtain ⟨cb0, cb1, cb2, fb0, fb1, fb2, bb⟩ := HXb10.out.cells
              go_wp2_with fail
              refine (HI2.out _).mono ?_; rintro e w11 ⟨rfl, hb⟩
              have HB11 := Lib.hid (HB10.out.trans (hb.mono HB10.out.size))
              have HXa11 := Lib.hid (HXa10.out.below hb HXa10.out.cells.2.2.2.2.2.2)
              have HXb11 := Lib.hid (HXb10.out.below hb HXb10.out.cells.2.2.2.2.2.2)
              clear hb
              clear cb0 cb1 cb2 fb0 fb1 fb2 bb
              have hal : Below w11.heap.size w11 (w11.alloc (.cells #[.int .i64 (m : Int), .string US, .string UR] 28)) := (Below.refl _ _).alloc (Nat.le_refl _) _
              have HB12 := Lib.hid (HB11.out.trans (hal.mono HB11.out.size))
              have HXa12 := Lib.hid (HXa11.out.below hal HXa11.out.cells.2.2.2.2.2.2)
              have HXb12 := Lib.hid (HXb11.out.below hal HXb11.out.cells.2.2.2.2.2.2)
              have HXc12 : Hid (SBlk (w11.alloc (.cells #[.int .i64 (m : Int), .string US, .string UR] 28)) w11.heap.size (m : Int) US UR) := SBlk.new w11 (m : Int) US UR
              clear hal
              obtain ⟨ca0, ca1, ca2, fa0, fa1, fa2, ba⟩ := HXa12.out.cells
              go_wp2_with fail
              refine (HI3.out _).mono ?_; rintro e w13 ⟨rfl, hb⟩
              have HB13 := Lib.hid (HB12.out.trans (hb.mono HB12.out.size))
              have HXa13 := Lib.hid (HXa12.out.below hb HXa12.out.cells.2.2.2.2.2.2)
              have HXb13 := Lib.hid (HXb12.out.below hb HXb12.out.cells.2.2.2.2.2.2)
              have HXc13 := Lib.hid (HXc12.out.below hb HXc12.out.cells.2.2.2.2.2.2)
              clear hb
              clear ca0 ca1 ca2 fa0 fa1 fa2 ba
              have hal : Below w13.heap.size w13 (w13.alloc (.cells #[.int .i64 (m : Int), .string US, .string UR] 28)) := (Below.refl _ _).alloc (Nat.le_refl _) _
              have HB14 := Lib.hid (HB13.out.trans (hal.mono HB13.out.size))
              have HXa14 := Lib.hid (HXa13.out.below hal HXa13.out.cells.2.2.2.2.2.2)
              have HXb14 := Lib.hid (HXb13.out.below hal HXb13.out.cells.2.2.2.2.2.2)
              have HXc14 := Lib.hid (HXc13.out.below hal HXc13.out.cells.2.2.2.2.2.2)
              have HXd14 : Hid (SBlk (w13.alloc (.cells #[.int .i64 (m : Int), .string US, .string UR] 28)) w13.heap.size (m : Int) US UR) := SBlk.new w13 (m : Int) US UR
              clear hal
              go_wp2_with fail
              refine (HC4.out _).mono ?_; rintro e w15 ⟨rfl, hb⟩
              have HB15 := Lib.hid (HB14.out.trans (hb.mono HB14.out.size))
              have HXa15 := Lib.hid (HXa14.out.below hb HXa14.out.cells.2.2.2.2.2.2)
              have HXb15 := Lib.hid (HXb14.out.below hb HXb14.out.cells.2.2.2.2.2.2)
              have HXc15 := Lib.hid (HXc14.out.below hb HXc14.out.cells.2.2.2.2.2.2)
              have HXd15 := Lib.hid (HXd14.out.below hb HXd14.out.cells.2.2.2.2.2.2)
              clear hb
              obtain ⟨cc0, cc1, cc2, fc0, fc1, fc2, bc⟩ := HXc15.out.cells
              obtain ⟨cd0, cd1, cd2, fd0, fd1, fd2, bd⟩ := HXd15.out.cells
              go_wp2_with fail
              go_ret
              exact ⟨ret_bool (by simp), HB15.out⟩
            · go_wp2_with fail
              refine (HSV.out _).mono ?_; rintro e w6 ⟨rfl, hb⟩
              have HB6 := Lib.hid (HB5.out.trans (hb.mono HB5.out.size))
              have HXa6 := Lib.hid (HXa5.out.below hb HXa5.out.cells.2.2.2.2.2.2)
              clear hb
              clear ca0 ca1 ca2 fa0 fa1 fa2 ba
              obtain ⟨ca0, ca1, ca2, fa0, fa1, fa2, ba⟩ := HXa6.out.cells
              go_wp2_with fail
              refine (HRS.out _).mono ?_; rintro e w7 ⟨rfl, hb⟩
              have HB7 := Lib.hid (HB6.out.trans (hb.mono HB6.out.size))
              have HXa7 := Lib.hid (HXa6.out.below hb HXa6.out.cells.2.2.2.2.2.2)
              clear hb
              clear ca0 ca1 ca2 fa0 fa1 fa2 ba
              go_wp2_with fail
              refine (HRT.out _).mono ?_; rintro e w8 ⟨rfl, hb⟩
              have HB8 := Lib.hid (HB7.out.trans (hb.mono HB7.out.size))
              have HXa8 := Lib.hid (HXa7.out.below hb HXa7.out.cells.2.2.2.2.2.2)
              clear hb
              go_wp2_with fail
              go_ret
              exact ⟨rfl, HB8.out⟩
          · have h4I : ¬ (m : Int) ≤ 4 := by omega
            go_wp2_with fail
            refine (HSV.out _).mono ?_; rintro e w6 ⟨rfl, hb⟩
            have HB6 := Lib.hid (HB5.out.trans (hb.mono HB5.out.size))
            have HXa6 := Lib.hid (HXa5.out.below hb HXa5.out.cells.2.2.2.2.2.2)
            clear hb
            clear ca0 ca1 ca2 fa0 fa1 fa2 ba
            obtain ⟨ca0, ca1, ca2, fa0, fa1, fa2, ba⟩ := HXa6.out.cells
            go_wp2_with fail
            go_ret
            exact ⟨rfl, HB6.out⟩
    · go_enter Tryd.func12, Tryd.ntmps12
      go_wp2_with fail
      go_ret
      exact ⟨rfl, Below.refl _ _⟩
  · go_enter Tryd.func12, Tryd.ntmps12
    go_wp2_with fail
    go_ret
    exact ⟨rfl, Below.refl _ _⟩
end Go.Proofs.YtmabpmkkleelaaaDoor

/- The walk of the law FnWordStructure: it returns true. Condition: the bytes are readable. -/
import Derived.Test.YtmabpmkkleelaaaDoorWdW
import Derived.Test.YtmabpmkkleelaaaDoorInEl
import Derived.Test.YtmabpmkkleelaaaDoorWordStr
import Derived.Test.YtmabpmkkleelaaaDoorRd
namespace Go.Proofs.YtmabpmkkleelaaaDoor
open Go.RowKit
set_option linter.unusedVariables false
set_option maxRecDepth 100000

theorem rowLen22 {k : IntKind} {w : World} {a : Option Addr} {len cap : Nat} {zs : List Int} (h : IsRow k w a len cap zs) : len ≤ maxLen := by
  rcases h with ⟨_, h, _⟩ | ⟨_, _, h1, h2, _⟩
  · rw [h]; decide
  · omega
theorem DrawWordStr_any (w : World) (a : Option Addr) (len cap : Nat) (zs : List Int) (h : IsRow .u8 w a len cap zs) :
    Calls Tryd.prog 45 #[.slice a len cap] w (DrawT1 w) := by
  have H := Lib.hid h; clear h
  go_enter Tryd.func45, Tryd.ntmps45
  go_wp2_with fail
  refine (l15Open_any _ _ _ _ _ H.out).mono ?_; rintro e w1 ⟨rfl, hr, hb, hs⟩
  have HR := Lib.hid hr; have HB := Lib.hid hb
  clear hr hb hs
  generalize hB : w.heap.size = B at *
  have HW := Lib.hid hB; clear hB
  go_wp2_with fail
  refine (l12Open_any _ _ _ HR.out (by omega)).mono ?_; rintro e w2 ⟨t, ht, rfl, hr, hg⟩
  have HP : Hid (DrawT1 w (.returned (.string t)) w2) := ⟨t, ht, rfl, by
    have hB := HW.out
    exact below_of_grown (by rw [hB]; exact HB.out) (by omega) hg⟩
  clear hr hg
  go_wp2_with fail
  go_ret
  exact HP.out
set_option maxHeartbeats 4000000 in
theorem fnWordStructure_walk (a0 : Option Addr) (len0 cap0 : Nat) (z0 : List Int) (w : World) (w0 : IsRow .u8 w a0 len0 cap0 z0) :
    Calls Tryd.prog 9 #[.slice a0 len0 cap0] w fun e w' => e = .returned (.bool true) ∧ Below w.heap.size w w' := by
  have m0 := rowLen22 w0
  unfold maxLen at m0
  have W0 := Lib.hid w0; clear w0
  by_cases l0 : (len0 : Int) ≤ 1048576
  · go_enter Tryd.func9, Tryd.ntmps9
    go_wp2_with fail
    refine (DrawWordStr_any _ _ _ _ _ W0.out).mono ?_; rintro e w1 ⟨s, hs, rfl, hb⟩
    have HB1 := Lib.hid hb; clear hb
    have HI := Lib.hid (fun w => implWordStructure_any s w (by omega))
    have HS := Lib.hid (fun w => specWordStructure_any s w (by omega))
    have HV := Lib.hid (fun w => implWordValid_any s w (by omega))
    cases hw : wordB s
    · have e1 : wordRes s = .tuple #[strV 0 ByteArray.empty ByteArray.empty, .bool false] := by simp [wordRes, hw]
      rw [e1] at HI HS
      rw [hw] at HV
      unfold strV at HI HS
      clear e1 hw
      go_wp2_with fail
      refine (HI.out _).mono ?_; rintro e w2 ⟨rfl, hb⟩
      have HB2 := Lib.hid (HB1.out.trans (hb.mono HB1.out.size))
      clear hb
      have hal : Below w2.heap.size w2 (w2.alloc (.cells #[.int .i64 0, .string ByteArray.empty, .string ByteArray.empty] 28)) := (Below.refl _ _).alloc (Nat.le_refl _) _
      have HB3 := Lib.hid (HB2.out.trans (hal.mono HB2.out.size))
      have HXa3 : Hid (SBlk (w2.alloc (.cells #[.int .i64 0, .string ByteArray.empty, .string ByteArray.empty] 28)) w2.heap.size 0 ByteArray.empty ByteArray.empty) := SBlk.new w2 0 ByteArray.empty ByteArray.empty
      clear hal
      go_wp2_with fail
      refine (HS.out _).mono ?_; rintro e w4 ⟨rfl, hb⟩
      have HB4 := Lib.hid (HB3.out.trans (hb.mono HB3.out.size))
      have HXa4 := Lib.hid (HXa3.out.below hb HXa3.out.cells.2.2.2.2.2.2)
      clear hb
      have hal : Below w4.heap.size w4 (w4.alloc (.cells #[.int .i64 0, .string ByteArray.empty, .string ByteArray.empty] 28)) := (Below.refl _ _).alloc (Nat.le_refl _) _
      have HB5 := Lib.hid (HB4.out.trans (hal.mono HB4.out.size))
      have HXa5 := Lib.hid (HXa4.out.below hal HXa4.out.cells.2.2.2.2.2.2)
      have HXb5 : Hid (SBlk (w4.alloc (.cells #[.int .i64 0, .string ByteArray.empty, .string ByteArray.empty] 28)) w4.heap.size 0 ByteArray.empty ByteArray.empty) := SBlk.new w4 0 ByteArray.empty ByteArray.empty
      clear hal
      obtain ⟨ca0, ca1, ca2, fa0, fa1, fa2, ba⟩ := HXa5.out.cells
      obtain ⟨cb0, cb1, cb2, fb0, fb1, fb2, bb⟩ := HXb5.out.cells
      go_wp2_with fail
      refine (HV.out _).mono ?_; rintro e w6 ⟨rfl, hb⟩
      have HB6 := Lib.hid (HB5.out.trans (hb.mono HB5.out.size))
      have HXa6 := Lib.hid (HXa5.out.below hb HXa5.out.cells.2.2.2.2.2.2)
      have HXb6 := Lib.hid (HXb5.out.below hb HXb5.out.cells.2.2.2.2.2.2)
      clear hb
      clear ca0 ca1 ca2 fa0 fa1 fa2 ba cb0 cb1 cb2 fb0 fb1 fb2 bb
      obtain ⟨ca0, ca1, ca2, fa0, fa1, fa2, ba⟩ := HXa6.out.cells
      obtain ⟨cb0, cb1, cb2, fb0, fb1, fb2, bb⟩ := HXb6.out.cells
      go_wp2_with fail
      refine (HV.out _).mono ?_; rintro e w7 ⟨rfl, hb⟩
      have HB7 := Lib.hid (HB6.out.trans (hb.mono HB6.out.size))
      have HXa7 := Lib.hid (HXa6.out.below hb HXa6.out.cells.2.2.2.2.2.2)
      have HXb7 := Lib.hid (HXb6.out.below hb HXb6.out.cells.2.2.2.2.2.2)
      clear hb
      clear ca0 ca1 ca2 fa0 fa1 fa2 ba cb0 cb1 cb2 fb0 fb1 fb2 bb
      go_wp2_with fail
      go_ret
      exact ⟨rfl, HB7.out⟩
    · have e1 : wordRes s = .tuple #[wordV s, .bool true] := by simp [wordRes, hw]
      rw [e1] at HI HS
      rw [hw] at HV
      obtain ⟨h1, h8⟩ := word_size8 hw
      have hval := valid_bits h1 h8 (letB s) ltB
      have HWO := Lib.hid (fun w => implWordOf_any (s.size : Int) (bitsOf (letB s) s.size) (gridOf ltB s.size) (by rw [bitsOf_size]; omega) (by unfold gridOf; rw [bitsOf_size]; have := Nat.mul_le_mul h8 h8; omega) w)
      have HCS := Lib.hid (fun w => CountSymmetries_any (s.size : Int) (bitsOf (letB s) s.size) (gridOf ltB s.size) (by rw [bitsOf_size]; omega) (by unfold gridOf; rw [bitsOf_size]; have := Nat.mul_le_mul h8 h8; omega) w)
      rw [word_of_word hw] at HWO
      rw [word_syms hw] at HCS
      have HIN := Lib.hid (fun x (hx : x < s.size) w => InSet_in s.size (bitsOf (letB s) s.size) (gridOf ltB s.size) x hval hx w)
      have HIR := Lib.hid (fun x y (hx : x < s.size) (hy : y < s.size) w => InRel_in s.size (bitsOf (letB s) s.size) (gridOf ltB s.size) x y hval hx hy w)
      have HE1 := Lib.hid (fun x (hx : x < s.size) => oneAt_bitsW (letB s) s.size x hx)
      have HE2 := Lib.hid (fun x y (hx : x < s.size) (hy : y < s.size) => relAt_gridW ltB s.size x y hx hy)
      have HLT := Lib.hid (fun x (hx : x < s.size) => letB_at s x hx)
      unfold wordV at HI HS
      generalize bitsOf (letB s) s.size = TB at *
      generalize gridOf ltB s.size = UB at *
      clear e1 hw hval
      unfold strV at HI HS HWO HCS HIN HIR
      unfold woV at HWO
      go_wp2_with fail
      refine (HI.out _).mono ?_; rintro e w2 ⟨rfl, hb⟩
      have HB2 := Lib.hid (HB1.out.trans (hb.mono HB1.out.size))
      clear hb
      have hal : Below w2.heap.size w2 (w2.alloc (.cells #[.int .i64 (s.size : Int), .string TB, .string UB] 28)) := (Below.refl _ _).alloc (Nat.le_refl _) _
      have HB3 := Lib.hid (HB2.out.trans (hal.mono HB2.out.size))
      have HXa3 : Hid (SBlk (w2.alloc (.cells #[.int .i64 (s.size : Int), .string TB, .string UB] 28)) w2.heap.size (s.size : Int) TB UB) := SBlk.new w2 (s.size : Int) TB UB
      clear hal
      go_wp2_with fail
      refine (HS.out _).mono ?_; rintro e w4 ⟨rfl, hb⟩
      have HB4 := Lib.hid (HB3.out.trans (hb.mono HB3.out.size))
      have HXa4 := Lib.hid (HXa3.out.below hb HXa3.out.cells.2.2.2.2.2.2)
      clear hb
      have hal : Below w4.heap.size w4 (w4.alloc (.cells #[.int .i64 (s.size : Int), .string TB, .string UB] 28)) := (Below.refl _ _).alloc (Nat.le_refl _) _
      have HB5 := Lib.hid (HB4.out.trans (hal.mono HB4.out.size))
      have HXa5 := Lib.hid (HXa4.out.below hal HXa4.out.cells.2.2.2.2.2.2)
      have HXb5 : Hid (SBlk (w4.alloc (.cells #[.int .i64 (s.size : Int), .string TB, .string UB] 28)) w4.heap.size (s.size : Int) TB UB) := SBlk.new w4 (s.size : Int) TB UB
      clear hal
      obtain ⟨ca0, ca1, ca2, fa0, fa1, fa2, ba⟩ := HXa5.out.cells
      obtain ⟨cb0, cb1, cb2, fb0, fb1, fb2, bb⟩ := HXb5.out.cells
      go_wp2_with fail
      refine (HV.out _).mono ?_; rintro e w6 ⟨rfl, hb⟩
      have HB6 := Lib.hid (HB5.out.trans (hb.mono HB5.out.size))
      have HXa6 := Lib.hid (HXa5.out.below hb HXa5.out.cells.2.2.2.2.2.2)
      have HXb6 := Lib.hid (HXb5.out.below hb HXb5.out.cells.2.2.2.2.2.2)
      clear hb
      clear ca0 ca1 ca2 fa0 fa1 fa2 ba cb0 cb1 cb2 fb0 fb1 fb2 bb
      go_wp2_with fail
      go_loopw [8] (fun q wr => ∃ i : Nat, i ≤ s.size ∧ q = .int .i64 (i : Int) ∧ Hid (SBlk wr w2.heap.size (s.size : Int) TB UB ∧ Below w.heap.size w wr)) (fun q _ => s.size - (intOf q).toNat)
      case atStart => exact ⟨0, by omega, rfl, HXa6.out, HB6.out⟩
      case round =>
        obtain ⟨i, hi, rfl, HL⟩ := hrel
        by_cases hlt : i < s.size
        · have hltI : (i : Int) < (s.size : Int) := by omega
          obtain ⟨ca0, ca1, ca2, _, _, _, bba⟩ := HL.out.1.cells
          have e1 := HLT.out i hlt
          have J1 := Lib.hid (HIN.out i hlt)
          rw [HE1.out i hlt] at J1
          generalize letB s i = bt at *
          go_wp2_with fail
          have f0 := fun s => Since.cell ca0 s
          have f1 := fun s => Since.cell ca1 s
          have f2 := fun s => Since.cell ca2 s
          refine wp_region_since (by kernel_rfl) (by kernel_rfl) ?_
          repeat (go_big_quiet_step (first | (with_reducible exact Since.call (J1.out _))))
          refine wpQuiet_nil ?_
          intro w10 hb
          have HL3 : Hid (SBlk w10 w2.heap.size (s.size : Int) TB UB ∧ Below w.heap.size w w10) := ⟨HL.out.1.below hb HL.out.1.cells.2.2.2.2.2.2, HL.out.2.trans (hb.mono HL.out.2.size)⟩
          clear hb f0 f1 f2 ca0 ca1 ca2 bba e1 J1
          go_wp2_with fail
          go_loopw [9] (fun q wr => ∃ k : Nat, k ≤ s.size ∧ q = .int .i64 (k : Int) ∧ Hid (SBlk wr w2.heap.size (s.size : Int) TB UB ∧ Below w.heap.size w wr)) (fun q _ => s.size - (intOf q).toNat)
          case atStart => exact ⟨0, by omega, rfl, HL3.out⟩
          case round =>
            obtain ⟨k, hk, rfl, HM⟩ := hrel
            by_cases hlt2 : k < s.size
            · have hlt2I : (k : Int) < (s.size : Int) := by omega
              obtain ⟨ca0, ca1, ca2, _, _, _, bba⟩ := HM.out.1.cells
              have J2 := Lib.hid (HIR.out i k hlt hlt2)
              rw [HE2.out i k hlt hlt2] at J2
              unfold ltB at J2
              by_cases hik : i < k
              · have hikI : (i : Int) < (k : Int) := by omega
                rw [decide_eq_true hik] at J2
                go_wp2_with fail
                refine (J2.out _).mono ?_; rintro e w11 ⟨rfl, hb⟩
                have HM3 : Hid (SBlk w11 w2.heap.size (s.size : Int) TB UB ∧ Below w.heap.size w w11) := ⟨HM.out.1.below hb HM.out.1.cells.2.2.2.2.2.2, HM.out.2.trans (hb.mono HM.out.2.size)⟩
                clear hb ca0 ca1 ca2 bba
                go_wp2_with fail
                go_roundw
                case rel => exact ⟨k + 1, by omega, by go_num, HM3.out⟩
                case measure => simp [intOf]; omega
              · have hikI : ¬ (i : Int) < (k : Int) := by omega
                rw [decide_eq_false hik] at J2
                go_wp2_with fail
                refine (J2.out _).mono ?_; rintro e w11 ⟨rfl, hb⟩
                have HM3 : Hid (SBlk w11 w2.heap.size (s.size : Int) TB UB ∧ Below w.heap.size w w11) := ⟨HM.out.1.below hb HM.out.1.cells.2.2.2.2.2.2, HM.out.2.trans (hb.mono HM.out.2.size)⟩
                clear hb ca0 ca1 ca2 bba
                go_wp2_with fail
                go_roundw
                case rel => exact ⟨k + 1, by omega, by go_num, HM3.out⟩
                case measure => simp [intOf]; omega
            · have hlt2I : ¬ (k : Int) < (s.size : Int) := by omega
              go_wp2_with fail
              go_roundw
              case rel => exact ⟨i + 1, by omega, by go_num, HM.out⟩
              case measure => simp [intOf]; omega
        · have hltI : ¬ (i : Int) < (s.size : Int) := by omega
          have HXa20 := Lib.hid HL.out.1
          have HB20 := Lib.hid HL.out.2
          obtain ⟨ca0, ca1, ca2, fa0, fa1, fa2, ba⟩ := HXa20.out.cells
          go_wp2_with fail
          refine (HWO.out _).mono ?_; rintro e w21 ⟨rfl, hb⟩
          have HB21 := Lib.hid (HB20.out.trans (hb.mono HB20.out.size))
          have HXa21 := Lib.hid (HXa20.out.below hb HXa20.out.cells.2.2.2.2.2.2)
          clear hb
          clear ca0 ca1 ca2 fa0 fa1 fa2 ba
          obtain ⟨ca0, ca1, ca2, fa0, fa1, fa2, ba⟩ := HXa21.out.cells
          go_wp2_with fail
          refine (HCS.out _).mono ?_; rintro e w22 ⟨rfl, hb⟩
          have HB22 := Lib.hid (HB21.out.trans (hb.mono HB21.out.size))
          have HXa22 := Lib.hid (HXa21.out.below hb HXa21.out.cells.2.2.2.2.2.2)
          clear hb
          clear ca0 ca1 ca2 fa0 fa1 fa2 ba
          go_wp2_with fail
          go_ret
          exact ⟨ret_bool (by simp), HB22.out⟩
  · go_enter Tryd.func9, Tryd.ntmps9
    go_wp2_with fail
    go_ret
    exact ⟨rfl, Below.refl _ _⟩
end Go.Proofs.YtmabpmkkleelaaaDoor

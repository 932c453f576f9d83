/- The walk of the law, and what it leans on last. Conditions: those that each theorem states. -/
import Derived.Test.YtofmagiahmmmgaaGreatDoorP53n32
import Derived.Test.YtofmagiahmmmgaaGreatDoorP53n36
import Derived.Test.YtofmagiahmmmgaaGreatDoorP53n40
import Derived.Test.YtofmagiahmmmgaaGreatDoorP53n41
namespace Go.Proofs.YtofmagiahmmmgaaGreatDoor
open Go.RowKit
set_option linter.unusedVariables false
set_option maxRecDepth 100000
theorem nat_valid53 {n : Int} {S R : ByteArray} (h : validB n S R = true) : ∃ m : Nat, n = (m : Int) := by
  have h0 := h
  unfold validB inB at h0
  simp at h0
  exact Int.eq_ofNat_of_zero_le (by omega)
theorem rowLen53 {k : IntKind} {w : World} {a : Option Addr} {len cap : Nat} {zs : List Int} (h : IsRow k w a len cap zs) : len ≤ maxLen := by
  rcases h with ⟨_, h, _⟩ | ⟨_, _, h1, h2, _⟩
  · rw [h]; decide
  · omega
def gsW53 (b : Bool) : ByteArray := truthB b ++ ⟨#[10]⟩
theorem gsW53_size (b : Bool) : (gsW53 b).size ≤ 6 := by cases b <;> decide
theorem gsWord53 (b : Bool) (w : World) : Calls Tryz.prog 14 #[.bool b] w fun e w' => e = .returned (.string (gsW53 b)) ∧ Below w.heap.size w w' := by
  cases b
  all_goals
    go_enter Tryz.func14, Tryz.ntmps14
    go_wp2_with fail
    go_ret
    exact ⟨rfl, Below.refl _ _⟩
theorem senV_form (o : Option (ByteArray × Nat)) : ∃ (f : ByteArray) (c : Nat) (told : Bool), senV o = .tuple #[.string f, .int .i64 (c : Int), .bool told] ∧ (told = true → o = some (f, c)) ∧ (told = false → o = none) := by
  cases o with
  | none => exact ⟨ByteArray.empty, 0, false, rfl, fun h => (by cases h), fun _ => rfl⟩
  | some p => exact ⟨p.1, p.2, true, rfl, fun _ => rfl, fun h => (by cases h)⟩
theorem numsE53 (W : World) (g : Nat) (h : g < W.heap.size) : NumsAt W (.slice (some ⟨g, 0, none⟩) 0 0) [] := .inr ⟨g, 0, 0, rfl, Nat.le_refl _, by decide, h, fun j hj => absurd hj (by simp)⟩
theorem itoS_no10 {k : Nat} (hk : k ≤ 3) : (10 : UInt8) ∉ (itoS (k : Int)).data.toList := by
  rw [itoS_digit (by omega)]
  rcases (by omega : k = 0 ∨ k = 1 ∨ k = 2 ∨ k = 3) with rfl | rfl | rfl | rfl <;> decide
set_option maxHeartbeats 8000000 in
theorem fnScriptGames_walk (a0 : Option Addr) (len0 cap0 : Nat) (z0 : List Int) (w : World) (w0 : IsRow .u8 w a0 len0 cap0 z0) (ht : Tab w) :
    Calls Tryz.prog 3 #[.slice a0 len0 cap0] w fun e w' => e = .returned (.bool true) ∧ Below w.heap.size w w' := by
  have m0 := rowLen53 w0
  unfold maxLen at m0
  have W0 := Lib.hid w0; have HT := Lib.hid ht; clear w0 ht
  by_cases l0 : (len0 : Int) ≤ 1048576
  · go_enter Tryz.func3, Tryz.ntmps3
    go_wp2_with fail
    refine (DrawSameRank_any _ _ _ _ _ W0.out).mono ?_; rintro e w1 ⟨n, S, R, m, T, U, K, hn, hS, hR, hm, hu, hK, rfl, hb⟩
    have HB1 := Lib.hid hb; clear hb
    have HI := Lib.hid (fun w => implSame_ints n S R (m : Int) T U K w (by omega) (by omega) (by have := (valid_is hu).2.2.1; omega) (by have := (valid_is hu).2.2.2.1; have := Nat.mul_le_mul hm hm; omega))
    have HS := Lib.hid (fun w => specSame_ints n S R (m : Int) T U K w hn ⟨by omega, by omega⟩ (by omega) (by omega) (by have := (valid_is hu).2.2.1; omega) (by have := (valid_is hu).2.2.2.1; have := Nat.mul_le_mul hm hm; omega))
    have HV := Lib.hid (fun w => implStructureValid_any n S R (by omega) (by omega) w)
    obtain ⟨Bv, hBv⟩ : ∃ b, seB n S R (m : Int) T U [] [] K = b := ⟨_, rfl⟩
    rw [hBv] at HI HS
    unfold strV at HI HS HV
    unfold strV
    cases hv : validB n S R with
    | false =>
      rw [hv] at HV
      clear hBv hS hR hn hm hu hK hv
      cases Bv
      · have hal : Below w1.heap.size w1 (w1.alloc (.cells #[.int .i64 n, .string S, .string R] 24)) := (Below.refl _ _).alloc (Nat.le_refl _) _
        have HB2 := Lib.hid (HB1.out.trans (hal.mono HB1.out.size))
        have HXa2 : Hid (SBlk (w1.alloc (.cells #[.int .i64 n, .string S, .string R] 24)) w1.heap.size n S R) := SBlk.new w1 n S R
        clear hal
        have hal : Below (w1.alloc (.cells #[.int .i64 n, .string S, .string R] 24)).heap.size (w1.alloc (.cells #[.int .i64 n, .string S, .string R] 24)) ((w1.alloc (.cells #[.int .i64 n, .string S, .string R] 24)).alloc (.cells #[.int .i64 (m : Int), .string T, .string U] 24)) := (Below.refl _ _).alloc (Nat.le_refl _) _
        have HB3 := Lib.hid (HB2.out.trans (hal.mono HB2.out.size))
        have HXa3 := Lib.hid (HXa2.out.below hal HXa2.out.cells.2.2.2.2.2.2)
        have HXb3 : Hid (SBlk ((w1.alloc (.cells #[.int .i64 n, .string S, .string R] 24)).alloc (.cells #[.int .i64 (m : Int), .string T, .string U] 24)) (w1.alloc (.cells #[.int .i64 n, .string S, .string R] 24)).heap.size (m : Int) T U) := SBlk.new (w1.alloc (.cells #[.int .i64 n, .string S, .string R] 24)) (m : Int) T U
        clear hal
        have HXb3 : Hid (SBlk ((w1.alloc (.cells #[.int .i64 n, .string S, .string R] 24)).alloc (.cells #[.int .i64 (m : Int), .string T, .string U] 24)) (w1.heap.size + 1) ((m : Int)) T U) := by
          have h := HXb3.out
          rw [World.size_alloc] at h
          exact h
        obtain ⟨ca0, ca1, ca2, fa0, fa1, fa2, ba⟩ := HXa3.out.cells
        obtain ⟨cb0, cb1, cb2, fb0, fb1, fb2, bb⟩ := HXb3.out.cells
        go_wp2_with fail
        refine (HI.out _).mono ?_; rintro e w4 ⟨rfl, hb⟩
        have HB4 := Lib.hid (HB3.out.trans (hb.mono HB3.out.size))
        have HXa4 := Lib.hid (HXa3.out.below hb HXa3.out.cells.2.2.2.2.2.2)
        have HXb4 := Lib.hid (HXb3.out.below hb HXb3.out.cells.2.2.2.2.2.2)
        clear hb
        clear ca0 ca1 ca2 fa0 fa1 fa2 ba cb0 cb1 cb2 fb0 fb1 fb2 bb
        obtain ⟨ca0, ca1, ca2, fa0, fa1, fa2, ba⟩ := HXa4.out.cells
        obtain ⟨cb0, cb1, cb2, fb0, fb1, fb2, bb⟩ := HXb4.out.cells
        go_wp2_with fail
        refine (HS.out _).mono ?_; rintro e w5 ⟨rfl, hb⟩
        have HB5 := Lib.hid (HB4.out.trans (hb.mono HB4.out.size))
        have HXa5 := Lib.hid (HXa4.out.below hb HXa4.out.cells.2.2.2.2.2.2)
        have HXb5 := Lib.hid (HXb4.out.below hb HXb4.out.cells.2.2.2.2.2.2)
        clear hb
        clear ca0 ca1 ca2 fa0 fa1 fa2 ba cb0 cb1 cb2 fb0 fb1 fb2 bb
        obtain ⟨ca0, ca1, ca2, fa0, fa1, fa2, ba⟩ := HXa5.out.cells
        obtain ⟨cb0, cb1, cb2, fb0, fb1, fb2, bb⟩ := HXb5.out.cells
        go_wp2_with fail
        refine (HV.out _).mono ?_; rintro e w6 ⟨rfl, hb⟩
        have HB6 := Lib.hid (HB5.out.trans (hb.mono HB5.out.size))
        have HXa6 := Lib.hid (HXa5.out.below hb HXa5.out.cells.2.2.2.2.2.2)
        have HXb6 := Lib.hid (HXb5.out.below hb HXb5.out.cells.2.2.2.2.2.2)
        clear hb
        clear ca0 ca1 ca2 fa0 fa1 fa2 ba cb0 cb1 cb2 fb0 fb1 fb2 bb
        obtain ⟨ca0, ca1, ca2, fa0, fa1, fa2, ba⟩ := HXa6.out.cells
        obtain ⟨cb0, cb1, cb2, fb0, fb1, fb2, bb⟩ := HXb6.out.cells
        go_wp2_with fail
        refine (HS.out _).mono ?_; rintro e w7 ⟨rfl, hb⟩
        have HB7 := Lib.hid (HB6.out.trans (hb.mono HB6.out.size))
        have HXa7 := Lib.hid (HXa6.out.below hb HXa6.out.cells.2.2.2.2.2.2)
        have HXb7 := Lib.hid (HXb6.out.below hb HXb6.out.cells.2.2.2.2.2.2)
        clear hb
        clear ca0 ca1 ca2 fa0 fa1 fa2 ba cb0 cb1 cb2 fb0 fb1 fb2 bb
        go_wp2_with fail
        go_ret
        exact ⟨ret_bool (by simp), HB7.out⟩
      · have hal : Below w1.heap.size w1 (w1.alloc (.cells #[.int .i64 n, .string S, .string R] 24)) := (Below.refl _ _).alloc (Nat.le_refl _) _
        have HB2 := Lib.hid (HB1.out.trans (hal.mono HB1.out.size))
        have HXa2 : Hid (SBlk (w1.alloc (.cells #[.int .i64 n, .string S, .string R] 24)) w1.heap.size n S R) := SBlk.new w1 n S R
        clear hal
        have hal : Below (w1.alloc (.cells #[.int .i64 n, .string S, .string R] 24)).heap.size (w1.alloc (.cells #[.int .i64 n, .string S, .string R] 24)) ((w1.alloc (.cells #[.int .i64 n, .string S, .string R] 24)).alloc (.cells #[.int .i64 (m : Int), .string T, .string U] 24)) := (Below.refl _ _).alloc (Nat.le_refl _) _
        have HB3 := Lib.hid (HB2.out.trans (hal.mono HB2.out.size))
        have HXa3 := Lib.hid (HXa2.out.below hal HXa2.out.cells.2.2.2.2.2.2)
        have HXb3 : Hid (SBlk ((w1.alloc (.cells #[.int .i64 n, .string S, .string R] 24)).alloc (.cells #[.int .i64 (m : Int), .string T, .string U] 24)) (w1.alloc (.cells #[.int .i64 n, .string S, .string R] 24)).heap.size (m : Int) T U) := SBlk.new (w1.alloc (.cells #[.int .i64 n, .string S, .string R] 24)) (m : Int) T U
        clear hal
        have HXb3 : Hid (SBlk ((w1.alloc (.cells #[.int .i64 n, .string S, .string R] 24)).alloc (.cells #[.int .i64 (m : Int), .string T, .string U] 24)) (w1.heap.size + 1) ((m : Int)) T U) := by
          have h := HXb3.out
          rw [World.size_alloc] at h
          exact h
        obtain ⟨ca0, ca1, ca2, fa0, fa1, fa2, ba⟩ := HXa3.out.cells
        obtain ⟨cb0, cb1, cb2, fb0, fb1, fb2, bb⟩ := HXb3.out.cells
        go_wp2_with fail
        refine (HI.out _).mono ?_; rintro e w4 ⟨rfl, hb⟩
        have HB4 := Lib.hid (HB3.out.trans (hb.mono HB3.out.size))
        have HXa4 := Lib.hid (HXa3.out.below hb HXa3.out.cells.2.2.2.2.2.2)
        have HXb4 := Lib.hid (HXb3.out.below hb HXb3.out.cells.2.2.2.2.2.2)
        clear hb
        clear ca0 ca1 ca2 fa0 fa1 fa2 ba cb0 cb1 cb2 fb0 fb1 fb2 bb
        obtain ⟨ca0, ca1, ca2, fa0, fa1, fa2, ba⟩ := HXa4.out.cells
        obtain ⟨cb0, cb1, cb2, fb0, fb1, fb2, bb⟩ := HXb4.out.cells
        go_wp2_with fail
        refine (HS.out _).mono ?_; rintro e w5 ⟨rfl, hb⟩
        have HB5 := Lib.hid (HB4.out.trans (hb.mono HB4.out.size))
        have HXa5 := Lib.hid (HXa4.out.below hb HXa4.out.cells.2.2.2.2.2.2)
        have HXb5 := Lib.hid (HXb4.out.below hb HXb4.out.cells.2.2.2.2.2.2)
        clear hb
        clear ca0 ca1 ca2 fa0 fa1 fa2 ba cb0 cb1 cb2 fb0 fb1 fb2 bb
        obtain ⟨ca0, ca1, ca2, fa0, fa1, fa2, ba⟩ := HXa5.out.cells
        obtain ⟨cb0, cb1, cb2, fb0, fb1, fb2, bb⟩ := HXb5.out.cells
        go_wp2_with fail
        refine (HV.out _).mono ?_; rintro e w6 ⟨rfl, hb⟩
        have HB6 := Lib.hid (HB5.out.trans (hb.mono HB5.out.size))
        have HXa6 := Lib.hid (HXa5.out.below hb HXa5.out.cells.2.2.2.2.2.2)
        have HXb6 := Lib.hid (HXb5.out.below hb HXb5.out.cells.2.2.2.2.2.2)
        clear hb
        clear ca0 ca1 ca2 fa0 fa1 fa2 ba cb0 cb1 cb2 fb0 fb1 fb2 bb
        obtain ⟨ca0, ca1, ca2, fa0, fa1, fa2, ba⟩ := HXa6.out.cells
        obtain ⟨cb0, cb1, cb2, fb0, fb1, fb2, bb⟩ := HXb6.out.cells
        go_wp2_with fail
        refine (HS.out _).mono ?_; rintro e w7 ⟨rfl, hb⟩
        have HB7 := Lib.hid (HB6.out.trans (hb.mono HB6.out.size))
        have HXa7 := Lib.hid (HXa6.out.below hb HXa6.out.cells.2.2.2.2.2.2)
        have HXb7 := Lib.hid (HXb6.out.below hb HXb6.out.cells.2.2.2.2.2.2)
        clear hb
        clear ca0 ca1 ca2 fa0 fa1 fa2 ba cb0 cb1 cb2 fb0 fb1 fb2 bb
        go_wp2_with fail
        go_ret
        exact ⟨ret_bool (by simp), HB7.out⟩
    | true =>
      rw [hv] at HV
      obtain ⟨n, rfl⟩ := nat_valid53 hv
      obtain ⟨n1, n8, _, _, _, _⟩ := valid_is hv
      have hw : IntKind.i64.wrap ((n : Int) + (m : Int)) = (n : Int) + (m : Int) := IntWalk.i64_in _ (by omega)
      by_cases hbig : (9 : Int) < (n : Int) + (m : Int)
      · clear hBv hS hR hn hu hK hv
        cases Bv
        · have hal : Below w1.heap.size w1 (w1.alloc (.cells #[.int .i64 (n : Int), .string S, .string R] 24)) := (Below.refl _ _).alloc (Nat.le_refl _) _
          have HB2 := Lib.hid (HB1.out.trans (hal.mono HB1.out.size))
          have HXa2 : Hid (SBlk (w1.alloc (.cells #[.int .i64 (n : Int), .string S, .string R] 24)) w1.heap.size (n : Int) S R) := SBlk.new w1 (n : Int) S R
          clear hal
          have hal : Below (w1.alloc (.cells #[.int .i64 (n : Int), .string S, .string R] 24)).heap.size (w1.alloc (.cells #[.int .i64 (n : Int), .string S, .string R] 24)) ((w1.alloc (.cells #[.int .i64 (n : Int), .string S, .string R] 24)).alloc (.cells #[.int .i64 (m : Int), .string T, .string U] 24)) := (Below.refl _ _).alloc (Nat.le_refl _) _
          have HB3 := Lib.hid (HB2.out.trans (hal.mono HB2.out.size))
          have HXa3 := Lib.hid (HXa2.out.below hal HXa2.out.cells.2.2.2.2.2.2)
          have HXb3 : Hid (SBlk ((w1.alloc (.cells #[.int .i64 (n : Int), .string S, .string R] 24)).alloc (.cells #[.int .i64 (m : Int), .string T, .string U] 24)) (w1.alloc (.cells #[.int .i64 (n : Int), .string S, .string R] 24)).heap.size (m : Int) T U) := SBlk.new (w1.alloc (.cells #[.int .i64 (n : Int), .string S, .string R] 24)) (m : Int) T U
          clear hal
          have HXb3 : Hid (SBlk ((w1.alloc (.cells #[.int .i64 (n : Int), .string S, .string R] 24)).alloc (.cells #[.int .i64 (m : Int), .string T, .string U] 24)) (w1.heap.size + 1) ((m : Int)) T U) := by
            have h := HXb3.out
            rw [World.size_alloc] at h
            exact h
          obtain ⟨ca0, ca1, ca2, fa0, fa1, fa2, ba⟩ := HXa3.out.cells
          obtain ⟨cb0, cb1, cb2, fb0, fb1, fb2, bb⟩ := HXb3.out.cells
          go_wp2_with fail
          refine (HI.out _).mono ?_; rintro e w4 ⟨rfl, hb⟩
          have HB4 := Lib.hid (HB3.out.trans (hb.mono HB3.out.size))
          have HXa4 := Lib.hid (HXa3.out.below hb HXa3.out.cells.2.2.2.2.2.2)
          have HXb4 := Lib.hid (HXb3.out.below hb HXb3.out.cells.2.2.2.2.2.2)
          clear hb
          clear ca0 ca1 ca2 fa0 fa1 fa2 ba cb0 cb1 cb2 fb0 fb1 fb2 bb
          obtain ⟨ca0, ca1, ca2, fa0, fa1, fa2, ba⟩ := HXa4.out.cells
          obtain ⟨cb0, cb1, cb2, fb0, fb1, fb2, bb⟩ := HXb4.out.cells
          go_wp2_with fail
          refine (HS.out _).mono ?_; rintro e w5 ⟨rfl, hb⟩
          have HB5 := Lib.hid (HB4.out.trans (hb.mono HB4.out.size))
          have HXa5 := Lib.hid (HXa4.out.below hb HXa4.out.cells.2.2.2.2.2.2)
          have HXb5 := Lib.hid (HXb4.out.below hb HXb4.out.cells.2.2.2.2.2.2)
          clear hb
          clear ca0 ca1 ca2 fa0 fa1 fa2 ba cb0 cb1 cb2 fb0 fb1 fb2 bb
          obtain ⟨ca0, ca1, ca2, fa0, fa1, fa2, ba⟩ := HXa5.out.cells
          obtain ⟨cb0, cb1, cb2, fb0, fb1, fb2, bb⟩ := HXb5.out.cells
          go_wp2_with fail
          refine (HV.out _).mono ?_; rintro e w6 ⟨rfl, hb⟩
          have HB6 := Lib.hid (HB5.out.trans (hb.mono HB5.out.size))
          have HXa6 := Lib.hid (HXa5.out.below hb HXa5.out.cells.2.2.2.2.2.2)
          have HXb6 := Lib.hid (HXb5.out.below hb HXb5.out.cells.2.2.2.2.2.2)
          clear hb
          clear ca0 ca1 ca2 fa0 fa1 fa2 ba cb0 cb1 cb2 fb0 fb1 fb2 bb
          obtain ⟨ca0, ca1, ca2, fa0, fa1, fa2, ba⟩ := HXa6.out.cells
          obtain ⟨cb0, cb1, cb2, fb0, fb1, fb2, bb⟩ := HXb6.out.cells
          go_wp2_with fail
          refine (HS.out _).mono ?_; rintro e w7 ⟨rfl, hb⟩
          have HB7 := Lib.hid (HB6.out.trans (hb.mono HB6.out.size))
          have HXa7 := Lib.hid (HXa6.out.below hb HXa6.out.cells.2.2.2.2.2.2)
          have HXb7 := Lib.hid (HXb6.out.below hb HXb6.out.cells.2.2.2.2.2.2)
          clear hb
          clear ca0 ca1 ca2 fa0 fa1 fa2 ba cb0 cb1 cb2 fb0 fb1 fb2 bb
          go_wp2_with fail
          go_ret
          exact ⟨ret_bool (by simp), HB7.out⟩
        · have hal : Below w1.heap.size w1 (w1.alloc (.cells #[.int .i64 (n : Int), .string S, .string R] 24)) := (Below.refl _ _).alloc (Nat.le_refl _) _
          have HB2 := Lib.hid (HB1.out.trans (hal.mono HB1.out.size))
          have HXa2 : Hid (SBlk (w1.alloc (.cells #[.int .i64 (n : Int), .string S, .string R] 24)) w1.heap.size (n : Int) S R) := SBlk.new w1 (n : Int) S R
          clear hal
          have hal : Below (w1.alloc (.cells #[.int .i64 (n : Int), .string S, .string R] 24)).heap.size (w1.alloc (.cells #[.int .i64 (n : Int), .string S, .string R] 24)) ((w1.alloc (.cells #[.int .i64 (n : Int), .string S, .string R] 24)).alloc (.cells #[.int .i64 (m : Int), .string T, .string U] 24)) := (Below.refl _ _).alloc (Nat.le_refl _) _
          have HB3 := Lib.hid (HB2.out.trans (hal.mono HB2.out.size))
          have HXa3 := Lib.hid (HXa2.out.below hal HXa2.out.cells.2.2.2.2.2.2)
          have HXb3 : Hid (SBlk ((w1.alloc (.cells #[.int .i64 (n : Int), .string S, .string R] 24)).alloc (.cells #[.int .i64 (m : Int), .string T, .string U] 24)) (w1.alloc (.cells #[.int .i64 (n : Int), .string S, .string R] 24)).heap.size (m : Int) T U) := SBlk.new (w1.alloc (.cells #[.int .i64 (n : Int), .string S, .string R] 24)) (m : Int) T U
          clear hal
          have HXb3 : Hid (SBlk ((w1.alloc (.cells #[.int .i64 (n : Int), .string S, .string R] 24)).alloc (.cells #[.int .i64 (m : Int), .string T, .string U] 24)) (w1.heap.size + 1) ((m : Int)) T U) := by
            have h := HXb3.out
            rw [World.size_alloc] at h
            exact h
          obtain ⟨ca0, ca1, ca2, fa0, fa1, fa2, ba⟩ := HXa3.out.cells
          obtain ⟨cb0, cb1, cb2, fb0, fb1, fb2, bb⟩ := HXb3.out.cells
          go_wp2_with fail
          refine (HI.out _).mono ?_; rintro e w4 ⟨rfl, hb⟩
          have HB4 := Lib.hid (HB3.out.trans (hb.mono HB3.out.size))
          have HXa4 := Lib.hid (HXa3.out.below hb HXa3.out.cells.2.2.2.2.2.2)
          have HXb4 := Lib.hid (HXb3.out.below hb HXb3.out.cells.2.2.2.2.2.2)
          clear hb
          clear ca0 ca1 ca2 fa0 fa1 fa2 ba cb0 cb1 cb2 fb0 fb1 fb2 bb
          obtain ⟨ca0, ca1, ca2, fa0, fa1, fa2, ba⟩ := HXa4.out.cells
          obtain ⟨cb0, cb1, cb2, fb0, fb1, fb2, bb⟩ := HXb4.out.cells
          go_wp2_with fail
          refine (HS.out _).mono ?_; rintro e w5 ⟨rfl, hb⟩
          have HB5 := Lib.hid (HB4.out.trans (hb.mono HB4.out.size))
          have HXa5 := Lib.hid (HXa4.out.below hb HXa4.out.cells.2.2.2.2.2.2)
          have HXb5 := Lib.hid (HXb4.out.below hb HXb4.out.cells.2.2.2.2.2.2)
          clear hb
          clear ca0 ca1 ca2 fa0 fa1 fa2 ba cb0 cb1 cb2 fb0 fb1 fb2 bb
          obtain ⟨ca0, ca1, ca2, fa0, fa1, fa2, ba⟩ := HXa5.out.cells
          obtain ⟨cb0, cb1, cb2, fb0, fb1, fb2, bb⟩ := HXb5.out.cells
          go_wp2_with fail
          refine (HV.out _).mono ?_; rintro e w6 ⟨rfl, hb⟩
          have HB6 := Lib.hid (HB5.out.trans (hb.mono HB5.out.size))
          have HXa6 := Lib.hid (HXa5.out.below hb HXa5.out.cells.2.2.2.2.2.2)
          have HXb6 := Lib.hid (HXb5.out.below hb HXb5.out.cells.2.2.2.2.2.2)
          clear hb
          clear ca0 ca1 ca2 fa0 fa1 fa2 ba cb0 cb1 cb2 fb0 fb1 fb2 bb
          obtain ⟨ca0, ca1, ca2, fa0, fa1, fa2, ba⟩ := HXa6.out.cells
          obtain ⟨cb0, cb1, cb2, fb0, fb1, fb2, bb⟩ := HXb6.out.cells
          go_wp2_with fail
          refine (HS.out _).mono ?_; rintro e w7 ⟨rfl, hb⟩
          have HB7 := Lib.hid (HB6.out.trans (hb.mono HB6.out.size))
          have HXa7 := Lib.hid (HXa6.out.below hb HXa6.out.cells.2.2.2.2.2.2)
          have HXb7 := Lib.hid (HXb6.out.below hb HXb6.out.cells.2.2.2.2.2.2)
          clear hb
          clear ca0 ca1 ca2 fa0 fa1 fa2 ba cb0 cb1 cb2 fb0 fb1 fb2 bb
          go_wp2_with fail
          go_ret
          exact ⟨ret_bool (by simp), HB7.out⟩
      · by_cases hk0 : K < 0
        · clear hBv hS hR hn hu hv
          cases Bv
          · have hal : Below w1.heap.size w1 (w1.alloc (.cells #[.int .i64 (n : Int), .string S, .string R] 24)) := (Below.refl _ _).alloc (Nat.le_refl _) _
            have HB2 := Lib.hid (HB1.out.trans (hal.mono HB1.out.size))
            have HXa2 : Hid (SBlk (w1.alloc (.cells #[.int .i64 (n : Int), .string S, .string R] 24)) w1.heap.size (n : Int) S R) := SBlk.new w1 (n : Int) S R
            clear hal
            have hal : Below (w1.alloc (.cells #[.int .i64 (n : Int), .string S, .string R] 24)).heap.size (w1.alloc (.cells #[.int .i64 (n : Int), .string S, .string R] 24)) ((w1.alloc (.cells #[.int .i64 (n : Int), .string S, .string R] 24)).alloc (.cells #[.int .i64 (m : Int), .string T, .string U] 24)) := (Below.refl _ _).alloc (Nat.le_refl _) _
            have HB3 := Lib.hid (HB2.out.trans (hal.mono HB2.out.size))
            have HXa3 := Lib.hid (HXa2.out.below hal HXa2.out.cells.2.2.2.2.2.2)
            have HXb3 : Hid (SBlk ((w1.alloc (.cells #[.int .i64 (n : Int), .string S, .string R] 24)).alloc (.cells #[.int .i64 (m : Int), .string T, .string U] 24)) (w1.alloc (.cells #[.int .i64 (n : Int), .string S, .string R] 24)).heap.size (m : Int) T U) := SBlk.new (w1.alloc (.cells #[.int .i64 (n : Int), .string S, .string R] 24)) (m : Int) T U
            clear hal
            have HXb3 : Hid (SBlk ((w1.alloc (.cells #[.int .i64 (n : Int), .string S, .string R] 24)).alloc (.cells #[.int .i64 (m : Int), .string T, .string U] 24)) (w1.heap.size + 1) ((m : Int)) T U) := by
              have h := HXb3.out
              rw [World.size_alloc] at h
              exact h
            obtain ⟨ca0, ca1, ca2, fa0, fa1, fa2, ba⟩ := HXa3.out.cells
            obtain ⟨cb0, cb1, cb2, fb0, fb1, fb2, bb⟩ := HXb3.out.cells
            go_wp2_with fail
            refine (HI.out _).mono ?_; rintro e w4 ⟨rfl, hb⟩
            have HB4 := Lib.hid (HB3.out.trans (hb.mono HB3.out.size))
            have HXa4 := Lib.hid (HXa3.out.below hb HXa3.out.cells.2.2.2.2.2.2)
            have HXb4 := Lib.hid (HXb3.out.below hb HXb3.out.cells.2.2.2.2.2.2)
            clear hb
            clear ca0 ca1 ca2 fa0 fa1 fa2 ba cb0 cb1 cb2 fb0 fb1 fb2 bb
            obtain ⟨ca0, ca1, ca2, fa0, fa1, fa2, ba⟩ := HXa4.out.cells
            obtain ⟨cb0, cb1, cb2, fb0, fb1, fb2, bb⟩ := HXb4.out.cells
            go_wp2_with fail
            refine (HS.out _).mono ?_; rintro e w5 ⟨rfl, hb⟩
            have HB5 := Lib.hid (HB4.out.trans (hb.mono HB4.out.size))
            have HXa5 := Lib.hid (HXa4.out.below hb HXa4.out.cells.2.2.2.2.2.2)
            have HXb5 := Lib.hid (HXb4.out.below hb HXb4.out.cells.2.2.2.2.2.2)
            clear hb
            clear ca0 ca1 ca2 fa0 fa1 fa2 ba cb0 cb1 cb2 fb0 fb1 fb2 bb
            obtain ⟨ca0, ca1, ca2, fa0, fa1, fa2, ba⟩ := HXa5.out.cells
            obtain ⟨cb0, cb1, cb2, fb0, fb1, fb2, bb⟩ := HXb5.out.cells
            go_wp2_with fail
            refine (HV.out _).mono ?_; rintro e w6 ⟨rfl, hb⟩
            have HB6 := Lib.hid (HB5.out.trans (hb.mono HB5.out.size))
            have HXa6 := Lib.hid (HXa5.out.below hb HXa5.out.cells.2.2.2.2.2.2)
            have HXb6 := Lib.hid (HXb5.out.below hb HXb5.out.cells.2.2.2.2.2.2)
            clear hb
            clear ca0 ca1 ca2 fa0 fa1 fa2 ba cb0 cb1 cb2 fb0 fb1 fb2 bb
            obtain ⟨ca0, ca1, ca2, fa0, fa1, fa2, ba⟩ := HXa6.out.cells
            obtain ⟨cb0, cb1, cb2, fb0, fb1, fb2, bb⟩ := HXb6.out.cells
            go_wp2_with fail
            refine (HS.out _).mono ?_; rintro e w7 ⟨rfl, hb⟩
            have HB7 := Lib.hid (HB6.out.trans (hb.mono HB6.out.size))
            have HXa7 := Lib.hid (HXa6.out.below hb HXa6.out.cells.2.2.2.2.2.2)
            have HXb7 := Lib.hid (HXb6.out.below hb HXb6.out.cells.2.2.2.2.2.2)
            clear hb
            clear ca0 ca1 ca2 fa0 fa1 fa2 ba cb0 cb1 cb2 fb0 fb1 fb2 bb
            go_wp2_with fail
            go_ret
            exact ⟨ret_bool (by simp), HB7.out⟩
          · have hal : Below w1.heap.size w1 (w1.alloc (.cells #[.int .i64 (n : Int), .string S, .string R] 24)) := (Below.refl _ _).alloc (Nat.le_refl _) _
            have HB2 := Lib.hid (HB1.out.trans (hal.mono HB1.out.size))
            have HXa2 : Hid (SBlk (w1.alloc (.cells #[.int .i64 (n : Int), .string S, .string R] 24)) w1.heap.size (n : Int) S R) := SBlk.new w1 (n : Int) S R
            clear hal
            have hal : Below (w1.alloc (.cells #[.int .i64 (n : Int), .string S, .string R] 24)).heap.size (w1.alloc (.cells #[.int .i64 (n : Int), .string S, .string R] 24)) ((w1.alloc (.cells #[.int .i64 (n : Int), .string S, .string R] 24)).alloc (.cells #[.int .i64 (m : Int), .string T, .string U] 24)) := (Below.refl _ _).alloc (Nat.le_refl _) _
            have HB3 := Lib.hid (HB2.out.trans (hal.mono HB2.out.size))
            have HXa3 := Lib.hid (HXa2.out.below hal HXa2.out.cells.2.2.2.2.2.2)
            have HXb3 : Hid (SBlk ((w1.alloc (.cells #[.int .i64 (n : Int), .string S, .string R] 24)).alloc (.cells #[.int .i64 (m : Int), .string T, .string U] 24)) (w1.alloc (.cells #[.int .i64 (n : Int), .string S, .string R] 24)).heap.size (m : Int) T U) := SBlk.new (w1.alloc (.cells #[.int .i64 (n : Int), .string S, .string R] 24)) (m : Int) T U
            clear hal
            have HXb3 : Hid (SBlk ((w1.alloc (.cells #[.int .i64 (n : Int), .string S, .string R] 24)).alloc (.cells #[.int .i64 (m : Int), .string T, .string U] 24)) (w1.heap.size + 1) ((m : Int)) T U) := by
              have h := HXb3.out
              rw [World.size_alloc] at h
              exact h
            obtain ⟨ca0, ca1, ca2, fa0, fa1, fa2, ba⟩ := HXa3.out.cells
            obtain ⟨cb0, cb1, cb2, fb0, fb1, fb2, bb⟩ := HXb3.out.cells
            go_wp2_with fail
            refine (HI.out _).mono ?_; rintro e w4 ⟨rfl, hb⟩
            have HB4 := Lib.hid (HB3.out.trans (hb.mono HB3.out.size))
            have HXa4 := Lib.hid (HXa3.out.below hb HXa3.out.cells.2.2.2.2.2.2)
            have HXb4 := Lib.hid (HXb3.out.below hb HXb3.out.cells.2.2.2.2.2.2)
            clear hb
            clear ca0 ca1 ca2 fa0 fa1 fa2 ba cb0 cb1 cb2 fb0 fb1 fb2 bb
            obtain ⟨ca0, ca1, ca2, fa0, fa1, fa2, ba⟩ := HXa4.out.cells
            obtain ⟨cb0, cb1, cb2, fb0, fb1, fb2, bb⟩ := HXb4.out.cells
            go_wp2_with fail
            refine (HS.out _).mono ?_; rintro e w5 ⟨rfl, hb⟩
            have HB5 := Lib.hid (HB4.out.trans (hb.mono HB4.out.size))
            have HXa5 := Lib.hid (HXa4.out.below hb HXa4.out.cells.2.2.2.2.2.2)
            have HXb5 := Lib.hid (HXb4.out.below hb HXb4.out.cells.2.2.2.2.2.2)
            clear hb
            clear ca0 ca1 ca2 fa0 fa1 fa2 ba cb0 cb1 cb2 fb0 fb1 fb2 bb
            obtain ⟨ca0, ca1, ca2, fa0, fa1, fa2, ba⟩ := HXa5.out.cells
            obtain ⟨cb0, cb1, cb2, fb0, fb1, fb2, bb⟩ := HXb5.out.cells
            go_wp2_with fail
            refine (HV.out _).mono ?_; rintro e w6 ⟨rfl, hb⟩
            have HB6 := Lib.hid (HB5.out.trans (hb.mono HB5.out.size))
            have HXa6 := Lib.hid (HXa5.out.below hb HXa5.out.cells.2.2.2.2.2.2)
            have HXb6 := Lib.hid (HXb5.out.below hb HXb5.out.cells.2.2.2.2.2.2)
            clear hb
            clear ca0 ca1 ca2 fa0 fa1 fa2 ba cb0 cb1 cb2 fb0 fb1 fb2 bb
            obtain ⟨ca0, ca1, ca2, fa0, fa1, fa2, ba⟩ := HXa6.out.cells
            obtain ⟨cb0, cb1, cb2, fb0, fb1, fb2, bb⟩ := HXb6.out.cells
            go_wp2_with fail
            refine (HS.out _).mono ?_; rintro e w7 ⟨rfl, hb⟩
            have HB7 := Lib.hid (HB6.out.trans (hb.mono HB6.out.size))
            have HXa7 := Lib.hid (HXa6.out.below hb HXa6.out.cells.2.2.2.2.2.2)
            have HXb7 := Lib.hid (HXb6.out.below hb HXb6.out.cells.2.2.2.2.2.2)
            clear hb
            clear ca0 ca1 ca2 fa0 fa1 fa2 ba cb0 cb1 cb2 fb0 fb1 fb2 bb
            go_wp2_with fail
            go_ret
            exact ⟨ret_bool (by simp), HB7.out⟩
        · by_cases hk3 : (3 : Int) < K
          · clear hBv hS hR hn hu hv
            cases Bv
            · have hal : Below w1.heap.size w1 (w1.alloc (.cells #[.int .i64 (n : Int), .string S, .string R] 24)) := (Below.refl _ _).alloc (Nat.le_refl _) _
              have HB2 := Lib.hid (HB1.out.trans (hal.mono HB1.out.size))
              have HXa2 : Hid (SBlk (w1.alloc (.cells #[.int .i64 (n : Int), .string S, .string R] 24)) w1.heap.size (n : Int) S R) := SBlk.new w1 (n : Int) S R
              clear hal
              have hal : Below (w1.alloc (.cells #[.int .i64 (n : Int), .string S, .string R] 24)).heap.size (w1.alloc (.cells #[.int .i64 (n : Int), .string S, .string R] 24)) ((w1.alloc (.cells #[.int .i64 (n : Int), .string S, .string R] 24)).alloc (.cells #[.int .i64 (m : Int), .string T, .string U] 24)) := (Below.refl _ _).alloc (Nat.le_refl _) _
              have HB3 := Lib.hid (HB2.out.trans (hal.mono HB2.out.size))
              have HXa3 := Lib.hid (HXa2.out.below hal HXa2.out.cells.2.2.2.2.2.2)
              have HXb3 : Hid (SBlk ((w1.alloc (.cells #[.int .i64 (n : Int), .string S, .string R] 24)).alloc (.cells #[.int .i64 (m : Int), .string T, .string U] 24)) (w1.alloc (.cells #[.int .i64 (n : Int), .string S, .string R] 24)).heap.size (m : Int) T U) := SBlk.new (w1.alloc (.cells #[.int .i64 (n : Int), .string S, .string R] 24)) (m : Int) T U
              clear hal
              have HXb3 : Hid (SBlk ((w1.alloc (.cells #[.int .i64 (n : Int), .string S, .string R] 24)).alloc (.cells #[.int .i64 (m : Int), .string T, .string U] 24)) (w1.heap.size + 1) ((m : Int)) T U) := by
                have h := HXb3.out
                rw [World.size_alloc] at h
                exact h
              obtain ⟨ca0, ca1, ca2, fa0, fa1, fa2, ba⟩ := HXa3.out.cells
              obtain ⟨cb0, cb1, cb2, fb0, fb1, fb2, bb⟩ := HXb3.out.cells
              go_wp2_with fail
              refine (HI.out _).mono ?_; rintro e w4 ⟨rfl, hb⟩
              have HB4 := Lib.hid (HB3.out.trans (hb.mono HB3.out.size))
              have HXa4 := Lib.hid (HXa3.out.below hb HXa3.out.cells.2.2.2.2.2.2)
              have HXb4 := Lib.hid (HXb3.out.below hb HXb3.out.cells.2.2.2.2.2.2)
              clear hb
              clear ca0 ca1 ca2 fa0 fa1 fa2 ba cb0 cb1 cb2 fb0 fb1 fb2 bb
              obtain ⟨ca0, ca1, ca2, fa0, fa1, fa2, ba⟩ := HXa4.out.cells
              obtain ⟨cb0, cb1, cb2, fb0, fb1, fb2, bb⟩ := HXb4.out.cells
              go_wp2_with fail
              refine (HS.out _).mono ?_; rintro e w5 ⟨rfl, hb⟩
              have HB5 := Lib.hid (HB4.out.trans (hb.mono HB4.out.size))
              have HXa5 := Lib.hid (HXa4.out.below hb HXa4.out.cells.2.2.2.2.2.2)
              have HXb5 := Lib.hid (HXb4.out.below hb HXb4.out.cells.2.2.2.2.2.2)
              clear hb
              clear ca0 ca1 ca2 fa0 fa1 fa2 ba cb0 cb1 cb2 fb0 fb1 fb2 bb
              obtain ⟨ca0, ca1, ca2, fa0, fa1, fa2, ba⟩ := HXa5.out.cells
              obtain ⟨cb0, cb1, cb2, fb0, fb1, fb2, bb⟩ := HXb5.out.cells
              go_wp2_with fail
              refine (HV.out _).mono ?_; rintro e w6 ⟨rfl, hb⟩
              have HB6 := Lib.hid (HB5.out.trans (hb.mono HB5.out.size))
              have HXa6 := Lib.hid (HXa5.out.below hb HXa5.out.cells.2.2.2.2.2.2)
              have HXb6 := Lib.hid (HXb5.out.below hb HXb5.out.cells.2.2.2.2.2.2)
              clear hb
              clear ca0 ca1 ca2 fa0 fa1 fa2 ba cb0 cb1 cb2 fb0 fb1 fb2 bb
              obtain ⟨ca0, ca1, ca2, fa0, fa1, fa2, ba⟩ := HXa6.out.cells
              obtain ⟨cb0, cb1, cb2, fb0, fb1, fb2, bb⟩ := HXb6.out.cells
              go_wp2_with fail
              refine (HS.out _).mono ?_; rintro e w7 ⟨rfl, hb⟩
              have HB7 := Lib.hid (HB6.out.trans (hb.mono HB6.out.size))
              have HXa7 := Lib.hid (HXa6.out.below hb HXa6.out.cells.2.2.2.2.2.2)
              have HXb7 := Lib.hid (HXb6.out.below hb HXb6.out.cells.2.2.2.2.2.2)
              clear hb
              clear ca0 ca1 ca2 fa0 fa1 fa2 ba cb0 cb1 cb2 fb0 fb1 fb2 bb
              go_wp2_with fail
              go_ret
              exact ⟨ret_bool (by simp), HB7.out⟩
            · have hal : Below w1.heap.size w1 (w1.alloc (.cells #[.int .i64 (n : Int), .string S, .string R] 24)) := (Below.refl _ _).alloc (Nat.le_refl _) _
              have HB2 := Lib.hid (HB1.out.trans (hal.mono HB1.out.size))
              have HXa2 : Hid (SBlk (w1.alloc (.cells #[.int .i64 (n : Int), .string S, .string R] 24)) w1.heap.size (n : Int) S R) := SBlk.new w1 (n : Int) S R
              clear hal
              have hal : Below (w1.alloc (.cells #[.int .i64 (n : Int), .string S, .string R] 24)).heap.size (w1.alloc (.cells #[.int .i64 (n : Int), .string S, .string R] 24)) ((w1.alloc (.cells #[.int .i64 (n : Int), .string S, .string R] 24)).alloc (.cells #[.int .i64 (m : Int), .string T, .string U] 24)) := (Below.refl _ _).alloc (Nat.le_refl _) _
              have HB3 := Lib.hid (HB2.out.trans (hal.mono HB2.out.size))
              have HXa3 := Lib.hid (HXa2.out.below hal HXa2.out.cells.2.2.2.2.2.2)
              have HXb3 : Hid (SBlk ((w1.alloc (.cells #[.int .i64 (n : Int), .string S, .string R] 24)).alloc (.cells #[.int .i64 (m : Int), .string T, .string U] 24)) (w1.alloc (.cells #[.int .i64 (n : Int), .string S, .string R] 24)).heap.size (m : Int) T U) := SBlk.new (w1.alloc (.cells #[.int .i64 (n : Int), .string S, .string R] 24)) (m : Int) T U
              clear hal
              have HXb3 : Hid (SBlk ((w1.alloc (.cells #[.int .i64 (n : Int), .string S, .string R] 24)).alloc (.cells #[.int .i64 (m : Int), .string T, .string U] 24)) (w1.heap.size + 1) ((m : Int)) T U) := by
                have h := HXb3.out
                rw [World.size_alloc] at h
                exact h
              obtain ⟨ca0, ca1, ca2, fa0, fa1, fa2, ba⟩ := HXa3.out.cells
              obtain ⟨cb0, cb1, cb2, fb0, fb1, fb2, bb⟩ := HXb3.out.cells
              go_wp2_with fail
              refine (HI.out _).mono ?_; rintro e w4 ⟨rfl, hb⟩
              have HB4 := Lib.hid (HB3.out.trans (hb.mono HB3.out.size))
              have HXa4 := Lib.hid (HXa3.out.below hb HXa3.out.cells.2.2.2.2.2.2)
              have HXb4 := Lib.hid (HXb3.out.below hb HXb3.out.cells.2.2.2.2.2.2)
              clear hb
              clear ca0 ca1 ca2 fa0 fa1 fa2 ba cb0 cb1 cb2 fb0 fb1 fb2 bb
              obtain ⟨ca0, ca1, ca2, fa0, fa1, fa2, ba⟩ := HXa4.out.cells
              obtain ⟨cb0, cb1, cb2, fb0, fb1, fb2, bb⟩ := HXb4.out.cells
              go_wp2_with fail
              refine (HS.out _).mono ?_; rintro e w5 ⟨rfl, hb⟩
              have HB5 := Lib.hid (HB4.out.trans (hb.mono HB4.out.size))
              have HXa5 := Lib.hid (HXa4.out.below hb HXa4.out.cells.2.2.2.2.2.2)
              have HXb5 := Lib.hid (HXb4.out.below hb HXb4.out.cells.2.2.2.2.2.2)
              clear hb
              clear ca0 ca1 ca2 fa0 fa1 fa2 ba cb0 cb1 cb2 fb0 fb1 fb2 bb
              obtain ⟨ca0, ca1, ca2, fa0, fa1, fa2, ba⟩ := HXa5.out.cells
              obtain ⟨cb0, cb1, cb2, fb0, fb1, fb2, bb⟩ := HXb5.out.cells
              go_wp2_with fail
              refine (HV.out _).mono ?_; rintro e w6 ⟨rfl, hb⟩
              have HB6 := Lib.hid (HB5.out.trans (hb.mono HB5.out.size))
              have HXa6 := Lib.hid (HXa5.out.below hb HXa5.out.cells.2.2.2.2.2.2)
              have HXb6 := Lib.hid (HXb5.out.below hb HXb5.out.cells.2.2.2.2.2.2)
              clear hb
              clear ca0 ca1 ca2 fa0 fa1 fa2 ba cb0 cb1 cb2 fb0 fb1 fb2 bb
              obtain ⟨ca0, ca1, ca2, fa0, fa1, fa2, ba⟩ := HXa6.out.cells
              obtain ⟨cb0, cb1, cb2, fb0, fb1, fb2, bb⟩ := HXb6.out.cells
              go_wp2_with fail
              refine (HS.out _).mono ?_; rintro e w7 ⟨rfl, hb⟩
              have HB7 := Lib.hid (HB6.out.trans (hb.mono HB6.out.size))
              have HXa7 := Lib.hid (HXa6.out.below hb HXa6.out.cells.2.2.2.2.2.2)
              have HXb7 := Lib.hid (HXb6.out.below hb HXb6.out.cells.2.2.2.2.2.2)
              clear hb
              clear ca0 ca1 ca2 fa0 fa1 fa2 ba cb0 cb1 cb2 fb0 fb1 fb2 bb
              go_wp2_with fail
              go_ret
              exact ⟨ret_bool (by simp), HB7.out⟩
          · obtain ⟨k, rfl⟩ := Int.eq_ofNat_of_zero_le (show 0 ≤ K by omega)
            have hBw : Gs.wins k (stOf n S R) [] (stOf m T U) [] = Bv := by
              rw [← hBv, seB_nil, hv, hu]
              simp [inB]
              omega
            obtain ⟨F, G, sc, won, tv, sf, gm⟩ := gm_ok n S R m T U k hv hu (by omega)
            rw [hBw] at gm
            obtain ⟨f, c, told, hsf, ht1, ht0⟩ := senV_form sf
            have hse := gm.se
            rw [hsf] at hse
            have HSE := Lib.hid hse
            have HTW := Lib.hid gm.tw
            have HWR := Lib.hid gm.wr
            have HCO := Lib.hid gm.co
            have HFA := Lib.hid gm.fa
            have HFB := Lib.hid gm.fb
            obtain ⟨zF, zG⟩ := gm.fz
            have hl1 := gm.l1
            have hl2 := gm.l2
            have hl3 := gm.l3
            have hwb := gm.wb
            obtain ⟨tb1, tb2⟩ := gm.tb
            have zK : (itoS (k : Int)).size ≤ 21 := itoS_size _ (by omega) (by omega)
            have zW : (itoS (won : Int)).size ≤ 21 := itoS_size _ (by omega) (by omega)
            have zT : (itoS tv).size ≤ 21 := itoS_size _ (by omega) (by omega)
            have hlines : (linesB (gamesLines F G (itoS (k : Int)))).size ≤ 20000 := by
              rw [linesB_size]
              simp only [gamesLines, List.map_cons, List.map_nil, List.sum_cons, List.sum_nil, ByteArray.size_append]
              show 5 + F.size + 1 + (6 + G.size + 1 + (5 + (itoS (k : Int)).size + 1 + (6 + 1 + (9 + 1 + (8 + 1 + (4 + 1 + 0)))))) ≤ 20000
              omega
            have zP : (pbAns tv).size ≤ 21 := by
              unfold pbAns
              split
              · show 4 ≤ 21; omega
              · exact zT
            have zC : told = true → f.size ≤ 4000 ∧ c = won + 1 := fun h => by
              have h2 := hl2 (f, c) (ht1 h)
              exact ⟨h2.2.1, by have : (c : Int) = (won : Int) + 1 := h2.1; omega⟩
            have zA : (tellAns sf).size ≤ 4100 := by
              cases told with
              | false => rw [ht0 rfl]; show 4 ≤ 4100; omega
              | true =>
                rw [ht1 rfl]
                have h := zC rfl
                show (itoS (c : Int) ++ ⟨#[32]⟩ ++ f).size ≤ 4100
                rw [ByteArray.size_append, ByteArray.size_append]
                have := itoS_size (c : Int) (by omega) (by omega)
                show (itoS (c : Int)).size + 1 + f.size ≤ 4100
                omega
            have zB1 := truthB_size Bv
            have zB2 := truthB_size sc
            have houts : ∀ j, (outT ((gamesAns (truthB Bv) (itoS (won : Int)) (pbAns tv) (truthB sc) (tellAns sf)).take j)).size ≤ 40000 := fun j => by
              refine Nat.le_trans (outT_take _ j) ?_
              rw [outT_size]
              simp only [gamesAns, List.map_cons, List.map_nil, List.sum_cons, List.sum_nil]
              show 2 + 1 + (2 + 1 + ((truthB Bv).size + 1 + ((itoS (won : Int)).size + 1 + ((pbAns tv).size + 1 + ((truthB sc).size + 1 + ((tellAns sf).size + 1 + 0)))))) ≤ 40000
              omega
            have HRS := Lib.hid (fun w ht => RunScript_lines (gamesLines F G (itoS (k : Int))) (gamesAns (truthB Bv) (itoS (won : Int)) (pbAns tv) (truthB sc) (tellAns sf)) (gamesLines_no _ _ _ gm.no.1 gm.no.2 (itoS_no10 (by omega))) (gamesLines_ne _ _ _) (by show 7 ≤ 99; omega) hlines houts w (gm.run w ht))
            rw [← gamesScript, ← gamesOut] at HRS
            have HNK := Lib.hid (fun v w (hv : NumsAt w v [k]) ht => implFmt_nums v [k] w hv (by simp) (by simp; omega) ht)
            have HNW := Lib.hid (fun v w (hv : NumsAt w v [won]) ht => implFmt_nums v [won] w hv (by simp) (by simp; omega) ht)
            have HNC := Lib.hid (fun (h : told = true) v w (hv : NumsAt w v [c]) ht => implFmt_nums v [c] w hv (by simp) (by simp; have := (zC h).2; omega) ht)
            have HGB := Lib.hid (fun w => gsWord53 Bv w)
            have HGS := Lib.hid (fun w => gsWord53 sc w)
            have zGB := gsW53_size Bv
            have zGS := gsW53_size sc
            have HRB : Hid (truthB Bv ++ ⟨#[10]⟩ = gsW53 Bv) := rfl
            have HRC : Hid (truthB sc ++ ⟨#[10]⟩ = gsW53 sc) := rfl
            rw [HRB.out, HRC.out] at HRS
            have HSF1 := Lib.hid ht1
            have HSF0 := Lib.hid ht0
            have HZC := Lib.hid zC
            rw [numsB_one] at HNK HNW
            simp only [numsB_one] at HNC
            clear hlines houts gm hv hu hBv hBw hS hR hn zB1 zB2 HRB HRC hse hsf ht1 ht0 zC zA zP hl2
            obtain ⟨NK, hNK⟩ : ∃ N, itoS (k : Int) = N := ⟨_, rfl⟩
            obtain ⟨NW, hNW⟩ : ∃ N, itoS (won : Int) = N := ⟨_, rfl⟩
            obtain ⟨GB, hGB⟩ : ∃ N, gsW53 Bv = N := ⟨_, rfl⟩
            obtain ⟨GS, hGS⟩ : ∃ N, gsW53 sc = N := ⟨_, rfl⟩
            rw [hNK] at HNK HRS zK
            rw [hNW] at HNW HRS zW
            rw [hGB] at HGB HRS zGB
            rw [hGS] at HGS HRS zGS
            clear hNK hNW hGB hGS
            have HL1 := Lib.hid hl1; have HL3 := Lib.hid hl3
            clear hl1 hl3
            unfold strV at HSE HTW HWR HCO HFA HFB
            have hal : Below w1.heap.size w1 (w1.alloc (.cells #[.int .i64 (n : Int), .string S, .string R] 24)) := (Below.refl _ _).alloc (Nat.le_refl _) _
            have HB2 := Lib.hid (HB1.out.trans (hal.mono HB1.out.size))
            have HXa2 : Hid (SBlk (w1.alloc (.cells #[.int .i64 (n : Int), .string S, .string R] 24)) w1.heap.size (n : Int) S R) := SBlk.new w1 (n : Int) S R
            clear hal
            have hal : Below (w1.alloc (.cells #[.int .i64 (n : Int), .string S, .string R] 24)).heap.size (w1.alloc (.cells #[.int .i64 (n : Int), .string S, .string R] 24)) ((w1.alloc (.cells #[.int .i64 (n : Int), .string S, .string R] 24)).alloc (.cells #[.int .i64 (m : Int), .string T, .string U] 24)) := (Below.refl _ _).alloc (Nat.le_refl _) _
            have HB3 := Lib.hid (HB2.out.trans (hal.mono HB2.out.size))
            have HXa3 := Lib.hid (HXa2.out.below hal HXa2.out.cells.2.2.2.2.2.2)
            have HXb3 : Hid (SBlk ((w1.alloc (.cells #[.int .i64 (n : Int), .string S, .string R] 24)).alloc (.cells #[.int .i64 (m : Int), .string T, .string U] 24)) (w1.alloc (.cells #[.int .i64 (n : Int), .string S, .string R] 24)).heap.size (m : Int) T U) := SBlk.new (w1.alloc (.cells #[.int .i64 (n : Int), .string S, .string R] 24)) (m : Int) T U
            clear hal
            have HXb3 : Hid (SBlk ((w1.alloc (.cells #[.int .i64 (n : Int), .string S, .string R] 24)).alloc (.cells #[.int .i64 (m : Int), .string T, .string U] 24)) (w1.heap.size + 1) ((m : Int)) T U) := by
              have h := HXb3.out
              rw [World.size_alloc] at h
              exact h
            obtain ⟨ca0, ca1, ca2, fa0, fa1, fa2, ba⟩ := HXa3.out.cells
            obtain ⟨cb0, cb1, cb2, fb0, fb1, fb2, bb⟩ := HXb3.out.cells
            go_wp2_with fail
            refine (HI.out _).mono ?_; rintro e w4 ⟨rfl, hb⟩
            have HB4 := Lib.hid (HB3.out.trans (hb.mono HB3.out.size))
            have HXa4 := Lib.hid (HXa3.out.below hb HXa3.out.cells.2.2.2.2.2.2)
            have HXb4 := Lib.hid (HXb3.out.below hb HXb3.out.cells.2.2.2.2.2.2)
            clear hb
            clear ca0 ca1 ca2 fa0 fa1 fa2 ba cb0 cb1 cb2 fb0 fb1 fb2 bb
            obtain ⟨ca0, ca1, ca2, fa0, fa1, fa2, ba⟩ := HXa4.out.cells
            obtain ⟨cb0, cb1, cb2, fb0, fb1, fb2, bb⟩ := HXb4.out.cells
            go_wp2_with fail
            refine (HS.out _).mono ?_; rintro e w5 ⟨rfl, hb⟩
            have HB5 := Lib.hid (HB4.out.trans (hb.mono HB4.out.size))
            have HXa5 := Lib.hid (HXa4.out.below hb HXa4.out.cells.2.2.2.2.2.2)
            have HXb5 := Lib.hid (HXb4.out.below hb HXb4.out.cells.2.2.2.2.2.2)
            clear hb
            clear ca0 ca1 ca2 fa0 fa1 fa2 ba cb0 cb1 cb2 fb0 fb1 fb2 bb
            obtain ⟨ca0, ca1, ca2, fa0, fa1, fa2, ba⟩ := HXa5.out.cells
            obtain ⟨cb0, cb1, cb2, fb0, fb1, fb2, bb⟩ := HXb5.out.cells
            have hBB : (!Bv == Bv) = false := by cases Bv <;> rfl
            have hBB2 : (Bv != Bv) = false := by cases Bv <;> rfl
            go_wp2_with fail
            refine (HV.out _).mono ?_; rintro e w6 ⟨rfl, hb⟩
            have HB6 := Lib.hid (HB5.out.trans (hb.mono HB5.out.size))
            have HXa6 := Lib.hid (HXa5.out.below hb HXa5.out.cells.2.2.2.2.2.2)
            have HXb6 := Lib.hid (HXb5.out.below hb HXb5.out.cells.2.2.2.2.2.2)
            clear hb
            clear ca0 ca1 ca2 fa0 fa1 fa2 ba cb0 cb1 cb2 fb0 fb1 fb2 bb
            obtain ⟨ca0, ca1, ca2, fa0, fa1, fa2, ba⟩ := HXa6.out.cells
            obtain ⟨cb0, cb1, cb2, fb0, fb1, fb2, bb⟩ := HXb6.out.cells
            go_wp2_with fail
            refine (HSE.out _).mono ?_; rintro e w7 ⟨rfl, hb⟩
            have HB7 := Lib.hid (HB6.out.trans (hb.mono HB6.out.size))
            have HXa7 := Lib.hid (HXa6.out.below hb HXa6.out.cells.2.2.2.2.2.2)
            have HXb7 := Lib.hid (HXb6.out.below hb HXb6.out.cells.2.2.2.2.2.2)
            clear hb
            clear ca0 ca1 ca2 fa0 fa1 fa2 ba cb0 cb1 cb2 fb0 fb1 fb2 bb
            obtain ⟨ca0, ca1, ca2, fa0, fa1, fa2, ba⟩ := HXa7.out.cells
            obtain ⟨cb0, cb1, cb2, fb0, fb1, fb2, bb⟩ := HXb7.out.cells
            go_wp2_with fail
            refine (HTW.out _).mono ?_; rintro e w8 ⟨rfl, hb⟩
            have HB8 := Lib.hid (HB7.out.trans (hb.mono HB7.out.size))
            have HXa8 := Lib.hid (HXa7.out.below hb HXa7.out.cells.2.2.2.2.2.2)
            have HXb8 := Lib.hid (HXb7.out.below hb HXb7.out.cells.2.2.2.2.2.2)
            clear hb
            clear ca0 ca1 ca2 fa0 fa1 fa2 ba cb0 cb1 cb2 fb0 fb1 fb2 bb
            obtain ⟨ca0, ca1, ca2, fa0, fa1, fa2, ba⟩ := HXa8.out.cells
            obtain ⟨cb0, cb1, cb2, fb0, fb1, fb2, bb⟩ := HXb8.out.cells
            go_wp2_with fail
            have hal : Below w8.heap.size w8 ((w8.alloc (.cells #[] 3)).alloc (.cells #[] 3)) := (((Below.refl _ _).alloc (Nat.le_refl _) _).alloc (by simp) _)
            have HB9 := Lib.hid (HB8.out.trans (hal.mono HB8.out.size))
            have HXa9 := Lib.hid (HXa8.out.below hal HXa8.out.cells.2.2.2.2.2.2)
            have HXb9 := Lib.hid (HXb8.out.below hal HXb8.out.cells.2.2.2.2.2.2)
            clear hal
            clear ca0 ca1 ca2 fa0 fa1 fa2 ba cb0 cb1 cb2 fb0 fb1 fb2 bb
            refine (HWR.out _ _ _ (numsE53 _ _ (by simp <;> omega)) (numsE53 _ _ (by simp <;> omega))).mono ?_; rintro e w10 ⟨rfl, hb⟩
            have HB10 := Lib.hid (HB9.out.trans (hb.mono HB9.out.size))
            have HXa10 := Lib.hid (HXa9.out.below hb HXa9.out.cells.2.2.2.2.2.2)
            have HXb10 := Lib.hid (HXb9.out.below hb HXb9.out.cells.2.2.2.2.2.2)
            clear hb
            obtain ⟨ca0, ca1, ca2, fa0, fa1, fa2, ba⟩ := HXa10.out.cells
            obtain ⟨cb0, cb1, cb2, fb0, fb1, fb2, bb⟩ := HXb10.out.cells
            go_wp2_with fail
            refine (HCO.out _).mono ?_; rintro e w11 ⟨rfl, hb⟩
            have HB11 := Lib.hid (HB10.out.trans (hb.mono HB10.out.size))
            have HXa11 := Lib.hid (HXa10.out.below hb HXa10.out.cells.2.2.2.2.2.2)
            have HXb11 := Lib.hid (HXb10.out.below hb HXb10.out.cells.2.2.2.2.2.2)
            clear hb
            clear ca0 ca1 ca2 fa0 fa1 fa2 ba cb0 cb1 cb2 fb0 fb1 fb2 bb
            obtain ⟨ca0, ca1, ca2, fa0, fa1, fa2, ba⟩ := HXa11.out.cells
            obtain ⟨cb0, cb1, cb2, fb0, fb1, fb2, bb⟩ := HXb11.out.cells
            go_upto_region 11 with fail
            clear ca0 ca1 ca2 fa0 fa1 fa2 ba cb0 cb1 cb2 fb0 fb1 fb2 bb
            have ht1 : ((⟨#[108, 101, 102, 116, 32]⟩ : ByteArray) ++ F : ByteArray).size ≤ 20000 := by
              simp only [ByteArray.size_append]
              show 5 + F.size ≤ 20000
              omega
            have ht2 : ((⟨#[108, 101, 102, 116, 32]⟩ : ByteArray) ++ F ++ ⟨#[10, 114, 105, 103, 104, 116, 32]⟩ : ByteArray).size ≤ 20000 := by
              simp only [ByteArray.size_append]
              show 5 + F.size + 7 ≤ 20000
              omega
            have ht3 : ((⟨#[108, 101, 102, 116, 32]⟩ : ByteArray) ++ F ++ ⟨#[10, 114, 105, 103, 104, 116, 32]⟩ ++ G : ByteArray).size ≤ 20000 := by
              simp only [ByteArray.size_append]
              show 5 + F.size + 7 + G.size ≤ 20000
              omega
            have ht4 : ((⟨#[108, 101, 102, 116, 32]⟩ : ByteArray) ++ F ++ ⟨#[10, 114, 105, 103, 104, 116, 32]⟩ ++ G ++ ⟨#[10, 115, 97, 109, 101, 32]⟩ : ByteArray).size ≤ 20000 := by
              simp only [ByteArray.size_append]
              show 5 + F.size + 7 + G.size + 6 ≤ 20000
              omega
            have ht5 : ((⟨#[108, 101, 102, 116, 32]⟩ : ByteArray) ++ F ++ ⟨#[10, 114, 105, 103, 104, 116, 32]⟩ ++ G ++ ⟨#[10, 115, 97, 109, 101, 32]⟩ ++ NK : ByteArray).size ≤ 20000 := by
              simp only [ByteArray.size_append]
              show 5 + F.size + 7 + G.size + 6 + NK.size ≤ 20000
              omega
            have ht6 : ((⟨#[108, 101, 102, 116, 32]⟩ : ByteArray) ++ F ++ ⟨#[10, 114, 105, 103, 104, 116, 32]⟩ ++ G ++ ⟨#[10, 115, 97, 109, 101, 32]⟩ ++ NK ++ ⟨#[10, 114, 111, 117, 110, 100, 115, 10, 112, 101, 98, 98, 108, 101, 115, 32, 50, 10, 99, 111, 108, 111, 117, 114, 101, 100, 10, 116, 101, 108, 108, 10]⟩ : ByteArray).size ≤ 20000 := by
              simp only [ByteArray.size_append]
              show 5 + F.size + 7 + G.size + 6 + NK.size + 32 ≤ 20000
              omega
            have HCELL : Hid (∀ W', Below w11.heap.size w11 W' → SBlk W' w1.heap.size (n : Int) S R ∧ SBlk W' (w1.heap.size + 1) (m : Int) T U) := fun W' hb => ⟨HXa11.out.below hb HXa11.out.cells.2.2.2.2.2.2, HXb11.out.below hb HXb11.out.cells.2.2.2.2.2.2⟩
            have HTB : Hid (∀ W', Below w11.heap.size w11 W' → Tab W') := fun W' hb => HT.out.below (HB11.out.trans (hb.mono HB11.out.size)) (Nat.le_refl _)
            have HCUR : Hid (Below w11.heap.size w11 w11) := Below.refl _ _
            refine wp_region_U (by kernel_rfl) ?_
            refine wpU_seg 14 5 0 9 rfl (by decide) (by kernel_rfl) (fun c a d v w h => by cases d <;> exact h) (by kernel_rfl) ?_
            intro w7 hw7 K7 hK
            have HB7 := Lib.hid (HCUR.out.trans (hw7.below.mono HCUR.out.size))
            simp only [List.take_succ_cons, List.take_zero, List.drop_zero]
            obtain ⟨sa0, sa1, sa2, _, _, _, _⟩ := (HCELL.out _ HB7.out).1.cells
            have Aa0 := fun s' => Since.cell sa0 s'
            have Aa1 := fun s' => Since.cell sa1 s'
            have Aa2 := fun s' => Since.cell sa2 s'
            obtain ⟨sb0, sb1, sb2, _, _, _, _⟩ := (HCELL.out _ HB7.out).2.cells
            have Ab0 := fun s' => Since.cell sb0 s'
            have Ab1 := fun s' => Since.cell sb1 s'
            have Ab2 := fun s' => Since.cell sb2 s'
            have JA := Lib.hid (fun s' : Since w7 => HFA.out s'.w)
            have JB := Lib.hid (fun s' : Since w7 => HFB.out s'.w)
            repeat (go_big_quiet_step (first | (with_reducible exact Aa0 _) | (with_reducible exact Aa1 _) | (with_reducible exact Aa2 _) | (with_reducible exact Ab0 _) | (with_reducible exact Ab1 _) | (with_reducible exact Ab2 _) | (with_reducible exact Since.call (JA.out _)) | (with_reducible exact Since.call (JB.out _))))
            refine wpQuiet_nil ?_
            refine hK _ ?_
            clear hK K7 hw7 HB7 sa0 Aa0 sa1 Aa1 sa2 Aa2 sb0 Ab0 sb1 Ab1 sb2 Ab2 JA JB
            refine wpU_at 5 4 9 rfl (by kernel_rfl) ?_
            intro w8 hw8
            have HB8 := Lib.hid (HCUR.out.trans (hw8.below.mono HCUR.out.size))
            simp only [List.drop_succ_cons, List.drop_zero]
            refine ⟨by kernel_rfl, ?_⟩
            have HNA : Hid (∀ W', Below (w8.alloc (.cells #[.int .i64 (k : Int)] 3)).heap.size (w8.alloc (.cells #[.int .i64 (k : Int)] 3)) W' → NumsAt W' (.slice (some ⟨w8.heap.size, 0, none⟩) 1 1) [k]) := fun W' hb => (NumsAt.one w8 k).below hb
            refine wp_value (v := .slice (some ⟨w8.heap.size, 0, none⟩) 1 1) (w2 := (w8.alloc (.cells #[.int .i64 (k : Int)] 3))) (by kernel_rfl) ?_
            refine ⟨RS.of ((Below.refl _ _).alloc (Nat.le_refl _) _), ?_⟩
            clear hw8
            simp only [Act.put, List.setIfInBounds_toArray, List.set_cons_zero, List.set_cons_succ]
            replace HCUR : Hid (Below w11.heap.size w11 (w8.alloc (.cells #[.int .i64 (k : Int)] 3))) := HB8.out.alloc HB8.out.size _
            clear HB8
            generalize hx8 : w8.heap.size = x8 at *
            generalize (w8.alloc (.cells #[.int .i64 (k : Int)] 3)) = w9 at *
            clear hx8
            refine wpU_seg 4 0 10 4 rfl (by decide) (by kernel_rfl) (fun c a d v w h => by cases d <;> exact h) (by kernel_rfl) ?_
            intro w7 hw7 K7 hK
            have HB7 := Lib.hid (HCUR.out.trans (hw7.below.mono HCUR.out.size))
            simp only [List.take_succ_cons, List.take_zero, List.drop_succ_cons, List.drop_zero]
            have JN := Lib.hid (fun s' : Since w7 => HNK.out _ s'.w (HNA.out _ (hw7.below.trans (s'.below.mono hw7.below.size))) (HTB.out _ (HB7.out.trans (s'.below.mono HB7.out.size))))
            repeat (go_big_quiet_step (first | (with_reducible exact Since.call (JN.out _))))
            refine wpQuiet_nil ?_
            refine hK _ ?_
            clear hK K7 hw7 HB7 JN
            refine ⟨by kernel_rfl, fun w10 hw10 => ?_⟩
            have hb10 := HCUR.out.trans (hw10.below.mono HCUR.out.size)
            have HB12 := Lib.hid (HB11.out.trans (hb10.mono HB11.out.size))
            clear hw10 hb10 HCUR HCELL HTB HNA ht1 ht2 ht3 ht4 ht5 ht6
            have hl1 : ((⟨#[111, 107, 10, 111, 107, 10]⟩ : ByteArray) ++ GB : ByteArray).size ≤ 20000 := by
              simp only [ByteArray.size_append]
              show 6 + GB.size ≤ 20000
              omega
            have hl2 : ((⟨#[111, 107, 10, 111, 107, 10]⟩ : ByteArray) ++ GB ++ NW : ByteArray).size ≤ 20000 := by
              simp only [ByteArray.size_append]
              show 6 + GB.size + NW.size ≤ 20000
              omega
            have hl3 : ((⟨#[111, 107, 10, 111, 107, 10]⟩ : ByteArray) ++ GB ++ NW ++ ⟨#[10]⟩ : ByteArray).size ≤ 20000 := by
              simp only [ByteArray.size_append]
              show 6 + GB.size + NW.size + 1 ≤ 20000
              omega
            go_wp2_with fail
            refine (HGB.out _).mono ?_; rintro e w13 ⟨rfl, hb⟩
            have HB13 := Lib.hid (HB12.out.trans (hb.mono HB12.out.size))
            clear hb
            go_wp2_with fail
            have hal : Below w13.heap.size w13 (w13.alloc (.cells #[.int .i64 (won : Int)] 3)) := ((Below.refl _ _).alloc (Nat.le_refl _) _)
            have HB14 := Lib.hid (HB13.out.trans (hal.mono HB13.out.size))
            clear hal
            refine (HNW.out _ _ (NumsAt.one _ won) (HT.out.below HB14.out (Nat.le_refl _))).mono ?_; rintro e w15 ⟨rfl, hb⟩
            have HB15 := Lib.hid (HB14.out.trans (hb.mono HB14.out.size))
            clear hb
            by_cases htv : tv < 0
            · have htvB : decide (tv < 0) = true := decide_eq_true htv
              have hpb : pbAns tv = ⟨#[110, 111, 110, 101]⟩ := if_pos htv
              rw [hpb] at HRS
              clear hpb
              have hz4 : ((⟨#[111, 107, 10, 111, 107, 10]⟩ : ByteArray) ++ GB ++ NW ++ ⟨#[10]⟩ ++ ⟨#[110, 111, 110, 101, 10]⟩ : ByteArray).size ≤ 20000 := by
                simp only [ByteArray.size_append]
                show 6 + GB.size + NW.size + 1 + 5 ≤ 20000
                omega
              have hz5 : ((⟨#[111, 107, 10, 111, 107, 10]⟩ : ByteArray) ++ GB ++ NW ++ ⟨#[10]⟩ ++ ⟨#[110, 111, 110, 101, 10]⟩ ++ GS : ByteArray).size ≤ 20000 := by
                simp only [ByteArray.size_append]
                show 6 + GB.size + NW.size + 1 + 5 + GS.size ≤ 20000
                omega
              go_wp2_with fail
              refine (HGS.out _).mono ?_; rintro e w16 ⟨rfl, hb⟩
              have HB16 := Lib.hid (HB15.out.trans (hb.mono HB15.out.size))
              clear hb
              cases told
              · rw [HSF0.out rfl] at HRS
                have HLA : Hid (tellAns none = ⟨#[110, 111, 110, 101]⟩) := rfl
                rw [HLA.out] at HRS
                clear HLA
                have hy6 : ((⟨#[111, 107, 10, 111, 107, 10]⟩ : ByteArray) ++ GB ++ NW ++ ⟨#[10]⟩ ++ ⟨#[110, 111, 110, 101, 10]⟩ ++ GS ++ ⟨#[110, 111, 110, 101, 10]⟩ : ByteArray).size ≤ 20000 := by
                  simp only [ByteArray.size_append]
                  show 6 + GB.size + NW.size + 1 + 5 + GS.size + 5 ≤ 20000
                  omega
                have HRS2 : Hid (∀ w, Tab w → Calls Tryz.prog 15 #[.string ((⟨#[108, 101, 102, 116, 32]⟩ : ByteArray) ++ F ++ ⟨#[10, 114, 105, 103, 104, 116, 32]⟩ ++ G ++ ⟨#[10, 115, 97, 109, 101, 32]⟩ ++ NK ++ ⟨#[10, 114, 111, 117, 110, 100, 115, 10, 112, 101, 98, 98, 108, 101, 115, 32, 50, 10, 99, 111, 108, 111, 117, 114, 101, 100, 10, 116, 101, 108, 108, 10]⟩)] w fun e w' => e = .returned (.string ((⟨#[111, 107, 10, 111, 107, 10]⟩ : ByteArray) ++ GB ++ NW ++ ⟨#[10]⟩ ++ ⟨#[110, 111, 110, 101, 10]⟩ ++ GS ++ ⟨#[110, 111, 110, 101, 10]⟩)) ∧ Below w.heap.size w w') := fun w ht => by
                  have h := HRS.out w ht
                  have e : ((⟨#[111, 107, 10, 111, 107, 10]⟩ : ByteArray) ++ GB ++ NW ++ (⟨#[10]⟩ : ByteArray) ++ (⟨#[110, 111, 110, 101]⟩ ++ ⟨#[10]⟩) ++ GS ++ (⟨#[110, 111, 110, 101]⟩ ++ ⟨#[10]⟩)) = (⟨#[111, 107, 10, 111, 107, 10]⟩ : ByteArray) ++ GB ++ NW ++ ⟨#[10]⟩ ++ ⟨#[110, 111, 110, 101, 10]⟩ ++ GS ++ ⟨#[110, 111, 110, 101, 10]⟩ := by
                    apply ByteArray.ext
                    apply Array.toList_inj.1
                    simp [ByteArray.data_append, Array.toList_append]
                  rw [e] at h
                  exact h
                clear HRS
                have hq := HL1.out
                by_cases hkw : (k : Int) ≤ (won : Int)
                · rw [decide_eq_true hkw] at hq
                  subst hq
                  have hkwB : decide ((k : Int) ≤ (won : Int)) = true := decide_eq_true hkw
                  cases sc
                  · go_wp2_with fail
                    refine (HRS2.out _ (HT.out.below HB16.out (Nat.le_refl _))).mono ?_; rintro e w17 ⟨rfl, hb⟩
                    have HB17 := Lib.hid (HB16.out.trans (hb.mono HB16.out.size))
                    clear hb
                    go_wp2_with fail
                    go_ret
                    exact ⟨ret_bool (by simp <;> omega), HB17.out⟩
                  · go_wp2_with fail
                    refine (HRS2.out _ (HT.out.below HB16.out (Nat.le_refl _))).mono ?_; rintro e w17 ⟨rfl, hb⟩
                    have HB17 := Lib.hid (HB16.out.trans (hb.mono HB16.out.size))
                    clear hb
                    go_wp2_with fail
                    go_ret
                    exact ⟨ret_bool (by simp <;> omega), HB17.out⟩
                · rw [decide_eq_false hkw] at hq
                  subst hq
                  have hkwB : decide ((k : Int) ≤ (won : Int)) = false := decide_eq_false hkw
                  cases sc
                  · go_wp2_with fail
                    refine (HRS2.out _ (HT.out.below HB16.out (Nat.le_refl _))).mono ?_; rintro e w17 ⟨rfl, hb⟩
                    have HB17 := Lib.hid (HB16.out.trans (hb.mono HB16.out.size))
                    clear hb
                    go_wp2_with fail
                    go_ret
                    exact ⟨ret_bool (by simp <;> omega), HB17.out⟩
                  · go_wp2_with fail
                    refine (HRS2.out _ (HT.out.below HB16.out (Nat.le_refl _))).mono ?_; rintro e w17 ⟨rfl, hb⟩
                    have HB17 := Lib.hid (HB16.out.trans (hb.mono HB16.out.size))
                    clear hb
                    go_wp2_with fail
                    go_ret
                    exact ⟨ret_bool (by simp <;> omega), HB17.out⟩
              · rw [HSF1.out rfl] at HRS
                obtain ⟨zf, rfl⟩ := HZC.out rfl
                have HNC1 := Lib.hid (HNC.out rfl)
                have zNC : (itoS ((won + 1 : Nat) : Int)).size ≤ 21 := itoS_size _ (by omega) (by omega)
                have HLA : Hid (tellAns (some (f, won + 1)) = itoS ((won + 1 : Nat) : Int) ++ ⟨#[32]⟩ ++ f) := rfl
                rw [HLA.out] at HRS
                obtain ⟨NC, hNC⟩ : ∃ N, itoS ((won + 1 : Nat) : Int) = N := ⟨_, rfl⟩
                rw [hNC] at HNC1 HRS zNC
                clear hNC HLA HNC
                have hy6 : ((⟨#[111, 107, 10, 111, 107, 10]⟩ : ByteArray) ++ GB ++ NW ++ ⟨#[10]⟩ ++ ⟨#[110, 111, 110, 101, 10]⟩ ++ GS ++ NC : ByteArray).size ≤ 20000 := by
                  simp only [ByteArray.size_append]
                  show 6 + GB.size + NW.size + 1 + 5 + GS.size + NC.size ≤ 20000
                  omega
                have hy7 : ((⟨#[111, 107, 10, 111, 107, 10]⟩ : ByteArray) ++ GB ++ NW ++ ⟨#[10]⟩ ++ ⟨#[110, 111, 110, 101, 10]⟩ ++ GS ++ NC ++ ⟨#[32]⟩ : ByteArray).size ≤ 20000 := by
                  simp only [ByteArray.size_append]
                  show 6 + GB.size + NW.size + 1 + 5 + GS.size + NC.size + 1 ≤ 20000
                  omega
                have hy8 : ((⟨#[111, 107, 10, 111, 107, 10]⟩ : ByteArray) ++ GB ++ NW ++ ⟨#[10]⟩ ++ ⟨#[110, 111, 110, 101, 10]⟩ ++ GS ++ NC ++ ⟨#[32]⟩ ++ f : ByteArray).size ≤ 20000 := by
                  simp only [ByteArray.size_append]
                  show 6 + GB.size + NW.size + 1 + 5 + GS.size + NC.size + 1 + f.size ≤ 20000
                  omega
                have hy9 : ((⟨#[111, 107, 10, 111, 107, 10]⟩ : ByteArray) ++ GB ++ NW ++ ⟨#[10]⟩ ++ ⟨#[110, 111, 110, 101, 10]⟩ ++ GS ++ NC ++ ⟨#[32]⟩ ++ f ++ ⟨#[10]⟩ : ByteArray).size ≤ 20000 := by
                  simp only [ByteArray.size_append]
                  show 6 + GB.size + NW.size + 1 + 5 + GS.size + NC.size + 1 + f.size + 1 ≤ 20000
                  omega
                have HRS2 : Hid (∀ w, Tab w → Calls Tryz.prog 15 #[.string ((⟨#[108, 101, 102, 116, 32]⟩ : ByteArray) ++ F ++ ⟨#[10, 114, 105, 103, 104, 116, 32]⟩ ++ G ++ ⟨#[10, 115, 97, 109, 101, 32]⟩ ++ NK ++ ⟨#[10, 114, 111, 117, 110, 100, 115, 10, 112, 101, 98, 98, 108, 101, 115, 32, 50, 10, 99, 111, 108, 111, 117, 114, 101, 100, 10, 116, 101, 108, 108, 10]⟩)] w fun e w' => e = .returned (.string ((⟨#[111, 107, 10, 111, 107, 10]⟩ : ByteArray) ++ GB ++ NW ++ ⟨#[10]⟩ ++ ⟨#[110, 111, 110, 101, 10]⟩ ++ GS ++ NC ++ ⟨#[32]⟩ ++ f ++ ⟨#[10]⟩)) ∧ Below w.heap.size w w') := fun w ht => by
                  have h := HRS.out w ht
                  have e : ((⟨#[111, 107, 10, 111, 107, 10]⟩ : ByteArray) ++ GB ++ NW ++ (⟨#[10]⟩ : ByteArray) ++ (⟨#[110, 111, 110, 101]⟩ ++ ⟨#[10]⟩) ++ GS ++ ((NC ++ ⟨#[32]⟩ ++ f) ++ ⟨#[10]⟩)) = (⟨#[111, 107, 10, 111, 107, 10]⟩ : ByteArray) ++ GB ++ NW ++ ⟨#[10]⟩ ++ ⟨#[110, 111, 110, 101, 10]⟩ ++ GS ++ NC ++ ⟨#[32]⟩ ++ f ++ ⟨#[10]⟩ := by
                    apply ByteArray.ext
                    apply Array.toList_inj.1
                    simp [ByteArray.data_append, Array.toList_append]
                  rw [e] at h
                  exact h
                clear HRS
                go_wp2_with fail
                have hal : Below w16.heap.size w16 (w16.alloc (.cells #[.int .i64 ((won : Int) + 1)] 3)) := ((Below.refl _ _).alloc (Nat.le_refl _) _)
                have HB17 := Lib.hid (HB16.out.trans (hal.mono HB16.out.size))
                clear hal
                refine (HNC1.out _ _ (NumsAt.one _ (won + 1)) (HT.out.below HB17.out (Nat.le_refl _))).mono ?_; rintro e w18 ⟨rfl, hb⟩
                have HB18 := Lib.hid (HB17.out.trans (hb.mono HB17.out.size))
                clear hb
                have hq := HL1.out
                by_cases hkw : (k : Int) ≤ (won : Int)
                · rw [decide_eq_true hkw] at hq
                  subst hq
                  have hkwB : decide ((k : Int) ≤ (won : Int)) = true := decide_eq_true hkw
                  cases sc
                  · go_wp2_with fail
                    refine (HRS2.out _ (HT.out.below HB18.out (Nat.le_refl _))).mono ?_; rintro e w19 ⟨rfl, hb⟩
                    have HB19 := Lib.hid (HB18.out.trans (hb.mono HB18.out.size))
                    clear hb
                    go_wp2_with fail
                    go_ret
                    exact ⟨ret_bool (by simp <;> omega), HB19.out⟩
                  · go_wp2_with fail
                    refine (HRS2.out _ (HT.out.below HB18.out (Nat.le_refl _))).mono ?_; rintro e w19 ⟨rfl, hb⟩
                    have HB19 := Lib.hid (HB18.out.trans (hb.mono HB18.out.size))
                    clear hb
                    go_wp2_with fail
                    go_ret
                    exact ⟨ret_bool (by simp <;> omega), HB19.out⟩
                · rw [decide_eq_false hkw] at hq
                  subst hq
                  have hkwB : decide ((k : Int) ≤ (won : Int)) = false := decide_eq_false hkw
                  cases sc
                  · go_wp2_with fail
                    refine (HRS2.out _ (HT.out.below HB18.out (Nat.le_refl _))).mono ?_; rintro e w19 ⟨rfl, hb⟩
                    have HB19 := Lib.hid (HB18.out.trans (hb.mono HB18.out.size))
                    clear hb
                    go_wp2_with fail
                    go_ret
                    exact ⟨ret_bool (by simp <;> omega), HB19.out⟩
                  · go_wp2_with fail
                    refine (HRS2.out _ (HT.out.below HB18.out (Nat.le_refl _))).mono ?_; rintro e w19 ⟨rfl, hb⟩
                    have HB19 := Lib.hid (HB18.out.trans (hb.mono HB18.out.size))
                    clear hb
                    go_wp2_with fail
                    go_ret
                    exact ⟨ret_bool (by simp <;> omega), HB19.out⟩
            · have htvB : decide (tv < 0) = false := decide_eq_false htv
              have hpb : pbAns tv = itoS tv := if_neg htv
              obtain ⟨t, rfl⟩ := Int.eq_ofNat_of_zero_le (show 0 ≤ tv by omega)
              have HNT := Lib.hid (fun v w (hv : NumsAt w v [t]) ht => implFmt_nums v [t] w hv (by simp) (by simp; omega) ht)
              rw [numsB_one] at HNT
              obtain ⟨NT, hNT⟩ : ∃ N, itoS (t : Int) = N := ⟨_, rfl⟩
              rw [hNT] at HNT hpb zT
              clear hNT
              rw [hpb] at HRS
              clear hpb
              have hz4 : ((⟨#[111, 107, 10, 111, 107, 10]⟩ : ByteArray) ++ GB ++ NW ++ ⟨#[10]⟩ ++ NT : ByteArray).size ≤ 20000 := by
                simp only [ByteArray.size_append]
                show 6 + GB.size + NW.size + 1 + NT.size ≤ 20000
                omega
              have hz5 : ((⟨#[111, 107, 10, 111, 107, 10]⟩ : ByteArray) ++ GB ++ NW ++ ⟨#[10]⟩ ++ NT ++ ⟨#[10]⟩ : ByteArray).size ≤ 20000 := by
                simp only [ByteArray.size_append]
                show 6 + GB.size + NW.size + 1 + NT.size + 1 ≤ 20000
                omega
              have hz6 : ((⟨#[111, 107, 10, 111, 107, 10]⟩ : ByteArray) ++ GB ++ NW ++ ⟨#[10]⟩ ++ NT ++ ⟨#[10]⟩ ++ GS : ByteArray).size ≤ 20000 := by
                simp only [ByteArray.size_append]
                show 6 + GB.size + NW.size + 1 + NT.size + 1 + GS.size ≤ 20000
                omega
              go_wp2_with fail
              have hal : Below w15.heap.size w15 (w15.alloc (.cells #[.int .i64 (t : Int)] 3)) := ((Below.refl _ _).alloc (Nat.le_refl _) _)
              have HB16 := Lib.hid (HB15.out.trans (hal.mono HB15.out.size))
              clear hal
              refine (HNT.out _ _ (NumsAt.one _ t) (HT.out.below HB16.out (Nat.le_refl _))).mono ?_; rintro e w17 ⟨rfl, hb⟩
              have HB17 := Lib.hid (HB16.out.trans (hb.mono HB16.out.size))
              clear hb
              go_wp2_with fail
              refine (HGS.out _).mono ?_; rintro e w18 ⟨rfl, hb⟩
              have HB18 := Lib.hid (HB17.out.trans (hb.mono HB17.out.size))
              clear hb
              cases told
              · rw [HSF0.out rfl] at HRS
                have HLA : Hid (tellAns none = ⟨#[110, 111, 110, 101]⟩) := rfl
                rw [HLA.out] at HRS
                clear HLA
                have hy7 : ((⟨#[111, 107, 10, 111, 107, 10]⟩ : ByteArray) ++ GB ++ NW ++ ⟨#[10]⟩ ++ NT ++ ⟨#[10]⟩ ++ GS ++ ⟨#[110, 111, 110, 101, 10]⟩ : ByteArray).size ≤ 20000 := by
                  simp only [ByteArray.size_append]
                  show 6 + GB.size + NW.size + 1 + NT.size + 1 + GS.size + 5 ≤ 20000
                  omega
                have HRS2 : Hid (∀ w, Tab w → Calls Tryz.prog 15 #[.string ((⟨#[108, 101, 102, 116, 32]⟩ : ByteArray) ++ F ++ ⟨#[10, 114, 105, 103, 104, 116, 32]⟩ ++ G ++ ⟨#[10, 115, 97, 109, 101, 32]⟩ ++ NK ++ ⟨#[10, 114, 111, 117, 110, 100, 115, 10, 112, 101, 98, 98, 108, 101, 115, 32, 50, 10, 99, 111, 108, 111, 117, 114, 101, 100, 10, 116, 101, 108, 108, 10]⟩)] w fun e w' => e = .returned (.string ((⟨#[111, 107, 10, 111, 107, 10]⟩ : ByteArray) ++ GB ++ NW ++ ⟨#[10]⟩ ++ NT ++ ⟨#[10]⟩ ++ GS ++ ⟨#[110, 111, 110, 101, 10]⟩)) ∧ Below w.heap.size w w') := fun w ht => by
                  have h := HRS.out w ht
                  have e : ((⟨#[111, 107, 10, 111, 107, 10]⟩ : ByteArray) ++ GB ++ NW ++ (⟨#[10]⟩ : ByteArray) ++ (NT ++ ⟨#[10]⟩) ++ GS ++ (⟨#[110, 111, 110, 101]⟩ ++ ⟨#[10]⟩)) = (⟨#[111, 107, 10, 111, 107, 10]⟩ : ByteArray) ++ GB ++ NW ++ ⟨#[10]⟩ ++ NT ++ ⟨#[10]⟩ ++ GS ++ ⟨#[110, 111, 110, 101, 10]⟩ := by
                    apply ByteArray.ext
                    apply Array.toList_inj.1
                    simp [ByteArray.data_append, Array.toList_append]
                  rw [e] at h
                  exact h
                clear HRS
                have hq := HL1.out
                by_cases hkw : (k : Int) ≤ (won : Int)
                · rw [decide_eq_true hkw] at hq
                  subst hq
                  have hkwB : decide ((k : Int) ≤ (won : Int)) = true := decide_eq_true hkw
                  cases sc
                  · go_wp2_with fail
                    refine (HRS2.out _ (HT.out.below HB18.out (Nat.le_refl _))).mono ?_; rintro e w19 ⟨rfl, hb⟩
                    have HB19 := Lib.hid (HB18.out.trans (hb.mono HB18.out.size))
                    clear hb
                    go_wp2_with fail
                    go_ret
                    exact ⟨ret_bool (by simp <;> omega), HB19.out⟩
                  · exact absurd (HL3.out rfl) (by omega)
                · rw [decide_eq_false hkw] at hq
                  subst hq
                  have hkwB : decide ((k : Int) ≤ (won : Int)) = false := decide_eq_false hkw
                  cases sc
                  · go_wp2_with fail
                    refine (HRS2.out _ (HT.out.below HB18.out (Nat.le_refl _))).mono ?_; rintro e w19 ⟨rfl, hb⟩
                    have HB19 := Lib.hid (HB18.out.trans (hb.mono HB18.out.size))
                    clear hb
                    go_wp2_with fail
                    go_ret
                    exact ⟨ret_bool (by simp <;> omega), HB19.out⟩
                  · exact absurd (HL3.out rfl) (by omega)
              · rw [HSF1.out rfl] at HRS
                obtain ⟨zf, rfl⟩ := HZC.out rfl
                have HNC1 := Lib.hid (HNC.out rfl)
                have zNC : (itoS ((won + 1 : Nat) : Int)).size ≤ 21 := itoS_size _ (by omega) (by omega)
                have HLA : Hid (tellAns (some (f, won + 1)) = itoS ((won + 1 : Nat) : Int) ++ ⟨#[32]⟩ ++ f) := rfl
                rw [HLA.out] at HRS
                obtain ⟨NC, hNC⟩ : ∃ N, itoS ((won + 1 : Nat) : Int) = N := ⟨_, rfl⟩
                rw [hNC] at HNC1 HRS zNC
                clear hNC HLA HNC
                have hy7 : ((⟨#[111, 107, 10, 111, 107, 10]⟩ : ByteArray) ++ GB ++ NW ++ ⟨#[10]⟩ ++ NT ++ ⟨#[10]⟩ ++ GS ++ NC : ByteArray).size ≤ 20000 := by
                  simp only [ByteArray.size_append]
                  show 6 + GB.size + NW.size + 1 + NT.size + 1 + GS.size + NC.size ≤ 20000
                  omega
                have hy8 : ((⟨#[111, 107, 10, 111, 107, 10]⟩ : ByteArray) ++ GB ++ NW ++ ⟨#[10]⟩ ++ NT ++ ⟨#[10]⟩ ++ GS ++ NC ++ ⟨#[32]⟩ : ByteArray).size ≤ 20000 := by
                  simp only [ByteArray.size_append]
                  show 6 + GB.size + NW.size + 1 + NT.size + 1 + GS.size + NC.size + 1 ≤ 20000
                  omega
                have hy9 : ((⟨#[111, 107, 10, 111, 107, 10]⟩ : ByteArray) ++ GB ++ NW ++ ⟨#[10]⟩ ++ NT ++ ⟨#[10]⟩ ++ GS ++ NC ++ ⟨#[32]⟩ ++ f : ByteArray).size ≤ 20000 := by
                  simp only [ByteArray.size_append]
                  show 6 + GB.size + NW.size + 1 + NT.size + 1 + GS.size + NC.size + 1 + f.size ≤ 20000
                  omega
                have hy10 : ((⟨#[111, 107, 10, 111, 107, 10]⟩ : ByteArray) ++ GB ++ NW ++ ⟨#[10]⟩ ++ NT ++ ⟨#[10]⟩ ++ GS ++ NC ++ ⟨#[32]⟩ ++ f ++ ⟨#[10]⟩ : ByteArray).size ≤ 20000 := by
                  simp only [ByteArray.size_append]
                  show 6 + GB.size + NW.size + 1 + NT.size + 1 + GS.size + NC.size + 1 + f.size + 1 ≤ 20000
                  omega
                have HRS2 : Hid (∀ w, Tab w → Calls Tryz.prog 15 #[.string ((⟨#[108, 101, 102, 116, 32]⟩ : ByteArray) ++ F ++ ⟨#[10, 114, 105, 103, 104, 116, 32]⟩ ++ G ++ ⟨#[10, 115, 97, 109, 101, 32]⟩ ++ NK ++ ⟨#[10, 114, 111, 117, 110, 100, 115, 10, 112, 101, 98, 98, 108, 101, 115, 32, 50, 10, 99, 111, 108, 111, 117, 114, 101, 100, 10, 116, 101, 108, 108, 10]⟩)] w fun e w' => e = .returned (.string ((⟨#[111, 107, 10, 111, 107, 10]⟩ : ByteArray) ++ GB ++ NW ++ ⟨#[10]⟩ ++ NT ++ ⟨#[10]⟩ ++ GS ++ NC ++ ⟨#[32]⟩ ++ f ++ ⟨#[10]⟩)) ∧ Below w.heap.size w w') := fun w ht => by
                  have h := HRS.out w ht
                  have e : ((⟨#[111, 107, 10, 111, 107, 10]⟩ : ByteArray) ++ GB ++ NW ++ (⟨#[10]⟩ : ByteArray) ++ (NT ++ ⟨#[10]⟩) ++ GS ++ ((NC ++ ⟨#[32]⟩ ++ f) ++ ⟨#[10]⟩)) = (⟨#[111, 107, 10, 111, 107, 10]⟩ : ByteArray) ++ GB ++ NW ++ ⟨#[10]⟩ ++ NT ++ ⟨#[10]⟩ ++ GS ++ NC ++ ⟨#[32]⟩ ++ f ++ ⟨#[10]⟩ := by
                    apply ByteArray.ext
                    apply Array.toList_inj.1
                    simp [ByteArray.data_append, Array.toList_append]
                  rw [e] at h
                  exact h
                clear HRS
                go_wp2_with fail
                have hal : Below w18.heap.size w18 (w18.alloc (.cells #[.int .i64 ((won : Int) + 1)] 3)) := ((Below.refl _ _).alloc (Nat.le_refl _) _)
                have HB19 := Lib.hid (HB18.out.trans (hal.mono HB18.out.size))
                clear hal
                refine (HNC1.out _ _ (NumsAt.one _ (won + 1)) (HT.out.below HB19.out (Nat.le_refl _))).mono ?_; rintro e w20 ⟨rfl, hb⟩
                have HB20 := Lib.hid (HB19.out.trans (hb.mono HB19.out.size))
                clear hb
                have hq := HL1.out
                by_cases hkw : (k : Int) ≤ (won : Int)
                · rw [decide_eq_true hkw] at hq
                  subst hq
                  have hkwB : decide ((k : Int) ≤ (won : Int)) = true := decide_eq_true hkw
                  cases sc
                  · go_wp2_with fail
                    refine (HRS2.out _ (HT.out.below HB20.out (Nat.le_refl _))).mono ?_; rintro e w21 ⟨rfl, hb⟩
                    have HB21 := Lib.hid (HB20.out.trans (hb.mono HB20.out.size))
                    clear hb
                    go_wp2_with fail
                    go_ret
                    exact ⟨ret_bool (by simp <;> omega), HB21.out⟩
                  · exact absurd (HL3.out rfl) (by omega)
                · rw [decide_eq_false hkw] at hq
                  subst hq
                  have hkwB : decide ((k : Int) ≤ (won : Int)) = false := decide_eq_false hkw
                  cases sc
                  · go_wp2_with fail
                    refine (HRS2.out _ (HT.out.below HB20.out (Nat.le_refl _))).mono ?_; rintro e w21 ⟨rfl, hb⟩
                    have HB21 := Lib.hid (HB20.out.trans (hb.mono HB20.out.size))
                    clear hb
                    go_wp2_with fail
                    go_ret
                    exact ⟨ret_bool (by simp <;> omega), HB21.out⟩
                  · exact absurd (HL3.out rfl) (by omega)
  · go_enter Tryz.func3, Tryz.ntmps3
    go_wp2_with fail
    go_ret
    exact ⟨rfl, Below.refl _ _⟩
end Go.Proofs.YtofmagiahmmmgaaGreatDoor

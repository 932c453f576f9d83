/- The walk of the law FnPartWhere: it returns true. Condition: the bytes are readable. -/
import Derived.Test.YtmabpmkkleelaaaDoorPartO
import Derived.Test.YtmabpmkkleelaaaDoorDrawV
import Derived.Test.YtmabpmkkleelaaaDoorWLaw36
import Derived.Test.YtmabpmkkleelaaaDoorRd
namespace Go.Proofs.YtmabpmkkleelaaaDoor
open Go.RowKit
set_option linter.unusedVariables false
set_option maxRecDepth 100000

theorem rowLen41 {k : IntKind} {w : World} {a : Option Addr} {len cap : Nat} {zs : List Int} (h : IsRow k w a len cap zs) : len ≤ maxLen := by
  rcases h with ⟨_, h, _⟩ | ⟨_, _, h1, h2, _⟩
  · rw [h]; decide
  · omega
theorem def_true (m : Nat) (S R : ByteArray) (h : validB m S R = true) : defSet ⟨#[116]⟩ m S R = some (List.range m) := by
  have e : readB ⟨#[116]⟩ = some (.lit true) := Fm.read_iff.2 ⟨rfl, by decide⟩
  rw [defSet_some e, if_pos ⟨h, by decide⟩, Int.toNat_natCast]
  unfold defTo
  exact congrArg some (List.filter_eq_self.2 (fun x _ => rfl))
theorem pw_true (m : Nat) (S R : ByteArray) (h : validB m S R = true) : pwRes ⟨#[116]⟩ m S R = .tuple #[strV m S R, .bool true] := by
  obtain ⟨h1, _⟩ := valid_is h
  rw [pwRes_some (def_true m S R h), List.length_range, if_neg (by omega), Int.toNat_natCast, part_whole h]
set_option maxHeartbeats 2000000 in
theorem fnPartWhere_walk (a0 : Option Addr) (len0 cap0 : Nat) (z0 : List Int) (w : World) (w0 : IsRow .u8 w a0 len0 cap0 z0) :
    Calls Tryd.prog 4 #[.slice a0 len0 cap0] w fun e w' => e = .returned (.bool true) ∧ Below w.heap.size w w' := by
  have m0 := rowLen41 w0
  unfold maxLen at m0
  have W0 := Lib.hid w0; clear w0
  by_cases l0 : (len0 : Int) ≤ 1048576
  · go_enter Tryd.func4, Tryd.ntmps4
    go_wp2_with fail
    refine (DrawPartWhere_any _ _ _ _ _ W0.out).mono ?_; rintro e w1 ⟨n, S, R, f, n0, n1, hS, hR, hf, rfl, hb⟩
    have HB1 := Lib.hid hb; clear hb
    have HI := Lib.hid (fun w => implPartWhere_any f (by omega) n S R (by omega) (by omega) w)
    have HS := Lib.hid (fun w => specPartWhere_any f (by omega) n S R (by omega) (by omega) w)
    have HD := Lib.hid (fun w => implDefined_any f (by omega) n S R (by omega) (by omega) w)
    cases hds : defSet f n S R with
    | none =>
      rw [pwRes_none hds] at HI HS
      rw [hds] at HD
      unfold strV at HI HS HD ⊢
      clear hds
      have hal : Below w1.heap.size w1 (w1.alloc (.cells #[.int .i64 n, .string S, .string R] 28)) := (Below.refl _ _).alloc (Nat.le_refl _) _
      have HB2 := Lib.hid (HB1.out.trans (hal.mono HB1.out.size))
      have HXa2 : Hid (SBlk (w1.alloc (.cells #[.int .i64 n, .string S, .string R] 28)) w1.heap.size n S R) := SBlk.new w1 n S R
      clear hal
      obtain ⟨ca0, ca1, ca2, fa0, fa1, fa2, ba⟩ := HXa2.out.cells
      go_wp2_with fail
      refine (HI.out _).mono ?_; rintro e w3 ⟨rfl, hb⟩
      have HB3 := Lib.hid (HB2.out.trans (hb.mono HB2.out.size))
      have HXa3 := Lib.hid (HXa2.out.below hb HXa2.out.cells.2.2.2.2.2.2)
      clear hb
      clear ca0 ca1 ca2 fa0 fa1 fa2 ba
      have hal : Below w3.heap.size w3 (w3.alloc (.cells #[.int .i64 0, .string ByteArray.empty, .string ByteArray.empty] 28)) := (Below.refl _ _).alloc (Nat.le_refl _) _
      have HB4 := Lib.hid (HB3.out.trans (hal.mono HB3.out.size))
      have HXa4 := Lib.hid (HXa3.out.below hal HXa3.out.cells.2.2.2.2.2.2)
      have HXb4 : Hid (SBlk (w3.alloc (.cells #[.int .i64 0, .string ByteArray.empty, .string ByteArray.empty] 28)) w3.heap.size 0 ByteArray.empty ByteArray.empty) := SBlk.new w3 0 ByteArray.empty ByteArray.empty
      clear hal
      obtain ⟨ca0, ca1, ca2, fa0, fa1, fa2, ba⟩ := HXa4.out.cells
      go_wp2_with fail
      refine (HS.out _).mono ?_; rintro e w5 ⟨rfl, hb⟩
      have HB5 := Lib.hid (HB4.out.trans (hb.mono HB4.out.size))
      have HXa5 := Lib.hid (HXa4.out.below hb HXa4.out.cells.2.2.2.2.2.2)
      have HXb5 := Lib.hid (HXb4.out.below hb HXb4.out.cells.2.2.2.2.2.2)
      clear hb
      clear ca0 ca1 ca2 fa0 fa1 fa2 ba
      have hal : Below w5.heap.size w5 (w5.alloc (.cells #[.int .i64 0, .string ByteArray.empty, .string ByteArray.empty] 28)) := (Below.refl _ _).alloc (Nat.le_refl _) _
      have HB6 := Lib.hid (HB5.out.trans (hal.mono HB5.out.size))
      have HXa6 := Lib.hid (HXa5.out.below hal HXa5.out.cells.2.2.2.2.2.2)
      have HXb6 := Lib.hid (HXb5.out.below hal HXb5.out.cells.2.2.2.2.2.2)
      have HXc6 : Hid (SBlk (w5.alloc (.cells #[.int .i64 0, .string ByteArray.empty, .string ByteArray.empty] 28)) w5.heap.size 0 ByteArray.empty ByteArray.empty) := SBlk.new w5 0 ByteArray.empty ByteArray.empty
      clear hal
      obtain ⟨ca0, ca1, ca2, fa0, fa1, fa2, ba⟩ := HXa6.out.cells
      obtain ⟨cb0, cb1, cb2, fb0, fb1, fb2, bb⟩ := HXb6.out.cells
      obtain ⟨cc0, cc1, cc2, fc0, fc1, fc2, bc⟩ := HXc6.out.cells
      go_wp2_with fail
      refine (HD.out _).mono ?_; rintro e w7 ⟨hb, hor⟩
      have HB7 := Lib.hid (HB6.out.trans (hb.mono HB6.out.size))
      have HXa7 := Lib.hid (HXa6.out.below hb HXa6.out.cells.2.2.2.2.2.2)
      have HXb7 := Lib.hid (HXb6.out.below hb HXb6.out.cells.2.2.2.2.2.2)
      have HXc7 := Lib.hid (HXc6.out.below hb HXc6.out.cells.2.2.2.2.2.2)
      clear hb
      clear ca0 ca1 ca2 fa0 fa1 fa2 ba cb0 cb1 cb2 fb0 fb1 fb2 bb cc0 cc1 cc2 fc0 fc1 fc2 bc
      rcases hor with ⟨_, v, rfl, hv⟩ | ⟨v, L, h, _⟩
      · clear hv
        go_wp2_with fail
        go_ret
        exact ⟨rfl, HB7.out⟩
      · cases h
    | some L =>
      rw [pwRes_some hds] at HI HS
      rw [hds] at HD
      obtain ⟨m, rfl, hv, hl8, hL, hnd⟩ := defSet_facts hds
      rw [Int.toNat_natCast] at HI HS
      clear hds
      by_cases h0 : L.length = 0
      · rw [if_pos h0] at HI HS
        unfold strV at HI HS HD ⊢
        clear hL hnd hv
        have hal : Below w1.heap.size w1 (w1.alloc (.cells #[.int .i64 (m : Int), .string S, .string R] 28)) := (Below.refl _ _).alloc (Nat.le_refl _) _
        have HB2 := Lib.hid (HB1.out.trans (hal.mono HB1.out.size))
        have HXa2 : Hid (SBlk (w1.alloc (.cells #[.int .i64 (m : Int), .string S, .string R] 28)) w1.heap.size (m : Int) S R) := SBlk.new w1 (m : Int) S R
        clear hal
        obtain ⟨ca0, ca1, ca2, fa0, fa1, fa2, ba⟩ := HXa2.out.cells
        go_wp2_with fail
        refine (HI.out _).mono ?_; rintro e w3 ⟨rfl, hb⟩
        have HB3 := Lib.hid (HB2.out.trans (hb.mono HB2.out.size))
        have HXa3 := Lib.hid (HXa2.out.below hb HXa2.out.cells.2.2.2.2.2.2)
        clear hb
        clear ca0 ca1 ca2 fa0 fa1 fa2 ba
        have hal : Below w3.heap.size w3 (w3.alloc (.cells #[.int .i64 0, .string ByteArray.empty, .string ByteArray.empty] 28)) := (Below.refl _ _).alloc (Nat.le_refl _) _
        have HB4 := Lib.hid (HB3.out.trans (hal.mono HB3.out.size))
        have HXa4 := Lib.hid (HXa3.out.below hal HXa3.out.cells.2.2.2.2.2.2)
        have HXb4 : Hid (SBlk (w3.alloc (.cells #[.int .i64 0, .string ByteArray.empty, .string ByteArray.empty] 28)) w3.heap.size 0 ByteArray.empty ByteArray.empty) := SBlk.new w3 0 ByteArray.empty ByteArray.empty
        clear hal
        obtain ⟨ca0, ca1, ca2, fa0, fa1, fa2, ba⟩ := HXa4.out.cells
        go_wp2_with fail
        refine (HS.out _).mono ?_; rintro e w5 ⟨rfl, hb⟩
        have HB5 := Lib.hid (HB4.out.trans (hb.mono HB4.out.size))
        have HXa5 := Lib.hid (HXa4.out.below hb HXa4.out.cells.2.2.2.2.2.2)
        have HXb5 := Lib.hid (HXb4.out.below hb HXb4.out.cells.2.2.2.2.2.2)
        clear hb
        clear ca0 ca1 ca2 fa0 fa1 fa2 ba
        have hal : Below w5.heap.size w5 (w5.alloc (.cells #[.int .i64 0, .string ByteArray.empty, .string ByteArray.empty] 28)) := (Below.refl _ _).alloc (Nat.le_refl _) _
        have HB6 := Lib.hid (HB5.out.trans (hal.mono HB5.out.size))
        have HXa6 := Lib.hid (HXa5.out.below hal HXa5.out.cells.2.2.2.2.2.2)
        have HXb6 := Lib.hid (HXb5.out.below hal HXb5.out.cells.2.2.2.2.2.2)
        have HXc6 : Hid (SBlk (w5.alloc (.cells #[.int .i64 0, .string ByteArray.empty, .string ByteArray.empty] 28)) w5.heap.size 0 ByteArray.empty ByteArray.empty) := SBlk.new w5 0 ByteArray.empty ByteArray.empty
        clear hal
        obtain ⟨ca0, ca1, ca2, fa0, fa1, fa2, ba⟩ := HXa6.out.cells
        obtain ⟨cb0, cb1, cb2, fb0, fb1, fb2, bb⟩ := HXb6.out.cells
        obtain ⟨cc0, cc1, cc2, fc0, fc1, fc2, bc⟩ := HXc6.out.cells
        go_wp2_with fail
        refine (HD.out _).mono ?_; rintro e w7 ⟨hb, hor⟩
        have HB7 := Lib.hid (HB6.out.trans (hb.mono HB6.out.size))
        have HXa7 := Lib.hid (HXa6.out.below hb HXa6.out.cells.2.2.2.2.2.2)
        have HXb7 := Lib.hid (HXb6.out.below hb HXb6.out.cells.2.2.2.2.2.2)
        have HXc7 := Lib.hid (HXc6.out.below hb HXc6.out.cells.2.2.2.2.2.2)
        clear hb
        clear ca0 ca1 ca2 fa0 fa1 fa2 ba cb0 cb1 cb2 fb0 fb1 fb2 bb cc0 cc1 cc2 fc0 fc1 fc2 bc
        rcases hor with ⟨h, _⟩ | ⟨v, L', h, rfl, hv⟩
        · cases h
        · injection h with h; subst h
          obtain ⟨x, cap, rfl, _, _, _⟩ := hv.view
          rw [h0]
          clear hv h0
          go_wp2_with fail
          go_ret
          exact ⟨rfl, HB7.out⟩
      · rw [if_neg h0] at HI HS
        have HP := Lib.hid (fun v w hv' => implPartOfP_any m S R L v w hv hl8 (by omega) hL hnd hv')
        have HT := Lib.hid (fun w => implPartWhere_any ⟨#[116]⟩ (by decide) (m : Int) S R (by omega) (by omega) w)
        rw [pw_true m S R hv] at HT
        unfold partV at HI HS HP
        obtain ⟨TS, hA⟩ : ∃ T, bitsOf (fun x => oneAt S (L.getD x 0)) L.length = T := ⟨_, rfl⟩
        obtain ⟨TR, hG⟩ : ∃ T, gridOf (fun x y => relAt m R (L.getD x 0) (L.getD y 0)) L.length = T := ⟨_, rfl⟩
        rw [hA, hG] at HI HS HP
        unfold strV at HI HS HD HP HT ⊢
        clear hL hnd hv hA hG
        have hal : Below w1.heap.size w1 (w1.alloc (.cells #[.int .i64 (m : Int), .string S, .string R] 28)) := (Below.refl _ _).alloc (Nat.le_refl _) _
        have HB2 := Lib.hid (HB1.out.trans (hal.mono HB1.out.size))
        have HXa2 : Hid (SBlk (w1.alloc (.cells #[.int .i64 (m : Int), .string S, .string R] 28)) w1.heap.size (m : Int) S R) := SBlk.new w1 (m : Int) S R
        clear hal
        obtain ⟨ca0, ca1, ca2, fa0, fa1, fa2, ba⟩ := HXa2.out.cells
        go_wp2_with fail
        refine (HI.out _).mono ?_; rintro e w3 ⟨rfl, hb⟩
        have HB3 := Lib.hid (HB2.out.trans (hb.mono HB2.out.size))
        have HXa3 := Lib.hid (HXa2.out.below hb HXa2.out.cells.2.2.2.2.2.2)
        clear hb
        clear ca0 ca1 ca2 fa0 fa1 fa2 ba
        have hal : Below w3.heap.size w3 (w3.alloc (.cells #[.int .i64 (L.length : Int), .string TS, .string TR] 28)) := (Below.refl _ _).alloc (Nat.le_refl _) _
        have HB4 := Lib.hid (HB3.out.trans (hal.mono HB3.out.size))
        have HXa4 := Lib.hid (HXa3.out.below hal HXa3.out.cells.2.2.2.2.2.2)
        have HXb4 : Hid (SBlk (w3.alloc (.cells #[.int .i64 (L.length : Int), .string TS, .string TR] 28)) w3.heap.size (L.length : Int) TS TR) := SBlk.new w3 (L.length : Int) TS TR
        clear hal
        obtain ⟨ca0, ca1, ca2, fa0, fa1, fa2, ba⟩ := HXa4.out.cells
        go_wp2_with fail
        refine (HS.out _).mono ?_; rintro e w5 ⟨rfl, hb⟩
        have HB5 := Lib.hid (HB4.out.trans (hb.mono HB4.out.size))
        have HXa5 := Lib.hid (HXa4.out.below hb HXa4.out.cells.2.2.2.2.2.2)
        have HXb5 := Lib.hid (HXb4.out.below hb HXb4.out.cells.2.2.2.2.2.2)
        clear hb
        clear ca0 ca1 ca2 fa0 fa1 fa2 ba
        have hal : Below w5.heap.size w5 (w5.alloc (.cells #[.int .i64 (L.length : Int), .string TS, .string TR] 28)) := (Below.refl _ _).alloc (Nat.le_refl _) _
        have HB6 := Lib.hid (HB5.out.trans (hal.mono HB5.out.size))
        have HXa6 := Lib.hid (HXa5.out.below hal HXa5.out.cells.2.2.2.2.2.2)
        have HXb6 := Lib.hid (HXb5.out.below hal HXb5.out.cells.2.2.2.2.2.2)
        have HXc6 : Hid (SBlk (w5.alloc (.cells #[.int .i64 (L.length : Int), .string TS, .string TR] 28)) w5.heap.size (L.length : Int) TS TR) := SBlk.new w5 (L.length : Int) TS TR
        clear hal
        obtain ⟨ca0, ca1, ca2, fa0, fa1, fa2, ba⟩ := HXa6.out.cells
        obtain ⟨cb0, cb1, cb2, fb0, fb1, fb2, bb⟩ := HXb6.out.cells
        obtain ⟨cc0, cc1, cc2, fc0, fc1, fc2, bc⟩ := HXc6.out.cells
        go_wp2_with fail
        refine (HD.out _).mono ?_; rintro e w7 ⟨hb, hor⟩
        have HB7 := Lib.hid (HB6.out.trans (hb.mono HB6.out.size))
        have HXa7 := Lib.hid (HXa6.out.below hb HXa6.out.cells.2.2.2.2.2.2)
        have HXb7 := Lib.hid (HXb6.out.below hb HXb6.out.cells.2.2.2.2.2.2)
        have HXc7 := Lib.hid (HXc6.out.below hb HXc6.out.cells.2.2.2.2.2.2)
        clear hb
        clear ca0 ca1 ca2 fa0 fa1 fa2 ba cb0 cb1 cb2 fb0 fb1 fb2 bb cc0 cc1 cc2 fc0 fc1 fc2 bc
        rcases hor with ⟨h, _⟩ | ⟨v, L', h, rfl, hv⟩
        · cases h
        · injection h with h; subst h
          have HNv7 := Lib.hid hv
          clear hv
          obtain ⟨ca0, ca1, ca2, fa0, fa1, fa2, ba⟩ := HXa7.out.cells
          go_wp2_with fail
          refine (HP.out _ _ HNv7.out).mono ?_; rintro e w8 ⟨rfl, hb⟩
          have HB8 := Lib.hid (HB7.out.trans (hb.mono HB7.out.size))
          have HXa8 := Lib.hid (HXa7.out.below hb HXa7.out.cells.2.2.2.2.2.2)
          have HXb8 := Lib.hid (HXb7.out.below hb HXb7.out.cells.2.2.2.2.2.2)
          have HXc8 := Lib.hid (HXc7.out.below hb HXc7.out.cells.2.2.2.2.2.2)
          have HNv8 := Lib.hid (HNv7.out.below hb)
          clear hb
          clear ca0 ca1 ca2 fa0 fa1 fa2 ba
          have hal : Below w8.heap.size w8 (w8.alloc (.cells #[.int .i64 (L.length : Int), .string TS, .string TR] 28)) := (Below.refl _ _).alloc (Nat.le_refl _) _
          have HB9 := Lib.hid (HB8.out.trans (hal.mono HB8.out.size))
          have HXa9 := Lib.hid (HXa8.out.below hal HXa8.out.cells.2.2.2.2.2.2)
          have HXb9 := Lib.hid (HXb8.out.below hal HXb8.out.cells.2.2.2.2.2.2)
          have HXc9 := Lib.hid (HXc8.out.below hal HXc8.out.cells.2.2.2.2.2.2)
          have HNv9 := Lib.hid (HNv8.out.below hal)
          have HXd9 : Hid (SBlk (w8.alloc (.cells #[.int .i64 (L.length : Int), .string TS, .string TR] 28)) w8.heap.size (L.length : Int) TS TR) := SBlk.new w8 (L.length : Int) TS TR
          clear hal
          obtain ⟨ca0, ca1, ca2, fa0, fa1, fa2, ba⟩ := HXa9.out.cells
          go_wp2_with fail
          refine (HT.out _).mono ?_; rintro e w10 ⟨rfl, hb⟩
          have HB10 := Lib.hid (HB9.out.trans (hb.mono HB9.out.size))
          have HXa10 := Lib.hid (HXa9.out.below hb HXa9.out.cells.2.2.2.2.2.2)
          have HXb10 := Lib.hid (HXb9.out.below hb HXb9.out.cells.2.2.2.2.2.2)
          have HXc10 := Lib.hid (HXc9.out.below hb HXc9.out.cells.2.2.2.2.2.2)
          have HXd10 := Lib.hid (HXd9.out.below hb HXd9.out.cells.2.2.2.2.2.2)
          have HNv10 := Lib.hid (HNv9.out.below hb)
          clear hb
          clear ca0 ca1 ca2 fa0 fa1 fa2 ba
          have hal : Below w10.heap.size w10 (w10.alloc (.cells #[.int .i64 (m : Int), .string S, .string R] 28)) := (Below.refl _ _).alloc (Nat.le_refl _) _
          have HB11 := Lib.hid (HB10.out.trans (hal.mono HB10.out.size))
          have HXa11 := Lib.hid (HXa10.out.below hal HXa10.out.cells.2.2.2.2.2.2)
          have HXb11 := Lib.hid (HXb10.out.below hal HXb10.out.cells.2.2.2.2.2.2)
          have HXc11 := Lib.hid (HXc10.out.below hal HXc10.out.cells.2.2.2.2.2.2)
          have HXd11 := Lib.hid (HXd10.out.below hal HXd10.out.cells.2.2.2.2.2.2)
          have HNv11 := Lib.hid (HNv10.out.below hal)
          have HXe11 : Hid (SBlk (w10.alloc (.cells #[.int .i64 (m : Int), .string S, .string R] 28)) w10.heap.size (m : Int) S R) := SBlk.new w10 (m : Int) S R
          clear hal
          obtain ⟨ca0, ca1, ca2, fa0, fa1, fa2, ba⟩ := HXa11.out.cells
          obtain ⟨cb0, cb1, cb2, fb0, fb1, fb2, bb⟩ := HXb11.out.cells
          obtain ⟨cd0, cd1, cd2, fd0, fd1, fd2, bd⟩ := HXd11.out.cells
          obtain ⟨ce0, ce1, ce2, fe0, fe1, fe2, be⟩ := HXe11.out.cells
          go_wp2_with fail
          go_ret
          exact ⟨ret_bool (by simp), HB11.out⟩
  · go_enter Tryd.func4, Tryd.ntmps4
    go_wp2_with fail
    go_ret
    exact ⟨rfl, Below.refl _ _⟩
end Go.Proofs.YtmabpmkkleelaaaDoor

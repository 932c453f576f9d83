/- The walk of the law FnOrderGames: it returns true. Condition: the bytes are readable. -/
import Derived.Test.YtmabpmkkleelaaaDoorWdW
import Derived.Test.YtmabpmkkleelaaaDoorGame0
import Derived.Test.YtmabpmkkleelaaaDoorOrderOf
import Derived.Test.YtmabpmkkleelaaaDoorOrd
import Derived.Test.YtmabpmkkleelaaaDoorRd
namespace Go.Proofs.YtmabpmkkleelaaaDoor
open Go.RowKit
set_option linter.unusedVariables false
set_option maxRecDepth 100000

theorem rowLen33 {k : IntKind} {w : World} {a : Option Addr} {len cap : Nat} {zs : List Int} (h : IsRow k w a len cap zs) : len ≤ maxLen := by
  rcases h with ⟨_, h, _⟩ | ⟨_, _, h1, h2, _⟩
  · rw [h]; decide
  · omega
theorem y_list33 : ∀ n : Nat, (rep ⟨#[121]⟩ n).data.toList = List.replicate n 121
  | 0 => by simp [rep]
  | n + 1 => by
    show ((⟨#[121]⟩ : ByteArray) ++ rep ⟨#[121]⟩ n).data.toList = _
    rw [ByteArray.data_append, Array.toList_append, y_list33 n]
    rfl
theorem y_let33 (n x : Nat) : letB (rep ⟨#[121]⟩ n) x = false := by
  unfold letB
  rw [y_list33, List.getD_eq_getElem?_getD, List.getElem?_replicate]
  split <;> rfl
/-- The structure of the order of n elements. -/
def ordS (n : Nat) : ByteArray := bitsOf (letB (rep ⟨#[121]⟩ n)) (rep ⟨#[121]⟩ n).size
def ordR (n : Nat) : ByteArray := gridOf ltB (rep ⟨#[121]⟩ n).size
theorem ord_like33 (n : Nat) : Gs.Like (stOf n (ordS n) (ordR n)) (Gs.ord n) := by
  have hz := yrep_size n
  refine ⟨rfl, ?_, ?_⟩
  · intro x hx
    have hx' : x < (rep ⟨#[121]⟩ n).size := by rw [hz]; exact hx
    show oneAt (ordS n) x = false
    unfold ordS
    rw [oneAt_bitsW _ _ _ hx', y_let33]
  · intro x y hx hy
    have hx' : x < n := hx
    have hy' : y < n := hy
    show relAt n (ordR n) x y = decide (x < y)
    unfold ordR
    rw [hz, relAt_gridW _ _ _ _ hx' hy']; rfl
theorem ord_word33 {n : Nat} (h1 : 1 ≤ n) (h8 : n ≤ 8) : wordB (rep ⟨#[121]⟩ n) = true := by
  unfold wordB
  rw [yrep_size, y_list33, Bool.and_eq_true]
  exact ⟨inB_iff.2 ⟨by omega, by omega⟩, by simp [isXY]⟩
theorem orders33 {n m k : Nat} (n1 : 1 ≤ n) (n8 : n ≤ 8) (m1 : 1 ≤ m) (m8 : m ≤ 8) (hk : k ≤ 3) : Gs.wins k (stOf n (ordS n) (ordR n)) [] (stOf m (ordS m) (ordR m)) [] = ordersB n m k := by
  have e1 : Gs.wins k (stOf n (ordS n) (ordR n)) [] (stOf m (ordS m) (ordR m)) [] = true ↔ Gs.alike k n m := by
    rw [Gs.wins_iff rfl]
    constructor
    · intro h
      exact Gs.ord_alike (Gs.Like.eqv2 (ord_like33 n).symm (ord_like33 m).symm (by simp) (by simp) h)
    · intro h
      exact Gs.Like.eqv2 (ord_like33 n) (ord_like33 m) (by simp) (by simp) (Gs.ord_eqv h)
  have e2 : ordersB n m k = true ↔ Gs.alike k n m := by
    unfold ordersB readyB alikeB enough Gs.alike
    simp only [Bool.and_eq_true, Bool.or_eq_true, decide_eq_true_eq, inB_iff]
    rcases (by omega : k = 0 ∨ k = 1 ∨ k = 2 ∨ k = 3) with rfl | rfl | rfl | rfl
    all_goals
      simp
      omega
  rw [Bool.eq_iff_iff, e1, e2]
theorem ord_is33 (k : Int) : (inB k 1 8 = false ∧ orderRes k = .tuple #[strV 0 ByteArray.empty ByteArray.empty, .bool false]) ∨ ∃ n : Nat, k = (n : Int) ∧ 1 ≤ n ∧ n ≤ 8 ∧ orderRes k = .tuple #[strV n (ordS n) (ordR n), .bool true] := by
  unfold orderRes
  cases h : inB k 1 8
  · exact .inl ⟨rfl, by simp⟩
  · have h1 := inB_iff.1 h
    obtain ⟨n, rfl⟩ := Int.eq_ofNat_of_zero_le (show 0 ≤ k by omega)
    refine .inr ⟨n, rfl, by omega, by omega, ?_⟩
    simp only [if_true, Int.toNat_natCast]
    unfold orderV wordV ordS ordR
    rw [yrep_size]
theorem DrawOrderOf_any (w : World) (a : Option Addr) (len cap : Nat) (zs : List Int) (h : IsRow .u8 w a len cap zs) :
    Calls Tryd.prog 29 #[.slice a len cap] w fun e w' => (∃ n : Int, e = .returned (.int .i64 n)) ∧ Below w.heap.size w w' := by
  have H := Lib.hid h; clear h
  go_enter Tryd.func29, Tryd.ntmps29
  go_wp2_with fail
  refine (l15Open_any _ _ _ _ _ H.out).mono ?_; rintro e w1 ⟨rfl, hr, hb, hs⟩
  have HR := Lib.hid hr; have HB := Lib.hid hb
  clear hr hb hs
  generalize hB : w.heap.size = B at *
  have HW := Lib.hid hB; clear hB
  go_wp2_with fail
  refine (num_list w1 B _ [3, 1, 8, 5, 0, 9, -1, 2] _ HR.out (by omega) (by decide) (by decide)).mono ?_; rintro e w2 ⟨v, hv, rfl, hr, hg⟩
  have HP : Hid (Below w.heap.size w w2) := by
    have hB := HW.out
    exact below_of_grown (by rw [hB]; exact HB.out) (by omega) hg
  clear hr hg hv
  go_wp2_with fail
  go_ret
  exact ⟨⟨v, rfl⟩, HP.out⟩
set_option maxHeartbeats 4000000 in
theorem fnOrderGames_walk (a0 : Option Addr) (len0 cap0 : Nat) (z0 : List Int) (a1 : Option Addr) (len1 cap1 : Nat) (z1 : List Int) (w : World) (w0 : IsRow .u8 w a0 len0 cap0 z0) (w1 : IsRow .u8 w a1 len1 cap1 z1) :
    Calls Tryd.prog 5 #[.slice a0 len0 cap0, .slice a1 len1 cap1] w fun e w' => e = .returned (.bool true) ∧ Below w.heap.size w w' := by
  have m0 := rowLen33 w0
  have m1 := rowLen33 w1
  unfold maxLen at m0 m1
  have W0 := Lib.hid w0; have W1 := Lib.hid w1; clear w0 w1
  by_cases l0 : (len0 : Int) ≤ 1048576
  · by_cases l1 : (len1 : Int) ≤ 1048576
    · go_enter Tryd.func5, Tryd.ntmps5
      go_wp2_with fail
      refine (DrawOrderOf_any _ _ _ _ _ W0.out).mono ?_; rintro e w1 ⟨⟨n, rfl⟩, hb⟩
      have HB1 := Lib.hid hb; clear hb
      have HI := Lib.hid (fun w => implOrderOf_any n w)
      have HS := Lib.hid (fun w => specOrderOf_any n w)
      rcases ord_is33 n with ⟨_, hn⟩ | ⟨zn, rfl, n1, n8, hn⟩
      · rw [hn] at HI HS
        unfold strV at HI HS
        clear hn
        go_wp2_with fail
        refine (HI.out _).mono ?_; rintro e w2 ⟨rfl, hb⟩
        have HB2 := Lib.hid (HB1.out.trans (hb.mono HB1.out.size))
        clear hb
        have hal : Below w2.heap.size w2 (w2.alloc (.cells #[.int .i64 0, .string ByteArray.empty, .string ByteArray.empty] 28)) := (Below.refl _ _).alloc (Nat.le_refl _) _
        have HB3 := Lib.hid (HB2.out.trans (hal.mono HB2.out.size))
        have HXa3 : Hid (SBlk (w2.alloc (.cells #[.int .i64 0, .string ByteArray.empty, .string ByteArray.empty] 28)) w2.heap.size 0 ByteArray.empty ByteArray.empty) := SBlk.new w2 0 ByteArray.empty ByteArray.empty
        clear hal
        go_wp2_with fail
        refine (HS.out _).mono ?_; rintro e w4 ⟨rfl, hb⟩
        have HB4 := Lib.hid (HB3.out.trans (hb.mono HB3.out.size))
        have HXa4 := Lib.hid (HXa3.out.below hb HXa3.out.cells.2.2.2.2.2.2)
        clear hb
        have hal : Below w4.heap.size w4 (w4.alloc (.cells #[.int .i64 0, .string ByteArray.empty, .string ByteArray.empty] 28)) := (Below.refl _ _).alloc (Nat.le_refl _) _
        have HB5 := Lib.hid (HB4.out.trans (hal.mono HB4.out.size))
        have HXa5 := Lib.hid (HXa4.out.below hal HXa4.out.cells.2.2.2.2.2.2)
        have HXb5 : Hid (SBlk (w4.alloc (.cells #[.int .i64 0, .string ByteArray.empty, .string ByteArray.empty] 28)) w4.heap.size 0 ByteArray.empty ByteArray.empty) := SBlk.new w4 0 ByteArray.empty ByteArray.empty
        clear hal
        go_wp2_with fail
        refine (DrawOrderOf_any _ _ _ _ _ (W1.out.below HB5.out)).mono ?_; rintro e w6 ⟨⟨m, rfl⟩, hb⟩
        have HB6 := Lib.hid (HB5.out.trans (hb.mono HB5.out.size))
        have HXa6 := Lib.hid (HXa5.out.below hb HXa5.out.cells.2.2.2.2.2.2)
        have HXb6 := Lib.hid (HXb5.out.below hb HXb5.out.cells.2.2.2.2.2.2)
        clear hb
        have HJ := Lib.hid (fun w => implOrderOf_any m w)
        obtain ⟨M, T, U, b, hm⟩ := orderRes_form m
        rw [hm] at HJ
        unfold strV at HJ
        clear hm
        go_wp2_with fail
        refine (HJ.out _).mono ?_; rintro e w7 ⟨rfl, hb⟩
        have HB7 := Lib.hid (HB6.out.trans (hb.mono HB6.out.size))
        have HXa7 := Lib.hid (HXa6.out.below hb HXa6.out.cells.2.2.2.2.2.2)
        have HXb7 := Lib.hid (HXb6.out.below hb HXb6.out.cells.2.2.2.2.2.2)
        clear hb
        have hal : Below w7.heap.size w7 (w7.alloc (.cells #[.int .i64 M, .string T, .string U] 28)) := (Below.refl _ _).alloc (Nat.le_refl _) _
        have HB8 := Lib.hid (HB7.out.trans (hal.mono HB7.out.size))
        have HXa8 := Lib.hid (HXa7.out.below hal HXa7.out.cells.2.2.2.2.2.2)
        have HXb8 := Lib.hid (HXb7.out.below hal HXb7.out.cells.2.2.2.2.2.2)
        have HXc8 : Hid (SBlk (w7.alloc (.cells #[.int .i64 M, .string T, .string U] 28)) w7.heap.size M T U) := SBlk.new w7 M T U
        clear hal
        obtain ⟨ca0, ca1, ca2, fa0, fa1, fa2, ba⟩ := HXa8.out.cells
        obtain ⟨cb0, cb1, cb2, fb0, fb1, fb2, bb⟩ := HXb8.out.cells
        go_wp2_with fail
        go_ret
        exact ⟨ret_bool (by simp), HB8.out⟩
      · rw [hn] at HI HS
        unfold strV at HI HS
        clear hn
        go_wp2_with fail
        refine (HI.out _).mono ?_; rintro e w2 ⟨rfl, hb⟩
        have HB2 := Lib.hid (HB1.out.trans (hb.mono HB1.out.size))
        clear hb
        have hal : Below w2.heap.size w2 (w2.alloc (.cells #[.int .i64 (zn : Int), .string (ordS zn), .string (ordR zn)] 28)) := (Below.refl _ _).alloc (Nat.le_refl _) _
        have HB3 := Lib.hid (HB2.out.trans (hal.mono HB2.out.size))
        have HXa3 : Hid (SBlk (w2.alloc (.cells #[.int .i64 (zn : Int), .string (ordS zn), .string (ordR zn)] 28)) w2.heap.size (zn : Int) (ordS zn) (ordR zn)) := SBlk.new w2 (zn : Int) (ordS zn) (ordR zn)
        clear hal
        go_wp2_with fail
        refine (HS.out _).mono ?_; rintro e w4 ⟨rfl, hb⟩
        have HB4 := Lib.hid (HB3.out.trans (hb.mono HB3.out.size))
        have HXa4 := Lib.hid (HXa3.out.below hb HXa3.out.cells.2.2.2.2.2.2)
        clear hb
        have hal : Below w4.heap.size w4 (w4.alloc (.cells #[.int .i64 (zn : Int), .string (ordS zn), .string (ordR zn)] 28)) := (Below.refl _ _).alloc (Nat.le_refl _) _
        have HB5 := Lib.hid (HB4.out.trans (hal.mono HB4.out.size))
        have HXa5 := Lib.hid (HXa4.out.below hal HXa4.out.cells.2.2.2.2.2.2)
        have HXb5 : Hid (SBlk (w4.alloc (.cells #[.int .i64 (zn : Int), .string (ordS zn), .string (ordR zn)] 28)) w4.heap.size (zn : Int) (ordS zn) (ordR zn)) := SBlk.new w4 (zn : Int) (ordS zn) (ordR zn)
        clear hal
        go_wp2_with fail
        refine (DrawOrderOf_any _ _ _ _ _ (W1.out.below HB5.out)).mono ?_; rintro e w6 ⟨⟨m, rfl⟩, hb⟩
        have HB6 := Lib.hid (HB5.out.trans (hb.mono HB5.out.size))
        have HXa6 := Lib.hid (HXa5.out.below hb HXa5.out.cells.2.2.2.2.2.2)
        have HXb6 := Lib.hid (HXb5.out.below hb HXb5.out.cells.2.2.2.2.2.2)
        clear hb
        have HJ := Lib.hid (fun w => implOrderOf_any m w)
        rcases ord_is33 m with ⟨_, hm⟩ | ⟨zm, rfl, q1, q8, hm⟩
        · rw [hm] at HJ
          unfold strV at HJ
          clear hm
          go_wp2_with fail
          refine (HJ.out _).mono ?_; rintro e w7 ⟨rfl, hb⟩
          have HB7 := Lib.hid (HB6.out.trans (hb.mono HB6.out.size))
          have HXa7 := Lib.hid (HXa6.out.below hb HXa6.out.cells.2.2.2.2.2.2)
          have HXb7 := Lib.hid (HXb6.out.below hb HXb6.out.cells.2.2.2.2.2.2)
          clear hb
          have hal : Below w7.heap.size w7 (w7.alloc (.cells #[.int .i64 0, .string ByteArray.empty, .string ByteArray.empty] 28)) := (Below.refl _ _).alloc (Nat.le_refl _) _
          have HB8 := Lib.hid (HB7.out.trans (hal.mono HB7.out.size))
          have HXa8 := Lib.hid (HXa7.out.below hal HXa7.out.cells.2.2.2.2.2.2)
          have HXb8 := Lib.hid (HXb7.out.below hal HXb7.out.cells.2.2.2.2.2.2)
          have HXc8 : Hid (SBlk (w7.alloc (.cells #[.int .i64 0, .string ByteArray.empty, .string ByteArray.empty] 28)) w7.heap.size 0 ByteArray.empty ByteArray.empty) := SBlk.new w7 0 ByteArray.empty ByteArray.empty
          clear hal
          obtain ⟨ca0, ca1, ca2, fa0, fa1, fa2, ba⟩ := HXa8.out.cells
          obtain ⟨cb0, cb1, cb2, fb0, fb1, fb2, bb⟩ := HXb8.out.cells
          go_wp2_with fail
          go_ret
          exact ⟨ret_bool (by simp), HB8.out⟩
        · rw [hm] at HJ
          have hw := ord_word33 n1 n8
          have va := valid_bits (n := zn) n1 n8 (letB (rep ⟨#[121]⟩ zn)) ltB
          have vb := valid_bits (n := zm) q1 q8 (letB (rep ⟨#[121]⟩ zm)) ltB
          have ea : bitsOf (letB (rep ⟨#[121]⟩ zn)) zn = ordS zn := by unfold ordS; rw [yrep_size]
          have eb : bitsOf (letB (rep ⟨#[121]⟩ zm)) zm = ordS zm := by unfold ordS; rw [yrep_size]
          have ga : gridOf ltB zn = ordR zn := by unfold ordR; rw [yrep_size]
          have gb : gridOf ltB zm = ordR zm := by unfold ordR; rw [yrep_size]
          rw [ea, ga] at va
          rw [eb, gb] at vb
          have HWO := Lib.hid (fun w => implWordOf_any (zn : Int) (ordS zn) (ordR zn) (by unfold ordS; rw [bitsOf_size, yrep_size]; omega) (by unfold ordR gridOf; rw [bitsOf_size, yrep_size]; have := Nat.mul_le_mul n8 n8; omega) w)
          have HCS := Lib.hid (fun w => CountSymmetries_any (zn : Int) (ordS zn) (ordR zn) (by unfold ordS; rw [bitsOf_size, yrep_size]; omega) (by unfold ordR gridOf; rw [bitsOf_size, yrep_size]; have := Nat.mul_le_mul n8 n8; omega) w)
          have e1 := word_of_word hw
          have e2 := word_syms hw
          have hsz := yrep_size zn
          rw [hsz, ea, ga] at e1 e2
          rw [e1] at HWO
          rw [e2] at HCS
          have HSR := Lib.hid (fun k (hk : k ≤ 3) w => SameRank_any zn (ordS zn) (ordR zn) zm (ordS zm) (ordR zm) k w hk va vb)
          have HOR := Lib.hid (fun k (hk : k ≤ 3) => orders33 n1 n8 q1 q8 hk)
          have HOA := Lib.hid (fun (k : Nat) w => implOrdersAlike_any (zn : Int) (zm : Int) (k : Int) w)
          unfold woV at HWO
          unfold strV at HJ HWO HCS HSR
          clear hm e1 e2 ea eb ga gb va vb hw
          generalize rep ⟨#[121]⟩ zn = s at *
          generalize ordS zn = SA at *
          generalize ordR zn = RA at *
          generalize ordS zm = SB at *
          generalize ordR zm = RB at *
          go_wp2_with fail
          refine (HJ.out _).mono ?_; rintro e w7 ⟨rfl, hb⟩
          have HB7 := Lib.hid (HB6.out.trans (hb.mono HB6.out.size))
          have HXa7 := Lib.hid (HXa6.out.below hb HXa6.out.cells.2.2.2.2.2.2)
          have HXb7 := Lib.hid (HXb6.out.below hb HXb6.out.cells.2.2.2.2.2.2)
          clear hb
          have hal : Below w7.heap.size w7 (w7.alloc (.cells #[.int .i64 (zm : Int), .string SB, .string RB] 28)) := (Below.refl _ _).alloc (Nat.le_refl _) _
          have HB8 := Lib.hid (HB7.out.trans (hal.mono HB7.out.size))
          have HXa8 := Lib.hid (HXa7.out.below hal HXa7.out.cells.2.2.2.2.2.2)
          have HXb8 := Lib.hid (HXb7.out.below hal HXb7.out.cells.2.2.2.2.2.2)
          have HXc8 : Hid (SBlk (w7.alloc (.cells #[.int .i64 (zm : Int), .string SB, .string RB] 28)) w7.heap.size (zm : Int) SB RB) := SBlk.new w7 (zm : Int) SB RB
          clear hal
          obtain ⟨ca0, ca1, ca2, fa0, fa1, fa2, ba⟩ := HXa8.out.cells
          obtain ⟨cb0, cb1, cb2, fb0, fb1, fb2, bb⟩ := HXb8.out.cells
          go_wp2_with fail
          clear ca0 ca1 ca2 fa0 fa1 fa2 ba cb0 cb1 cb2 fb0 fb1 fb2 bb
          go_loopw [13] (fun q wr => ∃ k : Nat, k ≤ 4 ∧ q = .int .i64 (k : Int) ∧ Hid (SBlk wr w2.heap.size (zn : Int) SA RA ∧ SBlk wr w7.heap.size (zm : Int) SB RB ∧ Below w.heap.size w wr)) (fun q _ => 4 - (intOf q).toNat)
          case atStart => exact ⟨0, by omega, rfl, HXa8.out, HXc8.out, HB8.out⟩
          case round =>
            obtain ⟨k, hk, rfl, HL⟩ := hrel
            by_cases hlt : k ≤ 3
            · have hltI : (k : Int) ≤ 3 := by omega
              obtain ⟨ca0, ca1, ca2, _, _, _, bba⟩ := HL.out.1.cells
              obtain ⟨cb0, cb1, cb2, _, _, _, bbb⟩ := HL.out.2.1.cells
              have J1 := Lib.hid (HSR.out k hlt)
              have J2 := Lib.hid (HOA.out k)
              rw [HOR.out k hlt] at J1
              generalize ordersB (zn : Int) (zm : Int) (k : Int) = P at *
              go_wp2_with fail
              refine (J1.out _).mono ?_; rintro e w11 ⟨rfl, hb⟩
              have HL3 : Hid (SBlk w11 w2.heap.size (zn : Int) SA RA ∧ SBlk w11 w7.heap.size (zm : Int) SB RB ∧ Below w.heap.size w w11) := ⟨HL.out.1.below hb HL.out.1.cells.2.2.2.2.2.2, HL.out.2.1.below hb HL.out.2.1.cells.2.2.2.2.2.2, HL.out.2.2.trans (hb.mono HL.out.2.2.size)⟩
              clear hb ca0 ca1 ca2 bba cb0 cb1 cb2 bbb
              go_wp2_with fail
              refine (J2.out _).mono ?_; rintro e w12 ⟨rfl, hw12⟩; rw [← hw12]; clear hw12 w12
              cases P
              all_goals
                go_wp2_with fail
                go_roundw
                case rel => exact ⟨k + 1, by omega, by go_num, HL3.out⟩
                case measure => simp [intOf]; omega
            · have hltI : ¬ (k : Int) ≤ 3 := by omega
              have HXa20 := Lib.hid HL.out.1
              have HB20 := Lib.hid HL.out.2.2
              have hszI : ((s.size : Int) == (zn : Int)) = true := by rw [beq_iff_eq, hsz]
              have HSZ := Lib.hid hsz
              clear hsz
              obtain ⟨ca0, ca1, ca2, fa0, fa1, fa2, ba⟩ := HXa20.out.cells
              go_wp2_with fail
              refine (HWO.out _).mono ?_; rintro e w21 ⟨rfl, hb⟩
              have HB21 := Lib.hid (HB20.out.trans (hb.mono HB20.out.size))
              have HXa21 := Lib.hid (HXa20.out.below hb HXa20.out.cells.2.2.2.2.2.2)
              clear hb
              clear ca0 ca1 ca2 fa0 fa1 fa2 ba
              obtain ⟨ca0, ca1, ca2, fa0, fa1, fa2, ba⟩ := HXa21.out.cells
              go_wp2_with fail
              refine (HCS.out _).mono ?_; rintro e w22 ⟨rfl, hb⟩
              have HB22 := Lib.hid (HB21.out.trans (hb.mono HB21.out.size))
              have HXa22 := Lib.hid (HXa21.out.below hb HXa21.out.cells.2.2.2.2.2.2)
              clear hb
              clear ca0 ca1 ca2 fa0 fa1 fa2 ba
              go_wp2_with fail
              go_ret
              exact ⟨ret_bool (by simp), HB22.out⟩
    · go_enter Tryd.func5, Tryd.ntmps5
      go_wp2_with fail
      go_ret
      exact ⟨rfl, Below.refl _ _⟩
  · go_enter Tryd.func5, Tryd.ntmps5
    go_wp2_with fail
    go_ret
    exact ⟨rfl, Below.refl _ _⟩
end Go.Proofs.YtmabpmkkleelaaaDoor

/- The walk of the law FnOrderReply: it returns true. Condition: the bytes are readable. -/
import Derived.Test.YtagnikcnakdehaaDoorReplyP
import Derived.Test.YtagnikcnakdehaaDoorOrdSt
import Derived.Test.YtagnikcnakdehaaDoorSecond1
import Derived.Test.YtagnikcnakdehaaDoorDrawOR
import Derived.Test.YtagnikcnakdehaaDoorOrderOf
namespace Go.Proofs.YtagnikcnakdehaaDoor
open Go.RowKit
set_option linter.unusedVariables false
set_option maxRecDepth 100000

theorem implReply_any (n m r x : Int) (w : World) : Calls Tryd.prog 32 #[.int .i64 n, .int .i64 m, .int .i64 r, .int .i64 x] w (ReplyPost n m r x w) := by
  cases h : okArgs n m r x
  · exact implOrderReply_no n m r x w h
  · obtain ⟨⟨n0, n1⟩, ⟨m0, m1⟩, ⟨r0, r1⟩, ⟨x0, x1⟩⟩ := okArgs_true.1 h
    exact implOrderReply_yes n m r x w n0 n1 m0 m1 r0 r1 x0 x1
theorem specReply_any (n m r x : Int) (w : World) : Calls Tryd.prog 33 #[.int .i64 n, .int .i64 m, .int .i64 r, .int .i64 x] w (ReplyPost n m r x w) := by
  cases h : okArgs n m r x
  · exact specOrderReply_no n m r x w h
  · obtain ⟨⟨n0, n1⟩, ⟨m0, m1⟩, ⟨r0, r1⟩, ⟨x0, x1⟩⟩ := okArgs_true.1 h
    exact specOrderReply_yes n m r x w n0 n1 m0 m1 r0 r1 x0 x1
theorem orders_yes {n m r : Int} (h0 : 0 ≤ n) (h1 : n ≤ 1000000) (h2 : 0 ≤ m) (h3 : m ≤ 1000000) (h4 : 0 ≤ r) (h5 : r ≤ 10) (h : n = m ∨ enough r ≤ n ∧ enough r ≤ m) : ordersB n m r = true := by
  unfold ordersB
  rw [Bool.and_eq_true]
  refine ⟨?_, ?_⟩
  · simp only [readyB, Bool.and_eq_true, inB_iff]; omega
  · simp only [alikeB, Bool.or_eq_true, Bool.and_eq_true, decide_eq_true_eq]; exact h
theorem ordersCall {b : Bool} {n m r : Int} (w : World) (h : ordersB n m r = b) :
    Calls Tryd.prog 34 #[.int .i64 n, .int .i64 m, .int .i64 r] w fun e w' => e = .returned (.bool b) ∧ w = w' := by
  subst h; exact implOrdersAlike_any _ _ _ _
theorem size_alloc5 (w : World) (o : Obj) : (w.alloc o).heap.size = w.heap.size + 1 := by simp
theorem reply_same {n m r x y y' : Int} {ok ok' : Bool} (h1 : okArgs n m r x = true → ReplyIs n m r x y ok) (h2 : okArgs n m r x = false → y = 0 ∧ ok = false) (h3 : okArgs n m r x = true → ReplyIs n m r x y' ok') (h4 : okArgs n m r x = false → y' = 0 ∧ ok' = false) : y = y' ∧ ok = ok' := by
  cases h : okArgs n m r x
  · exact ⟨(h2 h).1.trans (h4 h).1.symm, (h2 h).2.trans (h4 h).2.symm⟩
  · exact (h1 h).one (h3 h)
theorem orders_no {n m r : Int} (h : alikeB n m r = false) : ordersB n m r = false := by unfold ordersB; rw [h]; simp
set_option maxHeartbeats 4000000 in
theorem fnOrderReply_walk (a0 : Option Addr) (len0 cap0 : Nat) (z0 : List Int) (w : World) (w0 : IsRow .u8 w a0 len0 cap0 z0) :
    Calls Tryd.prog 8 #[.slice a0 len0 cap0] w fun e w' => e = .returned (.bool true) ∧ Below w.heap.size w w' := by
  have W0 := Lib.hid w0; clear w0
  by_cases l0 : (len0 : Int) ≤ 1048576
  · go_enter Tryd.func8, Tryd.ntmps8
    go_wp2_with fail
    refine (DrawOrderReply_any _ _ _ _ _ W0.out).mono ?_; rintro e w1 ⟨n, m, r, x, rfl, hn, hm, hr, hx, hb⟩
    have HB1 := Lib.hid hb; clear hb
    go_wp2_with fail
    refine (implReply_any _ _ _ _ _).mono ?_; rintro e w2 ⟨y, ok, rfl, h1, h2, hb⟩
    have HB2 := Lib.hid (HB1.out.trans (hb.mono HB1.out.size)); clear hb
    go_wp2_with fail
    refine (specReply_any _ _ _ _ _).mono ?_; rintro e w3 ⟨y', ok', rfl, h3, h4, hb⟩
    have HB3 := Lib.hid (HB2.out.trans (hb.mono HB2.out.size)); clear hb
    obtain ⟨e1, e2⟩ := reply_same h1 h2 h3 h4
    have H1 := Lib.hid h1
    clear h1 h2 h3 h4
    subst e1; subst e2
    by_cases d0 : n < 0
    · cases ok
      all_goals
        go_wp2_with fail
        go_ret
        exact ⟨rfl, HB3.out⟩
    by_cases d1 : m < 0
    · cases ok
      all_goals
        go_wp2_with fail
        go_ret
        exact ⟨rfl, HB3.out⟩
    by_cases d2 : 1000000 < n
    · cases ok
      all_goals
        go_wp2_with fail
        go_ret
        exact ⟨rfl, HB3.out⟩
    by_cases d3 : 1000000 < m
    · cases ok
      all_goals
        go_wp2_with fail
        go_ret
        exact ⟨rfl, HB3.out⟩
    by_cases d4 : r < 1
    · cases ok
      all_goals
        go_wp2_with fail
        go_ret
        exact ⟨rfl, HB3.out⟩
    by_cases d5 : 10 < r
    · cases ok
      all_goals
        go_wp2_with fail
        go_ret
        exact ⟨rfl, HB3.out⟩
    by_cases d6 : x < 0
    · cases ok
      all_goals
        go_wp2_with fail
        go_ret
        exact ⟨rfl, HB3.out⟩
    by_cases d7 : n ≤ x
    · cases ok
      all_goals
        go_wp2_with fail
        go_ret
        exact ⟨rfl, HB3.out⟩
    have HR := Lib.hid (H1.out (okArgs_true.2 ⟨⟨by omega, by omega⟩, ⟨by omega, by omega⟩, ⟨by omega, by omega⟩, ⟨by omega, by omega⟩⟩))
    clear H1
    cases ok
    · have HO := Lib.hid (fun w => ordersCall w (orders_no (reply_no HR.out (by omega) (by omega) (by omega))))
      go_wp2_with fail
      refine (HO.out _).mono ?_; rintro _ _ ⟨rfl, rfl⟩
      go_wp2_with fail
      go_ret
      exact ⟨rfl, HB3.out⟩
    · have HF := Lib.hid (fits_iff.1 (reply_yes HR.out))
      have hy0 := HF.out.1.1
      have hy1 : ¬ m ≤ y := by have := HF.out.1.2; omega
      have hy2 : ¬ y < 0 := by omega
      have HO1 := Lib.hid (fun w => ordersCall (b := true) (n := x) (m := y) (r := r - 1) w (orders_yes (by omega) (by omega) (by omega) (by omega) (by omega) (by omega) HF.out.2.1))
      have HO2 := Lib.hid (fun w => ordersCall (b := true) (n := n - 1 - x) (m := m - 1 - y) (r := r - 1) w (orders_yes (by omega) (by omega) (by omega) (by omega) (by omega) (by omega) HF.out.2.2))
      go_wp2_with fail
      refine (HO1.out _).mono ?_; rintro _ _ ⟨rfl, rfl⟩
      go_wp2_with fail
      refine (HO2.out _).mono ?_; rintro _ _ ⟨rfl, rfl⟩
      go_wp2_with fail
      refine (implOrderOf_any _ _).mono ?_; rintro _ w5 ⟨rfl, hb⟩
      have HB5 := Lib.hid (HB3.out.trans (hb.mono HB3.out.size)); clear hb
      obtain ⟨q1, S1, R1, b1, f1, p1⟩ := orderRes_is n
      obtain ⟨q2, S2, R2, b2, f2, p2⟩ := orderRes_is m
      have P1 := Lib.hid p1; have P2 := Lib.hid p2
      have HM := Lib.hid (fun w => implOrderOf_any m w)
      rw [f2] at HM
      rw [f1]
      clear p1 p2 f1 f2
      have HX1 := Lib.hid (SBlk.new w5 q1 S1 R1)
      have HBA : Hid (Below w.heap.size w (w5.alloc (.cells #[.int .i64 (q1 : Int), .string S1, .string R1] 41))) := HB5.out.alloc HB5.out.size _
      go_wp2_with fail
      refine (HM.out _).mono ?_; rintro _ w6 ⟨rfl, hb⟩
      have HX1b := Lib.hid (HX1.out.below hb (by simp))
      have HB6 := Lib.hid (HBA.out.trans (hb.mono HBA.out.size)); clear hb
      have HX2 := Lib.hid (SBlk.new w6 q2 S2 R2)
      have HBB : Hid (Below w.heap.size w (w6.alloc (.cells #[.int .i64 (q2 : Int), .string S2, .string R2] 41))) := HB6.out.alloc HB6.out.size _
      have HX1c := Lib.hid (HX1b.out.below ((Below.refl _ _).alloc (Nat.le_refl _) (.cells #[.int .i64 (q2 : Int), .string S2, .string R2] 41)) HX1b.out.cells.2.2.2.2.2.2)
      cases b1
      · go_wp2_with fail
        go_ret
        exact ⟨rfl, HBB.out⟩
      cases b2
      · go_wp2_with fail
        go_ret
        exact ⟨rfl, HBB.out⟩
      by_cases r3 : 3 < r
      · go_wp2_with fail
        go_ret
        exact ⟨rfl, HBB.out⟩
      obtain ⟨u1, v1, s1⟩ := P1.out rfl
      obtain ⟨u2, v2, s2⟩ := P2.out rfl
      obtain ⟨x', rfl⟩ := Int.eq_ofNat_of_zero_le (show 0 ≤ x by omega)
      obtain ⟨y', rfl⟩ := Int.eq_ofNat_of_zero_le (show 0 ≤ y by omega)
      obtain ⟨k, rfl⟩ : ∃ k : Nat, r = (k : Int) + 1 := ⟨(r - 1).toNat, by omega⟩
      subst u1; subst u2
      have hxq : x' < q1 := by omega
      have hyq : y' < q2 := by omega
      have ek : ((k : Int) + 1 - 1) = (k : Int) := by omega
      have HWN : Hid (Gs.wins k (stOf q1 S1 R1) [x'] (stOf q2 S2 R2) [y'] = true) := by
        have g1 := HF.out.2.1
        have g2 := HF.out.2.2
        rw [ek] at g1 g2
        rw [s1, s2]
        refine orders_win hxq hyq (alike_nat g1) (alike_nat ?_)
        have z1 : ((q1 - 1 - x' : Nat) : Int) = (q1 : Int) - 1 - x' := by omega
        have z2 : ((q2 - 1 - y' : Nat) : Int) = (q2 : Int) - 1 - y' := by omega
        rw [z1, z2]
        exact g2
      have HSW := Lib.hid (fun v u w h h' => SecondWins_one q1 x' S1 R1 q2 y' S2 R2 v u k w (by omega) v1 v2 hxq hyq h h')
      rw [HWN.out] at HSW
      unfold strV at HSW
      obtain ⟨c0, c1, c2, _, _, _, hl1⟩ := HX1c.out.cells
      clear HO1 HO2 HR HF s1 s2 v1 v2
      go_wp2_with fail
      have hA := heap_alloc_new (w6.alloc (.cells #[.int .i64 (q2 : Int), .string S2, .string R2] 41)) (.cells #[.int .i64 (x' : Int)] 3)
      have hBn := heap_alloc_new ((w6.alloc (.cells #[.int .i64 (q2 : Int), .string S2, .string R2] 41)).alloc (.cells #[.int .i64 (x' : Int)] 3)) (.cells #[.int .i64 (y' : Int)] 3)
      have o1 : OneAt (((w6.alloc (.cells #[.int .i64 (q2 : Int), .string S2, .string R2] 41)).alloc (.cells #[.int .i64 (x' : Int)] 3)).alloc (.cells #[.int .i64 (y' : Int)] 3)) (.slice (some ⟨w6.heap.size + 1, 0, none⟩) 1 1) x' := by
        refine ⟨⟨_, rfl, ?_⟩⟩
        have hh := Below.block ((Below.refl ((w6.alloc (.cells #[.int .i64 (q2 : Int), .string S2, .string R2] 41)).alloc (.cells #[.int .i64 (x' : Int)] 3)).heap.size ((w6.alloc (.cells #[.int .i64 (q2 : Int), .string S2, .string R2] 41)).alloc (.cells #[.int .i64 (x' : Int)] 3))).alloc (Nat.le_refl _) (.cells #[.int .i64 (y' : Int)] 3)) (w6.heap.size + 1) (by simp)
        unfold World.cell?
        rw [hh]
        simp only [size_alloc5] at hA
        rw [hA]
        rfl
      have o2 : OneAt (((w6.alloc (.cells #[.int .i64 (q2 : Int), .string S2, .string R2] 41)).alloc (.cells #[.int .i64 (x' : Int)] 3)).alloc (.cells #[.int .i64 (y' : Int)] 3)) (.slice (some ⟨w6.heap.size + 1 + 1, 0, none⟩) 1 1) y' := by
        refine ⟨⟨_, rfl, ?_⟩⟩
        unfold World.cell?
        simp only [size_alloc5] at hBn
        rw [hBn]
        rfl
      have HBC : Hid (Below w.heap.size w (((w6.alloc (.cells #[.int .i64 (q2 : Int), .string S2, .string R2] 41)).alloc (.cells #[.int .i64 (x' : Int)] 3)).alloc (.cells #[.int .i64 (y' : Int)] 3))) := (HBB.out.alloc HBB.out.size _).alloc (HBB.out.alloc HBB.out.size (.cells #[.int .i64 (x' : Int)] 3)).size _
      refine (HSW.out _ _ _ o1 o2).mono ?_; rintro _ w7 ⟨rfl, hb⟩
      have HB7 := Lib.hid (HBC.out.trans (hb.mono HBC.out.size))
      clear hb o1 o2 hA hBn
      go_wp2_with fail
      go_ret
      exact ⟨rfl, HB7.out⟩
  · go_enter Tryd.func8, Tryd.ntmps8
    go_wp2_with fail
    go_ret
    exact ⟨rfl, Below.refl _ _⟩
end Go.Proofs.YtagnikcnakdehaaDoor

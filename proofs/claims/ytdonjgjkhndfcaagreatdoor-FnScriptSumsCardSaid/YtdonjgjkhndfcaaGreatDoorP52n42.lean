/- The walk of the law, and what it leans on last. Conditions: those that each theorem states. -/
import Derived.Test.YtdonjgjkhndfcaaGreatDoorP52n35
import Derived.Test.YtdonjgjkhndfcaaGreatDoorP52n39
import Derived.Test.YtdonjgjkhndfcaaGreatDoorP52n40
import Derived.Test.YtdonjgjkhndfcaaGreatDoorP52n41
namespace Go.Proofs.YtdonjgjkhndfcaaGreatDoor
open Go.RowKit
set_option linter.unusedVariables false
set_option maxRecDepth 100000
theorem nat_valid52 {n : Int} {S R : ByteArray} (h : validB n S R = true) : ∃ m : Nat, n = (m : Int) := by
  have h0 := h
  unfold validB inB at h0
  simp at h0
  exact Int.eq_ofNat_of_zero_le (by omega)
theorem rowLen52 {k : IntKind} {w : World} {a : Option Addr} {len cap : Nat} {zs : List Int} (h : IsRow k w a len cap zs) : len ≤ maxLen := by
  rcases h with ⟨_, h, _⟩ | ⟨_, _, h1, h2, _⟩
  · rw [h]; decide
  · omega
theorem b_assoc52 (a b c : ByteArray) : a ++ b ++ c = a ++ (b ++ c) := by
  apply ByteArray.ext
  apply Array.toList_inj.1
  simp [ByteArray.data_append, Array.toList_append]
/-- Either there is no sum, or all is as the law's walk wants it. -/
theorem sm_case52 (n : Int) (S R : ByteArray) (m : Int) (T U : ByteArray) (hS : S.size ≤ 10 ∧ R.size ≤ 100) (hT : T.size ≤ 10 ∧ U.size ≤ 100) :
    ((∀ w, Calls Tryz.prog 5 #[strV n S R, strV m T U] w fun e w' => e = .returned sumNo ∧ Below w.heap.size w w') ∧ (∀ w, Calls Tryz.prog 6 #[strV n S R, strV m T U] w fun e w' => e = .returned sumNo ∧ Below w.heap.size w w')) ∨
    ∃ (n' m' : Nat), n = (n' : Int) ∧ m = (m' : Int) ∧ validB n' S R = true ∧ validB m' T U = true ∧ n' + m' ≤ 8 := by
  by_cases hno : validB n S R = false ∨ validB m T U = false
  · exact .inl ⟨fun w => implDisjoint_no n S R m T U w (by omega) (by omega) (by omega) (by omega) hno, fun w => specDisjoint_no n S R m T U w (by omega) (by omega) (by omega) (by omega) hno⟩
  · have hv : validB n S R = true := by
      cases h : validB n S R
      · exact absurd (.inl h) hno
      · rfl
    have hu : validB m T U = true := by
      cases h : validB m T U
      · exact absurd (.inr h) hno
      · rfl
    obtain ⟨n', rfl⟩ := nat_valid52 hv
    obtain ⟨m', rfl⟩ := nat_valid52 hu
    by_cases hnm : n' + m' ≤ 8
    · exact .inr ⟨n', m', rfl, rfl, hv, hu, hnm⟩
    · have hr : sumRes false n' S R m' T U = sumNo := by unfold sumRes sumNo; rw [if_neg hnm, decide_eq_false hnm]
      refine .inl ⟨fun w => ?_, fun w => ?_⟩
      · have := implDisjoint_any n' S R m' T U w hv hu
        rw [hr] at this
        exact this
      · have := specDisjoint_any n' S R m' T U w hv hu
        rw [hr] at this
        exact this
set_option maxHeartbeats 8000000 in
theorem fnScriptSums_walk (a0 : Option Addr) (len0 cap0 : Nat) (z0 : List Int) (w : World) (w0 : IsRow .u8 w a0 len0 cap0 z0) (ht : Tab w) :
    Calls Tryz.prog 3 #[.slice a0 len0 cap0] w fun e w' => e = .returned (.bool true) ∧ Below w.heap.size w w' := by
  have m0 := rowLen52 w0
  unfold maxLen at m0
  have W0 := Lib.hid w0; have HT := Lib.hid ht; clear w0 ht
  by_cases l0 : (len0 : Int) ≤ 1048576
  · go_enter Tryz.func3, Tryz.ntmps3
    go_wp2_with fail
    refine (DrawDisjointSum_any _ _ _ _ _ W0.out).mono ?_; rintro e w1 ⟨n, S, R, m, T, U, hn, hS, hm, hT, rfl, hb⟩
    have HB1 := Lib.hid hb; clear hb
    rcases sm_case52 n S R m T U hS hT with ⟨hi, hs⟩ | ⟨n, m, rfl, rfl, hv, hu, hnm⟩
    · have HI := Lib.hid hi
      have HS := Lib.hid hs
      clear hi hs hS hT hn hm
      unfold sumNo strV at HI HS
      unfold strV
      have hal : Below w1.heap.size w1 (w1.alloc (.cells #[.int .i64 n, .string S, .string R] 24)) := (Below.refl _ _).alloc (Nat.le_refl _) _
      have HB2 := Lib.hid (HB1.out.trans (hal.mono HB1.out.size))
      have HXa2 : Hid (SBlk (w1.alloc (.cells #[.int .i64 n, .string S, .string R] 24)) w1.heap.size n S R) := SBlk.new w1 n S R
      clear hal
      have hal : Below (w1.alloc (.cells #[.int .i64 n, .string S, .string R] 24)).heap.size (w1.alloc (.cells #[.int .i64 n, .string S, .string R] 24)) ((w1.alloc (.cells #[.int .i64 n, .string S, .string R] 24)).alloc (.cells #[.int .i64 m, .string T, .string U] 24)) := (Below.refl _ _).alloc (Nat.le_refl _) _
      have HB3 := Lib.hid (HB2.out.trans (hal.mono HB2.out.size))
      have HXa3 := Lib.hid (HXa2.out.below hal HXa2.out.cells.2.2.2.2.2.2)
      have HXb3 : Hid (SBlk ((w1.alloc (.cells #[.int .i64 n, .string S, .string R] 24)).alloc (.cells #[.int .i64 m, .string T, .string U] 24)) (w1.alloc (.cells #[.int .i64 n, .string S, .string R] 24)).heap.size m T U) := SBlk.new (w1.alloc (.cells #[.int .i64 n, .string S, .string R] 24)) m T U
      clear hal
      have HXb3 : Hid (SBlk ((w1.alloc (.cells #[.int .i64 n, .string S, .string R] 24)).alloc (.cells #[.int .i64 m, .string T, .string U] 24)) (w1.heap.size + 1) (m) T U) := by
        have h := HXb3.out
        rw [World.size_alloc] at h
        exact h
      obtain ⟨ca0, ca1, ca2, fa0, fa1, fa2, ba⟩ := HXa3.out.cells
      obtain ⟨cb0, cb1, cb2, fb0, fb1, fb2, bb⟩ := HXb3.out.cells
      go_wp2_with fail
      refine (HI.out _).mono ?_; rintro e w4 ⟨rfl, hb⟩
      have HB4 := Lib.hid (HB3.out.trans (hb.mono HB3.out.size))
      have HXa4 := Lib.hid (HXa3.out.below hb HXa3.out.cells.2.2.2.2.2.2)
      have HXb4 := Lib.hid (HXb3.out.below hb HXb3.out.cells.2.2.2.2.2.2)
      clear hb
      clear ca0 ca1 ca2 fa0 fa1 fa2 ba cb0 cb1 cb2 fb0 fb1 fb2 bb
      have hal : Below w4.heap.size w4 (w4.alloc (.cells #[.int .i64 0, .string ByteArray.empty, .string ByteArray.empty] 24)) := (Below.refl _ _).alloc (Nat.le_refl _) _
      have HB5 := Lib.hid (HB4.out.trans (hal.mono HB4.out.size))
      have HXa5 := Lib.hid (HXa4.out.below hal HXa4.out.cells.2.2.2.2.2.2)
      have HXb5 := Lib.hid (HXb4.out.below hal HXb4.out.cells.2.2.2.2.2.2)
      have HXc5 : Hid (SBlk (w4.alloc (.cells #[.int .i64 0, .string ByteArray.empty, .string ByteArray.empty] 24)) w4.heap.size 0 ByteArray.empty ByteArray.empty) := SBlk.new w4 0 ByteArray.empty ByteArray.empty
      clear hal
      obtain ⟨ca0, ca1, ca2, fa0, fa1, fa2, ba⟩ := HXa5.out.cells
      obtain ⟨cb0, cb1, cb2, fb0, fb1, fb2, bb⟩ := HXb5.out.cells
      go_wp2_with fail
      refine (HS.out _).mono ?_; rintro e w6 ⟨rfl, hb⟩
      have HB6 := Lib.hid (HB5.out.trans (hb.mono HB5.out.size))
      have HXa6 := Lib.hid (HXa5.out.below hb HXa5.out.cells.2.2.2.2.2.2)
      have HXb6 := Lib.hid (HXb5.out.below hb HXb5.out.cells.2.2.2.2.2.2)
      have HXc6 := Lib.hid (HXc5.out.below hb HXc5.out.cells.2.2.2.2.2.2)
      clear hb
      clear ca0 ca1 ca2 fa0 fa1 fa2 ba cb0 cb1 cb2 fb0 fb1 fb2 bb
      have hal : Below w6.heap.size w6 (w6.alloc (.cells #[.int .i64 0, .string ByteArray.empty, .string ByteArray.empty] 24)) := (Below.refl _ _).alloc (Nat.le_refl _) _
      have HB7 := Lib.hid (HB6.out.trans (hal.mono HB6.out.size))
      have HXa7 := Lib.hid (HXa6.out.below hal HXa6.out.cells.2.2.2.2.2.2)
      have HXb7 := Lib.hid (HXb6.out.below hal HXb6.out.cells.2.2.2.2.2.2)
      have HXc7 := Lib.hid (HXc6.out.below hal HXc6.out.cells.2.2.2.2.2.2)
      have HXd7 : Hid (SBlk (w6.alloc (.cells #[.int .i64 0, .string ByteArray.empty, .string ByteArray.empty] 24)) w6.heap.size 0 ByteArray.empty ByteArray.empty) := SBlk.new w6 0 ByteArray.empty ByteArray.empty
      clear hal
      obtain ⟨cc0, cc1, cc2, fc0, fc1, fc2, bc⟩ := HXc7.out.cells
      obtain ⟨cd0, cd1, cd2, fd0, fd1, fd2, bd⟩ := HXd7.out.cells
      go_wp2_with fail
      go_ret
      exact ⟨ret_bool (by simp), HB7.out⟩
    · obtain ⟨p, CS, CR, DR, CL, PL, OL, K, Y, P, ES, ER, c2, same, F, G, FC, FD, FE, sm⟩ := sm_ok n S R m T U hv hu hnm
      have HI := Lib.hid sm.im
      have HS := Lib.hid sm.sp
      have HSC := Lib.hid sm.st
      have HOS := Lib.hid sm.os
      have HPR := Lib.hid sm.pr
      have HFA := Lib.hid sm.fa
      have HFB := Lib.hid sm.fb
      have HFC := Lib.hid sm.fc
      have HFD := Lib.hid sm.fd
      have HFE := Lib.hid sm.fe
      have HPI := Lib.hid sm.pi
      have HSY := Lib.hid sm.sy
      have HSH := Lib.hid sm.sh
      obtain ⟨zF, zG, zC, zD, zE⟩ := sm.fz
      have zL0 := numsB_size CL sm.cl.2
      have zP0 := numsB_size PL sm.pl.2
      have zL : (numsB CL).size ≤ 2300 := by have := sm.cl.1; omega
      have zP : (numsB PL).size ≤ 2300 := by have := sm.pl.1; omega
      have zY : (numsB [Y]).size ≤ 21 := numsB_big Y sm.yz
      have zK : (numsB [K]).size ≤ 21 := numsB_big K (by have := sm.kz; omega)
      have zO : same = true → (numsB OL).size ≤ 2300 := fun h => by have h1 := numsB_size OL (sm.ol h).2; have := (sm.ol h).1; omega
      have HNL := Lib.hid (fun v w hv ht => implFmt_nums v CL w hv sm.cl.1 sm.cl.2 ht)
      have HNP := Lib.hid (fun v w hv ht => implFmt_nums v PL w hv sm.pl.1 sm.pl.2 ht)
      have HNK := Lib.hid (fun v w hv ht => implFmt_big v K w hv (by have := sm.kz; omega) ht)
      have HNY := Lib.hid (fun v w hv ht => implFmt_big v Y w hv sm.yz ht)
      have HNO := Lib.hid (fun (h : same = true) v w hv ht => implFmt_nums v OL w hv (sm.ol h).1 (sm.ol h).2 ht)
      have HGL := Lib.hid (fun w => gsLine52 FE c2 (by omega) w)
      have hGz : ((if c2 = true then FE else ⟨#[110, 111]⟩) ++ ⟨#[10]⟩ : ByteArray).size ≤ 80 := by
        rw [ByteArray.size_append]
        cases c2
        · show 2 + 1 ≤ 80; omega
        · show FE.size + 1 ≤ 80; omega
      have hlines : (linesB (sumsLines F G)).size ≤ 20000 := by
        rw [linesB_size]
        simp only [sumsLines, List.map_cons, List.map_nil, List.sum_cons, List.sum_nil, ByteArray.size_append]
        show 5 + F.size + 1 + (6 + G.size + 1 + (3 + 1 + (6 + 1 + (6 + 1 + (10 + 1 + (5 + F.size + 1 + (7 + 1 + (5 + F.size + 1 + (7 + 1 + (5 + F.size + 1 + (5 + 1 + 0))))))))))) ≤ 20000
        omega
      have hEz : (if c2 = true then FE else ⟨#[110, 111]⟩ : ByteArray).size ≤ 73 := by
        cases c2
        · show 2 ≤ 73; omega
        · exact zE
      have hSz : (if same = true then numsB OL else ⟨#[110, 111, 110, 101]⟩ : ByteArray).size ≤ 2300 := by
        cases same
        · show 4 ≤ 2300; omega
        · exact zO rfl
      have houts : ∀ j, (outT ((sumsAns FC (numsB CL) (numsB [K]) (numsB PL) (numsB [Y]) FD (if c2 = true then FE else ⟨#[110, 111]⟩) (if same = true then numsB OL else ⟨#[110, 111, 110, 101]⟩)).take j)).size ≤ 40000 := fun j => by
        refine Nat.le_trans (outT_take _ j) ?_
        rw [outT_size]
        simp only [sumsAns, List.map_cons, List.map_nil, List.sum_cons, List.sum_nil, ByteArray.size_append]
        show 2 + 1 + (2 + 1 + (FC.size + 1 + ((numsB CL).size + 3 + (numsB [K]).size + 1 + ((numsB PL).size + 1 + ((numsB [Y]).size + 1 + (2 + 1 + (FD.size + 1 + (2 + 1 + (_ + 1 + (2 + 1 + (_ + 1 + 0))))))))))) ≤ 40000
        omega
      have HRS := Lib.hid (fun w ht => RunScript_lines (sumsLines F G) (sumsAns FC (numsB CL) (numsB [K]) (numsB PL) (numsB [Y]) FD (if c2 = true then FE else ⟨#[110, 111]⟩) (if same = true then numsB OL else ⟨#[110, 111, 110, 101]⟩)) (sumsLines_no _ _ sm.no.1 sm.no.2) (sumsLines_ne _ _) (by show 12 ≤ 99; omega) hlines houts w (sm.run w ht))
      rw [← sumsScript, ← sumsOut] at HRS
      clear hlines houts sm hv hu hnm hS hT hn hm zL0 zP0 hEz hSz zE
      obtain ⟨NL, hNL⟩ : ∃ N, numsB CL = N := ⟨_, rfl⟩
      obtain ⟨NP, hNP⟩ : ∃ N, numsB PL = N := ⟨_, rfl⟩
      obtain ⟨NK, hNK⟩ : ∃ N, numsB [K] = N := ⟨_, rfl⟩
      obtain ⟨NY, hNY⟩ : ∃ N, numsB [Y] = N := ⟨_, rfl⟩
      obtain ⟨NO, hNO⟩ : ∃ N, numsB OL = N := ⟨_, rfl⟩
      obtain ⟨GE, hGE⟩ : ∃ N, (if c2 = true then FE else ⟨#[110, 111]⟩) ++ (⟨#[10]⟩ : ByteArray) = N := ⟨_, rfl⟩
      rw [hNL] at HNL HRS zL
      rw [hNP] at HNP HRS zP
      rw [hNK] at HNK HRS zK
      rw [hNY] at HNY HRS zY
      rw [hNO] at HNO HRS zO
      rw [hGE] at HGL HRS hGz
      clear hNL hNP hNK hNY hNO hGE
      unfold strV at HI HS HSC HOS HPR HFA HFB HFC HFD HFE HPI HSY HSH
      unfold strV
      have hal : Below w1.heap.size w1 (w1.alloc (.cells #[.int .i64 (n : Int), .string S, .string R] 24)) := (Below.refl _ _).alloc (Nat.le_refl _) _
      have HB2 := Lib.hid (HB1.out.trans (hal.mono HB1.out.size))
      have HXa2 : Hid (SBlk (w1.alloc (.cells #[.int .i64 (n : Int), .string S, .string R] 24)) w1.heap.size (n : Int) S R) := SBlk.new w1 (n : Int) S R
      clear hal
      have hal : Below (w1.alloc (.cells #[.int .i64 (n : Int), .string S, .string R] 24)).heap.size (w1.alloc (.cells #[.int .i64 (n : Int), .string S, .string R] 24)) ((w1.alloc (.cells #[.int .i64 (n : Int), .string S, .string R] 24)).alloc (.cells #[.int .i64 (m : Int), .string T, .string U] 24)) := (Below.refl _ _).alloc (Nat.le_refl _) _
      have HB3 := Lib.hid (HB2.out.trans (hal.mono HB2.out.size))
      have HXa3 := Lib.hid (HXa2.out.below hal HXa2.out.cells.2.2.2.2.2.2)
      have HXb3 : Hid (SBlk ((w1.alloc (.cells #[.int .i64 (n : Int), .string S, .string R] 24)).alloc (.cells #[.int .i64 (m : Int), .string T, .string U] 24)) (w1.alloc (.cells #[.int .i64 (n : Int), .string S, .string R] 24)).heap.size (m : Int) T U) := SBlk.new (w1.alloc (.cells #[.int .i64 (n : Int), .string S, .string R] 24)) (m : Int) T U
      clear hal
      have HXb3 : Hid (SBlk ((w1.alloc (.cells #[.int .i64 (n : Int), .string S, .string R] 24)).alloc (.cells #[.int .i64 (m : Int), .string T, .string U] 24)) (w1.heap.size + 1) ((m : Int)) T U) := by
        have h := HXb3.out
        rw [World.size_alloc] at h
        exact h
      obtain ⟨ca0, ca1, ca2, fa0, fa1, fa2, ba⟩ := HXa3.out.cells
      obtain ⟨cb0, cb1, cb2, fb0, fb1, fb2, bb⟩ := HXb3.out.cells
      go_wp2_with fail
      refine (HI.out _).mono ?_; rintro e w4 ⟨rfl, hb⟩
      have HB4 := Lib.hid (HB3.out.trans (hb.mono HB3.out.size))
      have HXa4 := Lib.hid (HXa3.out.below hb HXa3.out.cells.2.2.2.2.2.2)
      have HXb4 := Lib.hid (HXb3.out.below hb HXb3.out.cells.2.2.2.2.2.2)
      clear hb
      clear ca0 ca1 ca2 fa0 fa1 fa2 ba cb0 cb1 cb2 fb0 fb1 fb2 bb
      have hal : Below w4.heap.size w4 (w4.alloc (.cells #[.int .i64 (p : Int), .string CS, .string CR] 24)) := (Below.refl _ _).alloc (Nat.le_refl _) _
      have HB5 := Lib.hid (HB4.out.trans (hal.mono HB4.out.size))
      have HXa5 := Lib.hid (HXa4.out.below hal HXa4.out.cells.2.2.2.2.2.2)
      have HXb5 := Lib.hid (HXb4.out.below hal HXb4.out.cells.2.2.2.2.2.2)
      have HXc5 : Hid (SBlk (w4.alloc (.cells #[.int .i64 (p : Int), .string CS, .string CR] 24)) w4.heap.size (p : Int) CS CR) := SBlk.new w4 (p : Int) CS CR
      clear hal
      obtain ⟨ca0, ca1, ca2, fa0, fa1, fa2, ba⟩ := HXa5.out.cells
      obtain ⟨cb0, cb1, cb2, fb0, fb1, fb2, bb⟩ := HXb5.out.cells
      go_wp2_with fail
      refine (HS.out _).mono ?_; rintro e w6 ⟨rfl, hb⟩
      have HB6 := Lib.hid (HB5.out.trans (hb.mono HB5.out.size))
      have HXa6 := Lib.hid (HXa5.out.below hb HXa5.out.cells.2.2.2.2.2.2)
      have HXb6 := Lib.hid (HXb5.out.below hb HXb5.out.cells.2.2.2.2.2.2)
      have HXc6 := Lib.hid (HXc5.out.below hb HXc5.out.cells.2.2.2.2.2.2)
      clear hb
      clear ca0 ca1 ca2 fa0 fa1 fa2 ba cb0 cb1 cb2 fb0 fb1 fb2 bb
      have hal : Below w6.heap.size w6 (w6.alloc (.cells #[.int .i64 (p : Int), .string CS, .string CR] 24)) := (Below.refl _ _).alloc (Nat.le_refl _) _
      have HB7 := Lib.hid (HB6.out.trans (hal.mono HB6.out.size))
      have HXa7 := Lib.hid (HXa6.out.below hal HXa6.out.cells.2.2.2.2.2.2)
      have HXb7 := Lib.hid (HXb6.out.below hal HXb6.out.cells.2.2.2.2.2.2)
      have HXc7 := Lib.hid (HXc6.out.below hal HXc6.out.cells.2.2.2.2.2.2)
      have HXd7 : Hid (SBlk (w6.alloc (.cells #[.int .i64 (p : Int), .string CS, .string CR] 24)) w6.heap.size (p : Int) CS CR) := SBlk.new w6 (p : Int) CS CR
      clear hal
      obtain ⟨cc0, cc1, cc2, fc0, fc1, fc2, bc⟩ := HXc7.out.cells
      obtain ⟨cd0, cd1, cd2, fd0, fd1, fd2, bd⟩ := HXd7.out.cells
      go_wp2_with fail
      refine (HSC.out _).mono ?_; rintro e w8 ⟨v, rfl, hn1, hb⟩
      have HB8 := Lib.hid (HB7.out.trans (hb.mono HB7.out.size))
      have HXa8 := Lib.hid (HXa7.out.below hb HXa7.out.cells.2.2.2.2.2.2)
      have HXb8 := Lib.hid (HXb7.out.below hb HXb7.out.cells.2.2.2.2.2.2)
      have HXc8 := Lib.hid (HXc7.out.below hb HXc7.out.cells.2.2.2.2.2.2)
      have HXd8 := Lib.hid (HXd7.out.below hb HXd7.out.cells.2.2.2.2.2.2)
      clear hb
      clear cc0 cc1 cc2 fc0 fc1 fc2 bc cd0 cd1 cd2 fd0 fd1 fd2 bd
      have HNv8 := Lib.hid hn1
      clear hn1
      obtain ⟨ca0, ca1, ca2, fa0, fa1, fa2, ba⟩ := HXa8.out.cells
      obtain ⟨cb0, cb1, cb2, fb0, fb1, fb2, bb⟩ := HXb8.out.cells
      go_wp2_with fail
      refine (HOS.out _).mono ?_; rintro e w9 ⟨rfl, hb⟩
      have HB9 := Lib.hid (HB8.out.trans (hb.mono HB8.out.size))
      have HXa9 := Lib.hid (HXa8.out.below hb HXa8.out.cells.2.2.2.2.2.2)
      have HXb9 := Lib.hid (HXb8.out.below hb HXb8.out.cells.2.2.2.2.2.2)
      have HXc9 := Lib.hid (HXc8.out.below hb HXc8.out.cells.2.2.2.2.2.2)
      have HNv9 := Lib.hid (HNv8.out.below hb)
      clear hb
      clear ca0 ca1 ca2 fa0 fa1 fa2 ba cb0 cb1 cb2 fb0 fb1 fb2 bb
      have hal : Below w9.heap.size w9 (w9.alloc (.cells #[.int .i64 (p : Int), .string CS, .string DR] 24)) := (Below.refl _ _).alloc (Nat.le_refl _) _
      have HB10 := Lib.hid (HB9.out.trans (hal.mono HB9.out.size))
      have HXa10 := Lib.hid (HXa9.out.below hal HXa9.out.cells.2.2.2.2.2.2)
      have HXb10 := Lib.hid (HXb9.out.below hal HXb9.out.cells.2.2.2.2.2.2)
      have HXc10 := Lib.hid (HXc9.out.below hal HXc9.out.cells.2.2.2.2.2.2)
      have HNv10 := Lib.hid (HNv9.out.below hal)
      have HXo10 : Hid (SBlk (w9.alloc (.cells #[.int .i64 (p : Int), .string CS, .string DR] 24)) w9.heap.size (p : Int) CS DR) := SBlk.new w9 (p : Int) CS DR
      clear hal
      obtain ⟨ca0, ca1, ca2, fa0, fa1, fa2, ba⟩ := HXa10.out.cells
      obtain ⟨cb0, cb1, cb2, fb0, fb1, fb2, bb⟩ := HXb10.out.cells
      go_wp2_with fail
      refine (HPR.out _).mono ?_; rintro e w11 ⟨rfl, hb⟩
      have HB11 := Lib.hid (HB10.out.trans (hb.mono HB10.out.size))
      have HXa11 := Lib.hid (HXa10.out.below hb HXa10.out.cells.2.2.2.2.2.2)
      have HXb11 := Lib.hid (HXb10.out.below hb HXb10.out.cells.2.2.2.2.2.2)
      have HXc11 := Lib.hid (HXc10.out.below hb HXc10.out.cells.2.2.2.2.2.2)
      have HXo11 := Lib.hid (HXo10.out.below hb HXo10.out.cells.2.2.2.2.2.2)
      have HNv11 := Lib.hid (HNv10.out.below hb)
      clear hb
      clear ca0 ca1 ca2 fa0 fa1 fa2 ba cb0 cb1 cb2 fb0 fb1 fb2 bb
      have hal : Below w11.heap.size w11 (w11.alloc (.cells #[.int .i64 P, .string ES, .string ER] 24)) := (Below.refl _ _).alloc (Nat.le_refl _) _
      have HB12 := Lib.hid (HB11.out.trans (hal.mono HB11.out.size))
      have HXa12 := Lib.hid (HXa11.out.below hal HXa11.out.cells.2.2.2.2.2.2)
      have HXb12 := Lib.hid (HXb11.out.below hal HXb11.out.cells.2.2.2.2.2.2)
      have HXc12 := Lib.hid (HXc11.out.below hal HXc11.out.cells.2.2.2.2.2.2)
      have HXo12 := Lib.hid (HXo11.out.below hal HXo11.out.cells.2.2.2.2.2.2)
      have HNv12 := Lib.hid (HNv11.out.below hal)
      have HXq12 : Hid (SBlk (w11.alloc (.cells #[.int .i64 P, .string ES, .string ER] 24)) w11.heap.size P ES ER) := SBlk.new w11 P ES ER
      clear hal
      obtain ⟨ca0, ca1, ca2, fa0, fa1, fa2, ba⟩ := HXa12.out.cells
      have ha1 : ((⟨#[108, 101, 102, 116, 32]⟩ : ByteArray) ++ F : ByteArray).size ≤ 100 := by
        simp only [ByteArray.size_append]
        show 5 + F.size ≤ 100
        omega
      have ha2 : ((⟨#[108, 101, 102, 116, 32]⟩ : ByteArray) ++ F ++ ⟨#[10]⟩ : ByteArray).size ≤ 100 := by
        simp only [ByteArray.size_append]
        show 5 + F.size + 1 ≤ 100
        omega
      go_wp2_with fail
      refine (HFA.out _).mono ?_; rintro e w13 ⟨rfl, hb⟩
      have HB13 := Lib.hid (HB12.out.trans (hb.mono HB12.out.size))
      have HXa13 := Lib.hid (HXa12.out.below hb HXa12.out.cells.2.2.2.2.2.2)
      have HXb13 := Lib.hid (HXb12.out.below hb HXb12.out.cells.2.2.2.2.2.2)
      have HXc13 := Lib.hid (HXc12.out.below hb HXc12.out.cells.2.2.2.2.2.2)
      have HXo13 := Lib.hid (HXo12.out.below hb HXo12.out.cells.2.2.2.2.2.2)
      have HXq13 := Lib.hid (HXq12.out.below hb HXq12.out.cells.2.2.2.2.2.2)
      have HNv13 := Lib.hid (HNv12.out.below hb)
      clear hb
      clear ca0 ca1 ca2 fa0 fa1 fa2 ba
      obtain ⟨cb0, cb1, cb2, fb0, fb1, fb2, bb⟩ := HXb13.out.cells
      have ht1 : (((⟨#[108, 101, 102, 116, 32]⟩ ++ F ++ ⟨#[10]⟩) : ByteArray) ++ ⟨#[114, 105, 103, 104, 116, 32]⟩ : ByteArray).size ≤ 20000 := by
        simp only [ByteArray.size_append]
        show (5 + F.size + 1) + 6 ≤ 20000
        omega
      have ht2 : (((⟨#[108, 101, 102, 116, 32]⟩ ++ F ++ ⟨#[10]⟩) : ByteArray) ++ ⟨#[114, 105, 103, 104, 116, 32]⟩ ++ G : ByteArray).size ≤ 20000 := by
        simp only [ByteArray.size_append]
        show (5 + F.size + 1) + 6 + G.size ≤ 20000
        omega
      have ht3 : (((⟨#[108, 101, 102, 116, 32]⟩ ++ F ++ ⟨#[10]⟩) : ByteArray) ++ ⟨#[114, 105, 103, 104, 116, 32]⟩ ++ G ++ ⟨#[10, 115, 117, 109, 10, 115, 116, 97, 98, 108, 101, 10, 112, 105, 101, 99, 101, 115, 10, 115, 121, 109, 109, 101, 116, 114, 105, 101, 115, 10]⟩ : ByteArray).size ≤ 20000 := by
        simp only [ByteArray.size_append]
        show (5 + F.size + 1) + 6 + G.size + 30 ≤ 20000
        omega
      have ht4 : (((⟨#[108, 101, 102, 116, 32]⟩ ++ F ++ ⟨#[10]⟩) : ByteArray) ++ ⟨#[114, 105, 103, 104, 116, 32]⟩ ++ G ++ ⟨#[10, 115, 117, 109, 10, 115, 116, 97, 98, 108, 101, 10, 112, 105, 101, 99, 101, 115, 10, 115, 121, 109, 109, 101, 116, 114, 105, 101, 115, 10]⟩ ++ (⟨#[108, 101, 102, 116, 32]⟩ ++ F ++ ⟨#[10]⟩) : ByteArray).size ≤ 20000 := by
        simp only [ByteArray.size_append]
        show (5 + F.size + 1) + 6 + G.size + 30 + (5 + F.size + 1) ≤ 20000
        omega
      have ht5 : (((⟨#[108, 101, 102, 116, 32]⟩ ++ F ++ ⟨#[10]⟩) : ByteArray) ++ ⟨#[114, 105, 103, 104, 116, 32]⟩ ++ G ++ ⟨#[10, 115, 117, 109, 10, 115, 116, 97, 98, 108, 101, 10, 112, 105, 101, 99, 101, 115, 10, 115, 121, 109, 109, 101, 116, 114, 105, 101, 115, 10]⟩ ++ (⟨#[108, 101, 102, 116, 32]⟩ ++ F ++ ⟨#[10]⟩) ++ ⟨#[111, 114, 100, 101, 114, 101, 100, 10]⟩ : ByteArray).size ≤ 20000 := by
        simp only [ByteArray.size_append]
        show (5 + F.size + 1) + 6 + G.size + 30 + (5 + F.size + 1) + 8 ≤ 20000
        omega
      have ht6 : (((⟨#[108, 101, 102, 116, 32]⟩ ++ F ++ ⟨#[10]⟩) : ByteArray) ++ ⟨#[114, 105, 103, 104, 116, 32]⟩ ++ G ++ ⟨#[10, 115, 117, 109, 10, 115, 116, 97, 98, 108, 101, 10, 112, 105, 101, 99, 101, 115, 10, 115, 121, 109, 109, 101, 116, 114, 105, 101, 115, 10]⟩ ++ (⟨#[108, 101, 102, 116, 32]⟩ ++ F ++ ⟨#[10]⟩) ++ ⟨#[111, 114, 100, 101, 114, 101, 100, 10]⟩ ++ (⟨#[108, 101, 102, 116, 32]⟩ ++ F ++ ⟨#[10]⟩) : ByteArray).size ≤ 20000 := by
        simp only [ByteArray.size_append]
        show (5 + F.size + 1) + 6 + G.size + 30 + (5 + F.size + 1) + 8 + (5 + F.size + 1) ≤ 20000
        omega
      have ht7 : (((⟨#[108, 101, 102, 116, 32]⟩ ++ F ++ ⟨#[10]⟩) : ByteArray) ++ ⟨#[114, 105, 103, 104, 116, 32]⟩ ++ G ++ ⟨#[10, 115, 117, 109, 10, 115, 116, 97, 98, 108, 101, 10, 112, 105, 101, 99, 101, 115, 10, 115, 121, 109, 109, 101, 116, 114, 105, 101, 115, 10]⟩ ++ (⟨#[108, 101, 102, 116, 32]⟩ ++ F ++ ⟨#[10]⟩) ++ ⟨#[111, 114, 100, 101, 114, 101, 100, 10]⟩ ++ (⟨#[108, 101, 102, 116, 32]⟩ ++ F ++ ⟨#[10]⟩) ++ ⟨#[112, 114, 111, 100, 117, 99, 116, 10]⟩ : ByteArray).size ≤ 20000 := by
        simp only [ByteArray.size_append]
        show (5 + F.size + 1) + 6 + G.size + 30 + (5 + F.size + 1) + 8 + (5 + F.size + 1) + 8 ≤ 20000
        omega
      have ht8 : (((⟨#[108, 101, 102, 116, 32]⟩ ++ F ++ ⟨#[10]⟩) : ByteArray) ++ ⟨#[114, 105, 103, 104, 116, 32]⟩ ++ G ++ ⟨#[10, 115, 117, 109, 10, 115, 116, 97, 98, 108, 101, 10, 112, 105, 101, 99, 101, 115, 10, 115, 121, 109, 109, 101, 116, 114, 105, 101, 115, 10]⟩ ++ (⟨#[108, 101, 102, 116, 32]⟩ ++ F ++ ⟨#[10]⟩) ++ ⟨#[111, 114, 100, 101, 114, 101, 100, 10]⟩ ++ (⟨#[108, 101, 102, 116, 32]⟩ ++ F ++ ⟨#[10]⟩) ++ ⟨#[112, 114, 111, 100, 117, 99, 116, 10]⟩ ++ (⟨#[108, 101, 102, 116, 32]⟩ ++ F ++ ⟨#[10]⟩) : ByteArray).size ≤ 20000 := by
        simp only [ByteArray.size_append]
        show (5 + F.size + 1) + 6 + G.size + 30 + (5 + F.size + 1) + 8 + (5 + F.size + 1) + 8 + (5 + F.size + 1) ≤ 20000
        omega
      have ht9 : (((⟨#[108, 101, 102, 116, 32]⟩ ++ F ++ ⟨#[10]⟩) : ByteArray) ++ ⟨#[114, 105, 103, 104, 116, 32]⟩ ++ G ++ ⟨#[10, 115, 117, 109, 10, 115, 116, 97, 98, 108, 101, 10, 112, 105, 101, 99, 101, 115, 10, 115, 121, 109, 109, 101, 116, 114, 105, 101, 115, 10]⟩ ++ (⟨#[108, 101, 102, 116, 32]⟩ ++ F ++ ⟨#[10]⟩) ++ ⟨#[111, 114, 100, 101, 114, 101, 100, 10]⟩ ++ (⟨#[108, 101, 102, 116, 32]⟩ ++ F ++ ⟨#[10]⟩) ++ ⟨#[112, 114, 111, 100, 117, 99, 116, 10]⟩ ++ (⟨#[108, 101, 102, 116, 32]⟩ ++ F ++ ⟨#[10]⟩) ++ ⟨#[115, 104, 97, 112, 101, 10]⟩ : ByteArray).size ≤ 20000 := by
        simp only [ByteArray.size_append]
        show (5 + F.size + 1) + 6 + G.size + 30 + (5 + F.size + 1) + 8 + (5 + F.size + 1) + 8 + (5 + F.size + 1) + 6 ≤ 20000
        omega
      go_wp2_with fail
      refine (HFB.out _).mono ?_; rintro e w14 ⟨rfl, hb⟩
      have HB14 := Lib.hid (HB13.out.trans (hb.mono HB13.out.size))
      have HXa14 := Lib.hid (HXa13.out.below hb HXa13.out.cells.2.2.2.2.2.2)
      have HXb14 := Lib.hid (HXb13.out.below hb HXb13.out.cells.2.2.2.2.2.2)
      have HXc14 := Lib.hid (HXc13.out.below hb HXc13.out.cells.2.2.2.2.2.2)
      have HXo14 := Lib.hid (HXo13.out.below hb HXo13.out.cells.2.2.2.2.2.2)
      have HXq14 := Lib.hid (HXq13.out.below hb HXq13.out.cells.2.2.2.2.2.2)
      have HNv14 := Lib.hid (HNv13.out.below hb)
      clear hb
      clear cb0 cb1 cb2 fb0 fb1 fb2 bb
      go_upto_region 13 with fail
      clear ht1 ht2 ht3 ht4 ht5 ht6 ht7 ht8 ht9 ha1 ha2
      have hl1 : ((⟨#[111, 107, 10, 111, 107, 10]⟩ : ByteArray) ++ FC : ByteArray).size ≤ 20000 := by
        simp only [ByteArray.size_append]
        show 6 + FC.size ≤ 20000
        omega
      have hl2 : ((⟨#[111, 107, 10, 111, 107, 10]⟩ : ByteArray) ++ FC ++ ⟨#[10]⟩ : ByteArray).size ≤ 20000 := by
        simp only [ByteArray.size_append]
        show 6 + FC.size + 1 ≤ 20000
        omega
      have hl3 : ((⟨#[111, 107, 10, 111, 107, 10]⟩ : ByteArray) ++ FC ++ ⟨#[10]⟩ ++ NL : ByteArray).size ≤ 20000 := by
        simp only [ByteArray.size_append]
        show 6 + FC.size + 1 + NL.size ≤ 20000
        omega
      have hl4 : ((⟨#[111, 107, 10, 111, 107, 10]⟩ : ByteArray) ++ FC ++ ⟨#[10]⟩ ++ NL ++ ⟨#[32, 47, 32]⟩ : ByteArray).size ≤ 20000 := by
        simp only [ByteArray.size_append]
        show 6 + FC.size + 1 + NL.size + 3 ≤ 20000
        omega
      have hl5 : ((⟨#[111, 107, 10, 111, 107, 10]⟩ : ByteArray) ++ FC ++ ⟨#[10]⟩ ++ NL ++ ⟨#[32, 47, 32]⟩ ++ NK : ByteArray).size ≤ 20000 := by
        simp only [ByteArray.size_append]
        show 6 + FC.size + 1 + NL.size + 3 + NK.size ≤ 20000
        omega
      have hl6 : ((⟨#[111, 107, 10, 111, 107, 10]⟩ : ByteArray) ++ FC ++ ⟨#[10]⟩ ++ NL ++ ⟨#[32, 47, 32]⟩ ++ NK ++ ⟨#[10]⟩ : ByteArray).size ≤ 20000 := by
        simp only [ByteArray.size_append]
        show 6 + FC.size + 1 + NL.size + 3 + NK.size + 1 ≤ 20000
        omega
      have hl7 : ((⟨#[111, 107, 10, 111, 107, 10]⟩ : ByteArray) ++ FC ++ ⟨#[10]⟩ ++ NL ++ ⟨#[32, 47, 32]⟩ ++ NK ++ ⟨#[10]⟩ ++ NP : ByteArray).size ≤ 20000 := by
        simp only [ByteArray.size_append]
        show 6 + FC.size + 1 + NL.size + 3 + NK.size + 1 + NP.size ≤ 20000
        omega
      have hl8 : ((⟨#[111, 107, 10, 111, 107, 10]⟩ : ByteArray) ++ FC ++ ⟨#[10]⟩ ++ NL ++ ⟨#[32, 47, 32]⟩ ++ NK ++ ⟨#[10]⟩ ++ NP ++ ⟨#[10]⟩ : ByteArray).size ≤ 20000 := by
        simp only [ByteArray.size_append]
        show 6 + FC.size + 1 + NL.size + 3 + NK.size + 1 + NP.size + 1 ≤ 20000
        omega
      have hl9 : ((⟨#[111, 107, 10, 111, 107, 10]⟩ : ByteArray) ++ FC ++ ⟨#[10]⟩ ++ NL ++ ⟨#[32, 47, 32]⟩ ++ NK ++ ⟨#[10]⟩ ++ NP ++ ⟨#[10]⟩ ++ NY : ByteArray).size ≤ 20000 := by
        simp only [ByteArray.size_append]
        show 6 + FC.size + 1 + NL.size + 3 + NK.size + 1 + NP.size + 1 + NY.size ≤ 20000
        omega
      have hl10 : ((⟨#[111, 107, 10, 111, 107, 10]⟩ : ByteArray) ++ FC ++ ⟨#[10]⟩ ++ NL ++ ⟨#[32, 47, 32]⟩ ++ NK ++ ⟨#[10]⟩ ++ NP ++ ⟨#[10]⟩ ++ NY ++ ⟨#[10, 111, 107, 10]⟩ : ByteArray).size ≤ 20000 := by
        simp only [ByteArray.size_append]
        show 6 + FC.size + 1 + NL.size + 3 + NK.size + 1 + NP.size + 1 + NY.size + 4 ≤ 20000
        omega
      have hl11 : ((⟨#[111, 107, 10, 111, 107, 10]⟩ : ByteArray) ++ FC ++ ⟨#[10]⟩ ++ NL ++ ⟨#[32, 47, 32]⟩ ++ NK ++ ⟨#[10]⟩ ++ NP ++ ⟨#[10]⟩ ++ NY ++ ⟨#[10, 111, 107, 10]⟩ ++ FD : ByteArray).size ≤ 20000 := by
        simp only [ByteArray.size_append]
        show 6 + FC.size + 1 + NL.size + 3 + NK.size + 1 + NP.size + 1 + NY.size + 4 + FD.size ≤ 20000
        omega
      have hl12 : ((⟨#[111, 107, 10, 111, 107, 10]⟩ : ByteArray) ++ FC ++ ⟨#[10]⟩ ++ NL ++ ⟨#[32, 47, 32]⟩ ++ NK ++ ⟨#[10]⟩ ++ NP ++ ⟨#[10]⟩ ++ NY ++ ⟨#[10, 111, 107, 10]⟩ ++ FD ++ ⟨#[10, 111, 107, 10]⟩ : ByteArray).size ≤ 20000 := by
        simp only [ByteArray.size_append]
        show 6 + FC.size + 1 + NL.size + 3 + NK.size + 1 + NP.size + 1 + NY.size + 4 + FD.size + 4 ≤ 20000
        omega
      have hl13 : ((⟨#[111, 107, 10, 111, 107, 10]⟩ : ByteArray) ++ FC ++ ⟨#[10]⟩ ++ NL ++ ⟨#[32, 47, 32]⟩ ++ NK ++ ⟨#[10]⟩ ++ NP ++ ⟨#[10]⟩ ++ NY ++ ⟨#[10, 111, 107, 10]⟩ ++ FD ++ ⟨#[10, 111, 107, 10]⟩ ++ GE : ByteArray).size ≤ 20000 := by
        simp only [ByteArray.size_append]
        show 6 + FC.size + 1 + NL.size + 3 + NK.size + 1 + NP.size + 1 + NY.size + 4 + FD.size + 4 + GE.size ≤ 20000
        omega
      have hl14 : ((⟨#[111, 107, 10, 111, 107, 10]⟩ : ByteArray) ++ FC ++ ⟨#[10]⟩ ++ NL ++ ⟨#[32, 47, 32]⟩ ++ NK ++ ⟨#[10]⟩ ++ NP ++ ⟨#[10]⟩ ++ NY ++ ⟨#[10, 111, 107, 10]⟩ ++ FD ++ ⟨#[10, 111, 107, 10]⟩ ++ GE ++ ⟨#[111, 107, 10]⟩ : ByteArray).size ≤ 20000 := by
        simp only [ByteArray.size_append]
        show 6 + FC.size + 1 + NL.size + 3 + NK.size + 1 + NP.size + 1 + NY.size + 4 + FD.size + 4 + GE.size + 3 ≤ 20000
        omega
      have HCELL : Hid (∀ W', Below w14.heap.size w14 W' → SBlk W' w4.heap.size (p : Int) CS CR ∧ SBlk W' w9.heap.size (p : Int) CS DR ∧ SBlk W' w11.heap.size P ES ER) := fun W' hb => ⟨HXc14.out.below hb HXc14.out.cells.2.2.2.2.2.2, HXo14.out.below hb HXo14.out.cells.2.2.2.2.2.2, HXq14.out.below hb HXq14.out.cells.2.2.2.2.2.2⟩
      have HTB : Hid (∀ W', Below w14.heap.size w14 W' → Tab W') := fun W' hb => HT.out.below (HB14.out.trans (hb.mono HB14.out.size)) (Nat.le_refl _)
      have HNB : Hid (∀ W', Below w14.heap.size w14 W' → NumsAt W' v CL) := fun W' hb => HNv14.out.below hb
      have HCUR : Hid (Below w14.heap.size w14 w14) := Below.refl _ _
      refine wp_region_U (by kernel_rfl) ?_
      refine wpU_seg 35 26 0 9 rfl (by decide) (by kernel_rfl) (fun c a d v w h => by cases d <;> exact h) (by kernel_rfl) ?_
      intro w7 hw7 K7 hK
      have HB7 := Lib.hid (HCUR.out.trans (hw7.below.mono HCUR.out.size))
      simp only [List.take_succ_cons, List.take_zero, List.drop_zero]
      obtain ⟨sc0, sc1, sc2, _, _, _, _⟩ := (HCELL.out _ HB7.out).1.cells
      have Ac0 := fun s' => Since.cell sc0 s'
      have Ac1 := fun s' => Since.cell sc1 s'
      have Ac2 := fun s' => Since.cell sc2 s'
      have JC := Lib.hid (fun s' : Since w7 => HFC.out s'.w)
      have JN := Lib.hid (fun s' : Since w7 => HNL.out v s'.w (HNB.out _ (HB7.out.trans (s'.below.mono HB7.out.size))) (HTB.out _ (HB7.out.trans (s'.below.mono HB7.out.size))))
      repeat (go_big_quiet_step (first | (with_reducible exact Ac0 _) | (with_reducible exact Ac1 _) | (with_reducible exact Ac2 _) | (with_reducible exact Since.call (JC.out _)) | (with_reducible exact Since.call (JN.out _))))
      refine wpQuiet_nil ?_
      refine hK _ ?_
      clear hK K7 hw7 HB7 sc0 Ac0 sc1 Ac1 sc2 Ac2 JC JN
      refine wpU_seg 26 25 13 1 rfl (by decide) (by kernel_rfl) (fun c a d v w h => by cases d <;> exact h) (by kernel_rfl) ?_
      intro w7 hw7 K7 hK
      have HB7 := Lib.hid (HCUR.out.trans (hw7.below.mono HCUR.out.size))
      simp only [List.take_succ_cons, List.take_zero, List.drop_succ_cons, List.drop_zero]
      obtain ⟨sc0, sc1, sc2, _, _, _, _⟩ := (HCELL.out _ HB7.out).1.cells
      have Ac0 := fun s' => Since.cell sc0 s'
      have Ac1 := fun s' => Since.cell sc1 s'
      have Ac2 := fun s' => Since.cell sc2 s'
      repeat (go_big_quiet_step (first | (with_reducible exact Ac0 _) | (with_reducible exact Ac1 _) | (with_reducible exact Ac2 _)))
      refine wpQuiet_nil ?_
      refine hK _ ?_
      clear hK K7 hw7 HB7 sc0 Ac0 sc1 Ac1 sc2 Ac2
      refine wpU_seg 25 24 18 1 rfl (by decide) (by kernel_rfl) (fun c a d v w h => by cases d <;> exact h) (by kernel_rfl) ?_
      intro w7 hw7 K7 hK
      have HB7 := Lib.hid (HCUR.out.trans (hw7.below.mono HCUR.out.size))
      simp only [List.take_succ_cons, List.take_zero, List.drop_succ_cons, List.drop_zero]
      obtain ⟨sc0, sc1, sc2, _, _, _, _⟩ := (HCELL.out _ HB7.out).1.cells
      have Ac0 := fun s' => Since.cell sc0 s'
      have Ac1 := fun s' => Since.cell sc1 s'
      have Ac2 := fun s' => Since.cell sc2 s'
      repeat (go_big_quiet_step (first | (with_reducible exact Ac0 _) | (with_reducible exact Ac1 _) | (with_reducible exact Ac2 _)))
      refine wpQuiet_nil ?_
      refine hK _ ?_
      clear hK K7 hw7 HB7 sc0 Ac0 sc1 Ac1 sc2 Ac2
      refine wpU_seg 24 23 24 1 rfl (by decide) (by kernel_rfl) (fun c a d v w h => by cases d <;> exact h) (by kernel_rfl) ?_
      intro w7 hw7 K7 hK
      have HB7 := Lib.hid (HCUR.out.trans (hw7.below.mono HCUR.out.size))
      simp only [List.take_succ_cons, List.take_zero, List.drop_succ_cons, List.drop_zero]
      obtain ⟨so0, so1, so2, _, _, _, _⟩ := (HCELL.out _ HB7.out).2.1.cells
      have Ao0 := fun s' => Since.cell so0 s'
      have Ao1 := fun s' => Since.cell so1 s'
      have Ao2 := fun s' => Since.cell so2 s'
      repeat (go_big_quiet_step (first | (with_reducible exact Ao0 _) | (with_reducible exact Ao1 _) | (with_reducible exact Ao2 _)))
      refine wpQuiet_nil ?_
      refine hK _ ?_
      clear hK K7 hw7 HB7 so0 Ao0 so1 Ao1 so2 Ao2
      refine wpU_seg 23 22 28 1 rfl (by decide) (by kernel_rfl) (fun c a d v w h => by cases d <;> exact h) (by kernel_rfl) ?_
      intro w7 hw7 K7 hK
      have HB7 := Lib.hid (HCUR.out.trans (hw7.below.mono HCUR.out.size))
      simp only [List.take_succ_cons, List.take_zero, List.drop_succ_cons, List.drop_zero]
      obtain ⟨sq0, sq1, sq2, _, _, _, _⟩ := (HCELL.out _ HB7.out).2.2.cells
      have Aq0 := fun s' => Since.cell sq0 s'
      have Aq1 := fun s' => Since.cell sq1 s'
      have Aq2 := fun s' => Since.cell sq2 s'
      repeat (go_big_quiet_step (first | (with_reducible exact Aq0 _) | (with_reducible exact Aq1 _) | (with_reducible exact Aq2 _)))
      refine wpQuiet_nil ?_
      refine hK _ ?_
      clear hK K7 hw7 HB7 sq0 Aq0 sq1 Aq1 sq2 Aq2
      refine wpU_seg 22 21 30 1 rfl (by decide) (by kernel_rfl) (fun c a d v w h => by cases d <;> exact h) (by kernel_rfl) ?_
      intro w7 hw7 K7 hK
      have HB7 := Lib.hid (HCUR.out.trans (hw7.below.mono HCUR.out.size))
      simp only [List.take_succ_cons, List.take_zero, List.drop_succ_cons, List.drop_zero]
      repeat (go_big_quiet_step (fail))
      refine wpQuiet_nil ?_
      refine hK _ ?_
      clear hK K7 hw7 HB7
      refine wpU_at 21 20 9 rfl (by kernel_rfl) ?_
      intro w8 hw8
      have HB8 := Lib.hid (HCUR.out.trans (hw8.below.mono HCUR.out.size))
      simp only [List.drop_succ_cons, List.drop_zero]
      refine ⟨by kernel_rfl, ?_⟩
      have HNA : Hid (∀ W', Below (w8.alloc (.cells #[.int .i64 (K : Int)] 3)).heap.size (w8.alloc (.cells #[.int .i64 (K : Int)] 3)) W' → NumsAt W' (.slice (some ⟨w8.heap.size, 0, none⟩) 1 1) [K]) := fun W' hb => (NumsAt.one w8 K).below hb
      refine wp_value (v := .slice (some ⟨w8.heap.size, 0, none⟩) 1 1) (w2 := (w8.alloc (.cells #[.int .i64 (K : Int)] 3))) (by kernel_rfl) ?_
      refine ⟨RS.of ((Below.refl _ _).alloc (Nat.le_refl _) _), ?_⟩
      clear hw8
      simp only [Act.put, List.setIfInBounds_toArray, List.set_cons_zero, List.set_cons_succ]
      replace HCUR : Hid (Below w14.heap.size w14 (w8.alloc (.cells #[.int .i64 (K : Int)] 3))) := HB8.out.alloc HB8.out.size _
      clear HB8
      generalize hx8 : w8.heap.size = x8 at *
      generalize (w8.alloc (.cells #[.int .i64 (K : Int)] 3)) = w9 at *
      clear hx8
      refine wpU_seg 20 17 10 3 rfl (by decide) (by kernel_rfl) (fun c a d v w h => by cases d <;> exact h) (by kernel_rfl) ?_
      intro w7 hw7 K7 hK
      have HB7 := Lib.hid (HCUR.out.trans (hw7.below.mono HCUR.out.size))
      simp only [List.take_succ_cons, List.take_zero, List.drop_succ_cons, List.drop_zero]
      have JN := Lib.hid (fun s' : Since w7 => HNK.out _ s'.w (HNA.out _ (hw7.below.trans (s'.below.mono hw7.below.size))) (HTB.out _ (HB7.out.trans (s'.below.mono HB7.out.size))))
      repeat (go_big_quiet_step (first | (with_reducible exact Since.call (JN.out _))))
      refine wpQuiet_nil ?_
      refine hK _ ?_
      clear hK K7 hw7 HB7 JN
      clear HNA
      refine wpU_at 17 16 14 rfl (by kernel_rfl) ?_
      intro w8 hw8
      have HB8 := Lib.hid (HCUR.out.trans (hw8.below.mono HCUR.out.size))
      simp only [List.drop_succ_cons, List.drop_zero]
      refine ⟨by kernel_rfl, ?_⟩
      refine wp_enter (f := 12) (args := #[.agg #[.int .i64 (p : Int), .string CS, .string CR]]) (by kernel_rfl) ?_
      refine (HPI.out _).mono ?_; rintro e wp ⟨v2, rfl, ho2, hb⟩
      refine ⟨v2, rfl, RS.of hb, ?_⟩
      have HNA : Hid (∀ W', Below wp.heap.size wp W' → NumsAt W' v2 PL) := fun W' hb => ho2.below hb
      replace HCUR : Hid (Below w14.heap.size w14 wp) := HB8.out.trans (hb.mono HB8.out.size)
      clear ho2 hb hw8 HB8
      simp only [Act.put, List.setIfInBounds_toArray, List.set_cons_zero, List.set_cons_succ]
      refine wpU_seg 16 13 15 3 rfl (by decide) (by kernel_rfl) (fun c a d v w h => by cases d <;> exact h) (by kernel_rfl) ?_
      intro w7 hw7 K7 hK
      have HB7 := Lib.hid (HCUR.out.trans (hw7.below.mono HCUR.out.size))
      simp only [List.take_succ_cons, List.take_zero, List.drop_succ_cons, List.drop_zero]
      have JN := Lib.hid (fun s' : Since w7 => HNP.out v2 s'.w (HNA.out _ (hw7.below.trans (s'.below.mono hw7.below.size))) (HTB.out _ (HB7.out.trans (s'.below.mono HB7.out.size))))
      repeat (go_big_quiet_step (first | (with_reducible exact Since.call (JN.out _))))
      refine wpQuiet_nil ?_
      refine hK _ ?_
      clear hK K7 hw7 HB7 JN
      clear HNA
      refine wpU_seg 13 12 19 1 rfl (by decide) (by kernel_rfl) (fun c a d v w h => by cases d <;> exact h) (by kernel_rfl) ?_
      intro w7 hw7 K7 hK
      have HB7 := Lib.hid (HCUR.out.trans (hw7.below.mono HCUR.out.size))
      simp only [List.take_succ_cons, List.take_zero, List.drop_succ_cons, List.drop_zero]
      have JY := Lib.hid (fun s' : Since w7 => HSY.out s'.w)
      repeat (go_big_quiet_step (first | (with_reducible exact Since.call (JY.out _))))
      refine wpQuiet_nil ?_
      refine hK _ ?_
      clear hK K7 hw7 HB7 JY
      refine wpU_at 12 11 20 rfl (by kernel_rfl) ?_
      intro w8 hw8
      have HB8 := Lib.hid (HCUR.out.trans (hw8.below.mono HCUR.out.size))
      simp only [List.drop_succ_cons, List.drop_zero]
      refine ⟨by kernel_rfl, ?_⟩
      have HNA : Hid (∀ W', Below (w8.alloc (.cells #[.int .i64 (Y : Int)] 3)).heap.size (w8.alloc (.cells #[.int .i64 (Y : Int)] 3)) W' → NumsAt W' (.slice (some ⟨w8.heap.size, 0, none⟩) 1 1) [Y]) := fun W' hb => (NumsAt.one w8 Y).below hb
      refine wp_value (v := .slice (some ⟨w8.heap.size, 0, none⟩) 1 1) (w2 := (w8.alloc (.cells #[.int .i64 (Y : Int)] 3))) (by kernel_rfl) ?_
      refine ⟨RS.of ((Below.refl _ _).alloc (Nat.le_refl _) _), ?_⟩
      clear hw8
      simp only [Act.put, List.setIfInBounds_toArray, List.set_cons_zero, List.set_cons_succ]
      replace HCUR : Hid (Below w14.heap.size w14 (w8.alloc (.cells #[.int .i64 (Y : Int)] 3))) := HB8.out.alloc HB8.out.size _
      clear HB8
      generalize hx8 : w8.heap.size = x8 at *
      generalize (w8.alloc (.cells #[.int .i64 (Y : Int)] 3)) = w9 at *
      clear hx8
      refine wpU_seg 11 8 21 3 rfl (by decide) (by kernel_rfl) (fun c a d v w h => by cases d <;> exact h) (by kernel_rfl) ?_
      intro w7 hw7 K7 hK
      have HB7 := Lib.hid (HCUR.out.trans (hw7.below.mono HCUR.out.size))
      simp only [List.take_succ_cons, List.take_zero, List.drop_succ_cons, List.drop_zero]
      have JN := Lib.hid (fun s' : Since w7 => HNY.out _ s'.w (HNA.out _ (hw7.below.trans (s'.below.mono hw7.below.size))) (HTB.out _ (HB7.out.trans (s'.below.mono HB7.out.size))))
      repeat (go_big_quiet_step (first | (with_reducible exact Since.call (JN.out _))))
      refine wpQuiet_nil ?_
      refine hK _ ?_
      clear hK K7 hw7 HB7 JN
      clear HNA
      refine wpU_seg 8 5 25 3 rfl (by decide) (by kernel_rfl) (fun c a d v w h => by cases d <;> exact h) (by kernel_rfl) ?_
      intro w7 hw7 K7 hK
      have HB7 := Lib.hid (HCUR.out.trans (hw7.below.mono HCUR.out.size))
      simp only [List.take_succ_cons, List.take_zero, List.drop_succ_cons, List.drop_zero]
      have JD := Lib.hid (fun s' : Since w7 => HFD.out s'.w)
      repeat (go_big_quiet_step (first | (with_reducible exact Since.call (JD.out _))))
      refine wpQuiet_nil ?_
      refine hK _ ?_
      clear hK K7 hw7 HB7 JD
      refine wpU_seg 5 4 29 1 rfl (by decide) (by kernel_rfl) (fun c a d v w h => by cases d <;> exact h) (by kernel_rfl) ?_
      intro w7 hw7 K7 hK
      have HB7 := Lib.hid (HCUR.out.trans (hw7.below.mono HCUR.out.size))
      simp only [List.take_succ_cons, List.take_zero, List.drop_succ_cons, List.drop_zero]
      have JE := Lib.hid (fun s' : Since w7 => HFE.out s'.w)
      repeat (go_big_quiet_step (first | (with_reducible exact Since.call (JE.out _))))
      refine wpQuiet_nil ?_
      refine hK _ ?_
      clear hK K7 hw7 HB7 JE
      refine wpU_seg 4 0 31 4 rfl (by decide) (by kernel_rfl) (fun c a d v w h => by cases d <;> exact h) (by kernel_rfl) ?_
      intro w7 hw7 K7 hK
      have HB7 := Lib.hid (HCUR.out.trans (hw7.below.mono HCUR.out.size))
      simp only [List.take_succ_cons, List.take_zero, List.drop_succ_cons, List.drop_zero]
      have JG := Lib.hid (fun s' : Since w7 => HGL.out s'.w)
      repeat (go_big_quiet_step (first | (with_reducible exact Since.call (JG.out _))))
      refine wpQuiet_nil ?_
      refine hK _ ?_
      clear hK K7 hw7 HB7 JG
      refine ⟨by kernel_rfl, fun w10 hw10 => ?_⟩
      have hb10 := HCUR.out.trans (hw10.below.mono HCUR.out.size)
      have HB15 := Lib.hid (HB14.out.trans (hb10.mono HB14.out.size))
      have HXa15 := Lib.hid (HXa14.out.below hb10 HXa14.out.cells.2.2.2.2.2.2)
      have HXb15 := Lib.hid (HXb14.out.below hb10 HXb14.out.cells.2.2.2.2.2.2)
      clear hw10 hb10 HCUR HCELL HNB HTB hl1 hl2 hl3 hl4 hl5 hl6 hl7 hl8 hl9 hl10 hl11 hl12 hl13 hl14
      obtain ⟨ca0, ca1, ca2, fa0, fa1, fa2, ba⟩ := HXa15.out.cells
      obtain ⟨cb0, cb1, cb2, fb0, fb1, fb2, bb⟩ := HXb15.out.cells
      go_wp2_with fail
      refine (HSH.out _).mono ?_; rintro e w16 ⟨x, rfl, hx1, hb⟩
      have HB16 := Lib.hid (HB15.out.trans (hb.mono HB15.out.size))
      have HXa16 := Lib.hid (HXa15.out.below hb HXa15.out.cells.2.2.2.2.2.2)
      have HXb16 := Lib.hid (HXb15.out.below hb HXb15.out.cells.2.2.2.2.2.2)
      clear hb
      clear ca0 ca1 ca2 fa0 fa1 fa2 ba cb0 cb1 cb2 fb0 fb1 fb2 bb
      have HXX : Hid (same = true → NumsAt w16 x OL) := hx1
      clear hx1
      cases same
      · have hz1 : ((⟨#[111, 107, 10, 111, 107, 10]⟩ : ByteArray) ++ FC : ByteArray).size ≤ 10000 := by
          simp only [ByteArray.size_append]
          show 6 + FC.size ≤ 10000
          omega
        have hz2 : ((⟨#[111, 107, 10, 111, 107, 10]⟩ : ByteArray) ++ FC ++ ⟨#[10]⟩ : ByteArray).size ≤ 10000 := by
          simp only [ByteArray.size_append]
          show 6 + FC.size + 1 ≤ 10000
          omega
        have hz3 : ((⟨#[111, 107, 10, 111, 107, 10]⟩ : ByteArray) ++ FC ++ ⟨#[10]⟩ ++ NL : ByteArray).size ≤ 10000 := by
          simp only [ByteArray.size_append]
          show 6 + FC.size + 1 + NL.size ≤ 10000
          omega
        have hz4 : ((⟨#[111, 107, 10, 111, 107, 10]⟩ : ByteArray) ++ FC ++ ⟨#[10]⟩ ++ NL ++ ⟨#[32, 47, 32]⟩ : ByteArray).size ≤ 10000 := by
          simp only [ByteArray.size_append]
          show 6 + FC.size + 1 + NL.size + 3 ≤ 10000
          omega
        have hz5 : ((⟨#[111, 107, 10, 111, 107, 10]⟩ : ByteArray) ++ FC ++ ⟨#[10]⟩ ++ NL ++ ⟨#[32, 47, 32]⟩ ++ NK : ByteArray).size ≤ 10000 := by
          simp only [ByteArray.size_append]
          show 6 + FC.size + 1 + NL.size + 3 + NK.size ≤ 10000
          omega
        have hz6 : ((⟨#[111, 107, 10, 111, 107, 10]⟩ : ByteArray) ++ FC ++ ⟨#[10]⟩ ++ NL ++ ⟨#[32, 47, 32]⟩ ++ NK ++ ⟨#[10]⟩ : ByteArray).size ≤ 10000 := by
          simp only [ByteArray.size_append]
          show 6 + FC.size + 1 + NL.size + 3 + NK.size + 1 ≤ 10000
          omega
        have hz7 : ((⟨#[111, 107, 10, 111, 107, 10]⟩ : ByteArray) ++ FC ++ ⟨#[10]⟩ ++ NL ++ ⟨#[32, 47, 32]⟩ ++ NK ++ ⟨#[10]⟩ ++ NP : ByteArray).size ≤ 10000 := by
          simp only [ByteArray.size_append]
          show 6 + FC.size + 1 + NL.size + 3 + NK.size + 1 + NP.size ≤ 10000
          omega
        have hz8 : ((⟨#[111, 107, 10, 111, 107, 10]⟩ : ByteArray) ++ FC ++ ⟨#[10]⟩ ++ NL ++ ⟨#[32, 47, 32]⟩ ++ NK ++ ⟨#[10]⟩ ++ NP ++ ⟨#[10]⟩ : ByteArray).size ≤ 10000 := by
          simp only [ByteArray.size_append]
          show 6 + FC.size + 1 + NL.size + 3 + NK.size + 1 + NP.size + 1 ≤ 10000
          omega
        have hz9 : ((⟨#[111, 107, 10, 111, 107, 10]⟩ : ByteArray) ++ FC ++ ⟨#[10]⟩ ++ NL ++ ⟨#[32, 47, 32]⟩ ++ NK ++ ⟨#[10]⟩ ++ NP ++ ⟨#[10]⟩ ++ NY : ByteArray).size ≤ 10000 := by
          simp only [ByteArray.size_append]
          show 6 + FC.size + 1 + NL.size + 3 + NK.size + 1 + NP.size + 1 + NY.size ≤ 10000
          omega
        have hz10 : ((⟨#[111, 107, 10, 111, 107, 10]⟩ : ByteArray) ++ FC ++ ⟨#[10]⟩ ++ NL ++ ⟨#[32, 47, 32]⟩ ++ NK ++ ⟨#[10]⟩ ++ NP ++ ⟨#[10]⟩ ++ NY ++ ⟨#[10, 111, 107, 10]⟩ : ByteArray).size ≤ 10000 := by
          simp only [ByteArray.size_append]
          show 6 + FC.size + 1 + NL.size + 3 + NK.size + 1 + NP.size + 1 + NY.size + 4 ≤ 10000
          omega
        have hz11 : ((⟨#[111, 107, 10, 111, 107, 10]⟩ : ByteArray) ++ FC ++ ⟨#[10]⟩ ++ NL ++ ⟨#[32, 47, 32]⟩ ++ NK ++ ⟨#[10]⟩ ++ NP ++ ⟨#[10]⟩ ++ NY ++ ⟨#[10, 111, 107, 10]⟩ ++ FD : ByteArray).size ≤ 10000 := by
          simp only [ByteArray.size_append]
          show 6 + FC.size + 1 + NL.size + 3 + NK.size + 1 + NP.size + 1 + NY.size + 4 + FD.size ≤ 10000
          omega
        have hz12 : ((⟨#[111, 107, 10, 111, 107, 10]⟩ : ByteArray) ++ FC ++ ⟨#[10]⟩ ++ NL ++ ⟨#[32, 47, 32]⟩ ++ NK ++ ⟨#[10]⟩ ++ NP ++ ⟨#[10]⟩ ++ NY ++ ⟨#[10, 111, 107, 10]⟩ ++ FD ++ ⟨#[10, 111, 107, 10]⟩ : ByteArray).size ≤ 10000 := by
          simp only [ByteArray.size_append]
          show 6 + FC.size + 1 + NL.size + 3 + NK.size + 1 + NP.size + 1 + NY.size + 4 + FD.size + 4 ≤ 10000
          omega
        have hz13 : ((⟨#[111, 107, 10, 111, 107, 10]⟩ : ByteArray) ++ FC ++ ⟨#[10]⟩ ++ NL ++ ⟨#[32, 47, 32]⟩ ++ NK ++ ⟨#[10]⟩ ++ NP ++ ⟨#[10]⟩ ++ NY ++ ⟨#[10, 111, 107, 10]⟩ ++ FD ++ ⟨#[10, 111, 107, 10]⟩ ++ GE : ByteArray).size ≤ 10000 := by
          simp only [ByteArray.size_append]
          show 6 + FC.size + 1 + NL.size + 3 + NK.size + 1 + NP.size + 1 + NY.size + 4 + FD.size + 4 + GE.size ≤ 10000
          omega
        have hz14 : ((⟨#[111, 107, 10, 111, 107, 10]⟩ : ByteArray) ++ FC ++ ⟨#[10]⟩ ++ NL ++ ⟨#[32, 47, 32]⟩ ++ NK ++ ⟨#[10]⟩ ++ NP ++ ⟨#[10]⟩ ++ NY ++ ⟨#[10, 111, 107, 10]⟩ ++ FD ++ ⟨#[10, 111, 107, 10]⟩ ++ GE ++ ⟨#[111, 107, 10]⟩ : ByteArray).size ≤ 10000 := by
          simp only [ByteArray.size_append]
          show 6 + FC.size + 1 + NL.size + 3 + NK.size + 1 + NP.size + 1 + NY.size + 4 + FD.size + 4 + GE.size + 3 ≤ 10000
          omega
        have hz15 : ((⟨#[111, 107, 10, 111, 107, 10]⟩ : ByteArray) ++ FC ++ ⟨#[10]⟩ ++ NL ++ ⟨#[32, 47, 32]⟩ ++ NK ++ ⟨#[10]⟩ ++ NP ++ ⟨#[10]⟩ ++ NY ++ ⟨#[10, 111, 107, 10]⟩ ++ FD ++ ⟨#[10, 111, 107, 10]⟩ ++ GE ++ ⟨#[111, 107, 10]⟩ ++ ⟨#[110, 111, 110, 101, 10]⟩ : ByteArray).size ≤ 10000 := by
          simp only [ByteArray.size_append]
          show 6 + FC.size + 1 + NL.size + 3 + NK.size + 1 + NP.size + 1 + NY.size + 4 + FD.size + 4 + GE.size + 3 + 5 ≤ 10000
          omega
        have HRS2 : Hid (∀ w, Tab w → Calls Tryz.prog 16 #[.string (((⟨#[108, 101, 102, 116, 32]⟩ ++ F ++ ⟨#[10]⟩) : ByteArray) ++ ⟨#[114, 105, 103, 104, 116, 32]⟩ ++ G ++ ⟨#[10, 115, 117, 109, 10, 115, 116, 97, 98, 108, 101, 10, 112, 105, 101, 99, 101, 115, 10, 115, 121, 109, 109, 101, 116, 114, 105, 101, 115, 10]⟩ ++ (⟨#[108, 101, 102, 116, 32]⟩ ++ F ++ ⟨#[10]⟩) ++ ⟨#[111, 114, 100, 101, 114, 101, 100, 10]⟩ ++ (⟨#[108, 101, 102, 116, 32]⟩ ++ F ++ ⟨#[10]⟩) ++ ⟨#[112, 114, 111, 100, 117, 99, 116, 10]⟩ ++ (⟨#[108, 101, 102, 116, 32]⟩ ++ F ++ ⟨#[10]⟩) ++ ⟨#[115, 104, 97, 112, 101, 10]⟩)] w fun e w' => e = .returned (.string ((⟨#[111, 107, 10, 111, 107, 10]⟩ : ByteArray) ++ FC ++ ⟨#[10]⟩ ++ NL ++ ⟨#[32, 47, 32]⟩ ++ NK ++ ⟨#[10]⟩ ++ NP ++ ⟨#[10]⟩ ++ NY ++ ⟨#[10, 111, 107, 10]⟩ ++ FD ++ ⟨#[10, 111, 107, 10]⟩ ++ GE ++ ⟨#[111, 107, 10]⟩ ++ ⟨#[110, 111, 110, 101, 10]⟩)) ∧ Below w.heap.size w w') := fun w ht => by
          have h := HRS.out w ht
          simp only [if_false, Bool.false_eq_true] at h
          rw [show (⟨#[110, 111, 110, 101]⟩ : ByteArray) ++ ⟨#[10]⟩ = ⟨#[110, 111, 110, 101, 10]⟩ from ByteArray.ext (Array.toList_inj.1 rfl)] at h
          exact h
        clear HRS
        go_wp2_with fail
        refine (HRS2.out _ (HT.out.below HB16.out (Nat.le_refl _))).mono ?_; rintro e w17 ⟨rfl, hb⟩
        have HB17 := Lib.hid (HB16.out.trans (hb.mono HB16.out.size))
        clear hb
        go_wp2_with fail
        go_ret
        exact ⟨ret_bool (by simp), HB17.out⟩
      · replace zO := zO rfl
        have hz1 : ((⟨#[111, 107, 10, 111, 107, 10]⟩ : ByteArray) ++ FC : ByteArray).size ≤ 10000 := by
          simp only [ByteArray.size_append]
          show 6 + FC.size ≤ 10000
          omega
        have hz2 : ((⟨#[111, 107, 10, 111, 107, 10]⟩ : ByteArray) ++ FC ++ ⟨#[10]⟩ : ByteArray).size ≤ 10000 := by
          simp only [ByteArray.size_append]
          show 6 + FC.size + 1 ≤ 10000
          omega
        have hz3 : ((⟨#[111, 107, 10, 111, 107, 10]⟩ : ByteArray) ++ FC ++ ⟨#[10]⟩ ++ NL : ByteArray).size ≤ 10000 := by
          simp only [ByteArray.size_append]
          show 6 + FC.size + 1 + NL.size ≤ 10000
          omega
        have hz4 : ((⟨#[111, 107, 10, 111, 107, 10]⟩ : ByteArray) ++ FC ++ ⟨#[10]⟩ ++ NL ++ ⟨#[32, 47, 32]⟩ : ByteArray).size ≤ 10000 := by
          simp only [ByteArray.size_append]
          show 6 + FC.size + 1 + NL.size + 3 ≤ 10000
          omega
        have hz5 : ((⟨#[111, 107, 10, 111, 107, 10]⟩ : ByteArray) ++ FC ++ ⟨#[10]⟩ ++ NL ++ ⟨#[32, 47, 32]⟩ ++ NK : ByteArray).size ≤ 10000 := by
          simp only [ByteArray.size_append]
          show 6 + FC.size + 1 + NL.size + 3 + NK.size ≤ 10000
          omega
        have hz6 : ((⟨#[111, 107, 10, 111, 107, 10]⟩ : ByteArray) ++ FC ++ ⟨#[10]⟩ ++ NL ++ ⟨#[32, 47, 32]⟩ ++ NK ++ ⟨#[10]⟩ : ByteArray).size ≤ 10000 := by
          simp only [ByteArray.size_append]
          show 6 + FC.size + 1 + NL.size + 3 + NK.size + 1 ≤ 10000
          omega
        have hz7 : ((⟨#[111, 107, 10, 111, 107, 10]⟩ : ByteArray) ++ FC ++ ⟨#[10]⟩ ++ NL ++ ⟨#[32, 47, 32]⟩ ++ NK ++ ⟨#[10]⟩ ++ NP : ByteArray).size ≤ 10000 := by
          simp only [ByteArray.size_append]
          show 6 + FC.size + 1 + NL.size + 3 + NK.size + 1 + NP.size ≤ 10000
          omega
        have hz8 : ((⟨#[111, 107, 10, 111, 107, 10]⟩ : ByteArray) ++ FC ++ ⟨#[10]⟩ ++ NL ++ ⟨#[32, 47, 32]⟩ ++ NK ++ ⟨#[10]⟩ ++ NP ++ ⟨#[10]⟩ : ByteArray).size ≤ 10000 := by
          simp only [ByteArray.size_append]
          show 6 + FC.size + 1 + NL.size + 3 + NK.size + 1 + NP.size + 1 ≤ 10000
          omega
        have hz9 : ((⟨#[111, 107, 10, 111, 107, 10]⟩ : ByteArray) ++ FC ++ ⟨#[10]⟩ ++ NL ++ ⟨#[32, 47, 32]⟩ ++ NK ++ ⟨#[10]⟩ ++ NP ++ ⟨#[10]⟩ ++ NY : ByteArray).size ≤ 10000 := by
          simp only [ByteArray.size_append]
          show 6 + FC.size + 1 + NL.size + 3 + NK.size + 1 + NP.size + 1 + NY.size ≤ 10000
          omega
        have hz10 : ((⟨#[111, 107, 10, 111, 107, 10]⟩ : ByteArray) ++ FC ++ ⟨#[10]⟩ ++ NL ++ ⟨#[32, 47, 32]⟩ ++ NK ++ ⟨#[10]⟩ ++ NP ++ ⟨#[10]⟩ ++ NY ++ ⟨#[10, 111, 107, 10]⟩ : ByteArray).size ≤ 10000 := by
          simp only [ByteArray.size_append]
          show 6 + FC.size + 1 + NL.size + 3 + NK.size + 1 + NP.size + 1 + NY.size + 4 ≤ 10000
          omega
        have hz11 : ((⟨#[111, 107, 10, 111, 107, 10]⟩ : ByteArray) ++ FC ++ ⟨#[10]⟩ ++ NL ++ ⟨#[32, 47, 32]⟩ ++ NK ++ ⟨#[10]⟩ ++ NP ++ ⟨#[10]⟩ ++ NY ++ ⟨#[10, 111, 107, 10]⟩ ++ FD : ByteArray).size ≤ 10000 := by
          simp only [ByteArray.size_append]
          show 6 + FC.size + 1 + NL.size + 3 + NK.size + 1 + NP.size + 1 + NY.size + 4 + FD.size ≤ 10000
          omega
        have hz12 : ((⟨#[111, 107, 10, 111, 107, 10]⟩ : ByteArray) ++ FC ++ ⟨#[10]⟩ ++ NL ++ ⟨#[32, 47, 32]⟩ ++ NK ++ ⟨#[10]⟩ ++ NP ++ ⟨#[10]⟩ ++ NY ++ ⟨#[10, 111, 107, 10]⟩ ++ FD ++ ⟨#[10, 111, 107, 10]⟩ : ByteArray).size ≤ 10000 := by
          simp only [ByteArray.size_append]
          show 6 + FC.size + 1 + NL.size + 3 + NK.size + 1 + NP.size + 1 + NY.size + 4 + FD.size + 4 ≤ 10000
          omega
        have hz13 : ((⟨#[111, 107, 10, 111, 107, 10]⟩ : ByteArray) ++ FC ++ ⟨#[10]⟩ ++ NL ++ ⟨#[32, 47, 32]⟩ ++ NK ++ ⟨#[10]⟩ ++ NP ++ ⟨#[10]⟩ ++ NY ++ ⟨#[10, 111, 107, 10]⟩ ++ FD ++ ⟨#[10, 111, 107, 10]⟩ ++ GE : ByteArray).size ≤ 10000 := by
          simp only [ByteArray.size_append]
          show 6 + FC.size + 1 + NL.size + 3 + NK.size + 1 + NP.size + 1 + NY.size + 4 + FD.size + 4 + GE.size ≤ 10000
          omega
        have hz14 : ((⟨#[111, 107, 10, 111, 107, 10]⟩ : ByteArray) ++ FC ++ ⟨#[10]⟩ ++ NL ++ ⟨#[32, 47, 32]⟩ ++ NK ++ ⟨#[10]⟩ ++ NP ++ ⟨#[10]⟩ ++ NY ++ ⟨#[10, 111, 107, 10]⟩ ++ FD ++ ⟨#[10, 111, 107, 10]⟩ ++ GE ++ ⟨#[111, 107, 10]⟩ : ByteArray).size ≤ 10000 := by
          simp only [ByteArray.size_append]
          show 6 + FC.size + 1 + NL.size + 3 + NK.size + 1 + NP.size + 1 + NY.size + 4 + FD.size + 4 + GE.size + 3 ≤ 10000
          omega
        have hz15 : ((⟨#[111, 107, 10, 111, 107, 10]⟩ : ByteArray) ++ FC ++ ⟨#[10]⟩ ++ NL ++ ⟨#[32, 47, 32]⟩ ++ NK ++ ⟨#[10]⟩ ++ NP ++ ⟨#[10]⟩ ++ NY ++ ⟨#[10, 111, 107, 10]⟩ ++ FD ++ ⟨#[10, 111, 107, 10]⟩ ++ GE ++ ⟨#[111, 107, 10]⟩ ++ NO : ByteArray).size ≤ 10000 := by
          simp only [ByteArray.size_append]
          show 6 + FC.size + 1 + NL.size + 3 + NK.size + 1 + NP.size + 1 + NY.size + 4 + FD.size + 4 + GE.size + 3 + NO.size ≤ 10000
          omega
        have hz16 : ((⟨#[111, 107, 10, 111, 107, 10]⟩ : ByteArray) ++ FC ++ ⟨#[10]⟩ ++ NL ++ ⟨#[32, 47, 32]⟩ ++ NK ++ ⟨#[10]⟩ ++ NP ++ ⟨#[10]⟩ ++ NY ++ ⟨#[10, 111, 107, 10]⟩ ++ FD ++ ⟨#[10, 111, 107, 10]⟩ ++ GE ++ ⟨#[111, 107, 10]⟩ ++ NO ++ ⟨#[10]⟩ : ByteArray).size ≤ 10000 := by
          simp only [ByteArray.size_append]
          show 6 + FC.size + 1 + NL.size + 3 + NK.size + 1 + NP.size + 1 + NY.size + 4 + FD.size + 4 + GE.size + 3 + NO.size + 1 ≤ 10000
          omega
        have HRS2 : Hid (∀ w, Tab w → Calls Tryz.prog 16 #[.string (((⟨#[108, 101, 102, 116, 32]⟩ ++ F ++ ⟨#[10]⟩) : ByteArray) ++ ⟨#[114, 105, 103, 104, 116, 32]⟩ ++ G ++ ⟨#[10, 115, 117, 109, 10, 115, 116, 97, 98, 108, 101, 10, 112, 105, 101, 99, 101, 115, 10, 115, 121, 109, 109, 101, 116, 114, 105, 101, 115, 10]⟩ ++ (⟨#[108, 101, 102, 116, 32]⟩ ++ F ++ ⟨#[10]⟩) ++ ⟨#[111, 114, 100, 101, 114, 101, 100, 10]⟩ ++ (⟨#[108, 101, 102, 116, 32]⟩ ++ F ++ ⟨#[10]⟩) ++ ⟨#[112, 114, 111, 100, 117, 99, 116, 10]⟩ ++ (⟨#[108, 101, 102, 116, 32]⟩ ++ F ++ ⟨#[10]⟩) ++ ⟨#[115, 104, 97, 112, 101, 10]⟩)] w fun e w' => e = .returned (.string ((⟨#[111, 107, 10, 111, 107, 10]⟩ : ByteArray) ++ FC ++ ⟨#[10]⟩ ++ NL ++ ⟨#[32, 47, 32]⟩ ++ NK ++ ⟨#[10]⟩ ++ NP ++ ⟨#[10]⟩ ++ NY ++ ⟨#[10, 111, 107, 10]⟩ ++ FD ++ ⟨#[10, 111, 107, 10]⟩ ++ GE ++ ⟨#[111, 107, 10]⟩ ++ NO ++ ⟨#[10]⟩)) ∧ Below w.heap.size w w') := fun w ht => by
          have h := HRS.out w ht
          simp only [if_true, ← b_assoc52] at h
          simp only [← b_assoc52]
          exact h
        clear HRS
        go_wp2_with fail
        refine (HNO.out trivial _ _ (HXX.out trivial) (HT.out.below HB16.out (Nat.le_refl _))).mono ?_; rintro e w17 ⟨rfl, hb⟩
        have HB17 := Lib.hid (HB16.out.trans (hb.mono HB16.out.size))
        clear hb
        go_wp2_with fail
        refine (HRS2.out _ (HT.out.below HB17.out (Nat.le_refl _))).mono ?_; rintro e w18 ⟨rfl, hb⟩
        have HB18 := Lib.hid (HB17.out.trans (hb.mono HB17.out.size))
        clear hb
        go_wp2_with fail
        go_ret
        exact ⟨ret_bool (by simp), HB18.out⟩
  · go_enter Tryz.func3, Tryz.ntmps3
    go_wp2_with fail
    go_ret
    exact ⟨rfl, Below.refl _ _⟩
end Go.Proofs.YtdonjgjkhndfcaaGreatDoor

/- Contracts of the program's functions and what they compute: part 23. Conditions: those that each theorem states. -/
import Derived.Test.YthmhjihppbeodaaGreatDoorP7n21
import Derived.Test.YthmhjihppbeodaaGreatDoorP7n22
import Derived.Test.YthmhjihppbeodaaGreatDoorP7n6
import Derived.Test.YthmhjihppbeodaaGreatDoorP7n7
namespace Go.Proofs.YthmhjihppbeodaaGreatDoor
open Go.RowKit
set_option linter.unusedVariables false
set_option maxRecDepth 100000
theorem elemNo_any (n x b : Nat) (w : World) (hx : x < n) (hn : n ≤ 8) (hc : w.cell? ⟨b, 0, none⟩ = some (.int .i64 (n : Int))) : Calls Tryz.prog 195 #[.int .i64 (x : Int), .pointer (some ⟨b, 0, none⟩)] w fun en w' => en = .returned (.bool false) ∧ w = w' := by
  go_enter Tryz.func195, Tryz.ntmps195
  go_wp2_with fail
  go_ret
  exact ⟨ret_bool (by simp; omega), rfl⟩
theorem index_els (n b : Nat) (L : List Nat) (v : Value) (w : World) (hv : NumsAt w v L) (hL : ∀ j, j < L.length → L.getD j 0 < n) (hn : n ≤ 8) (hc : w.cell? ⟨b, 0, none⟩ = some (.int .i64 (n : Int))) :
    Calls Tryz.prog 254 #[v, .func (.func 195) #[] #[.pointer (some ⟨b, 0, none⟩)]] w fun en w' => en = .returned (.int .i64 (-1)) ∧ w = w' := by
  have HN := Lib.hid (fun x hx => elemNo_any n x b w hx hn hc)
  have HL := Lib.hid hL
  obtain ⟨a, cap, rfl, l1, l2, l3⟩ := hv.view
  have HC := Lib.hid l3
  clear l3 hv hL hc
  unfold maxLen at l2
  go_enter Tryz.func254, Tryz.ntmps254
  go_wp2_with fail
  go_loopw [8, 5] (fun i _ wr => (∃ k : Nat, k ≤ L.length ∧ i = .int .i64 (k : Int)) ∧ wr = w) (fun i _ _ => L.length - (intOf i).toNat)
  case atStart => exact ⟨⟨0, by omega, rfl⟩, rfl⟩
  case round =>
    obtain ⟨⟨k, hk, rfl⟩, hwr⟩ := hrel
    rw [hwr]; clear hwr
    by_cases hlt : k < L.length
    · obtain ⟨g, o, rfl, hg, hcc⟩ := HC.out (by omega)
      have d1 := hcc k hlt
      have HX := Lib.hid (HN.out _ (HL.out k hlt))
      clear hcc
      generalize L.getD k 0 = x at *
      have hkI : (k : Int) < (L.length : Int) := by omega
      go_wp2_with fail
      refine HX.out.mono ?_; rintro _ w1 ⟨rfl, hw1⟩; rw [← hw1]; clear hw1
      go_wp2_with fail
      go_roundw
      case rel => exact ⟨⟨k + 1, by omega, by go_num⟩, trivial⟩
      case measure => simp [intOf]; omega
    · go_wp2_with fail
      go_ret
      exact ⟨rfl, rfl⟩
theorem areElements_all (n : Nat) (S R : ByteArray) (L : List Nat) (v : Value) (w : World) (hv : NumsAt w v L) (hL : ∀ j, j < L.length → L.getD j 0 < n) (hn : n ≤ 8) : Calls Tryz.prog 134 #[strV n S R, v] w fun en w' => en = .returned (.bool true) ∧ Below w.heap.size w w' := by
  have HB : Hid (SBlk (boxS w n S R) w.heap.size n S R ∧ Below w.heap.size w (boxS w n S R)) := ⟨boxS_SBlk _ _ _ _, boxS_below _ _ _ _⟩
  have HI := Lib.hid (index_els n w.heap.size L v (boxS w n S R) (hv.below HB.out.2) hL hn HB.out.1.cells.1)
  obtain ⟨a, cap, rfl, l1, l2, l3⟩ := hv.view
  clear l3 hv hL
  unfold boxS at HI HB
  unfold strV
  go_enter Tryz.func134, Tryz.ntmps134
  go_wp2_with fail
  go_enter Tryz.func194, Tryz.ntmps194
  go_wp2_with fail
  refine HI.out.mono ?_; rintro _ _ ⟨rfl, rfl⟩
  go_wp2_with fail
  go_ret
  exact ⟨rfl, HB.out.2⟩
end Go.Proofs.YthmhjihppbeodaaGreatDoor

namespace Go.Proofs.YthmhjihppbeodaaGreatDoor
open Go.RowKit
set_option linter.unusedVariables false
set_option maxRecDepth 100000
theorem isList_all (n : Nat) (S R : ByteArray) (L : List Nat) (v : Value) (w : World) (hv : validB n S R = true) (hl : L.length ≤ 4) (hL : ∀ j, j < L.length → L.getD j 0 < n) (hg : NumsAt w v L) : Calls Tryz.prog 82 #[strV n S R, v] w fun en w' => en = .returned (.bool true) ∧ Below w.heap.size w w' := by
  obtain ⟨h1, h8, hS, hR, _, _⟩ := valid_is hv
  have HIS : Hid (∀ w, Calls Tryz.prog 20 #[strV n S R] w fun e w' => e = .returned (.bool true) ∧ Below w.heap.size w w') := fun w => by
    have := isStructure_any n S R w (by omega) (by rw [hR]; have := Nat.mul_le_mul h8 h8; omega)
    rw [hv] at this
    exact this
  have HAE := Lib.hid (fun w' (hb : Below w.heap.size w w') => areElements_all n S R L v w' (hg.below hb) hL h8)
  obtain ⟨a, cap, rfl, _, _, _⟩ := hg.view
  have HB : Hid (SBlk (boxS w n S R) w.heap.size n S R ∧ Below w.heap.size w (boxS w n S R)) := ⟨boxS_SBlk _ _ _ _, boxS_below _ _ _ _⟩
  unfold boxS at HB
  have hlI : (L.length : Int) ≤ 4 := by omega
  clear hg hL
  unfold strV at HIS HAE
  unfold strV
  go_enter Tryz.func82, Tryz.ntmps82
  go_wp2_with fail
  refine (HIS.out _).mono ?_; rintro _ w1 ⟨rfl, hb1⟩
  have HB1 : Hid (SBlk w1 w.heap.size n S R ∧ Below w.heap.size w w1) := ⟨HB.out.1.below hb1 HB.out.1.cells.2.2.2.2.2.2, HB.out.2.trans (hb1.mono HB.out.2.size)⟩
  clear hb1
  have s0 := HB1.out.1.cells.1
  have s1 := HB1.out.1.cells.2.1
  have s2 := HB1.out.1.cells.2.2.1
  go_wp2_with fail
  refine (HAE.out _ HB1.out.2).mono ?_; rintro _ w2 ⟨rfl, hb2⟩
  have HB2 := Lib.hid (HB1.out.2.trans (hb2.mono HB1.out.2.size))
  clear hb2 s0 s1 s2
  go_wp2_with fail
  go_ret
  exact ⟨rfl, HB2.out⟩
theorem areLists_all (n : Nat) (S R : ByteArray) (m : Nat) (S2 R2 : ByteArray) (L M : List Nat) (v u : Value) (w : World) (hv : validB n S R = true) (hv2 : validB m S2 R2 = true) (hl : L.length ≤ 4) (hlm : L.length = M.length) (hL : ∀ j, j < L.length → L.getD j 0 < n) (hM : ∀ j, j < M.length → M.getD j 0 < m) (hg : NumsAt w v L) (hg2 : NumsAt w u M) :
    Calls Tryz.prog 51 #[strV n S R, v, strV m S2 R2, u] w fun en w' => en = .returned (.bool true) ∧ Below w.heap.size w w' := by
  have HT := Lib.hid (Two.new w n S R m S2 R2)
  unfold boxS at HT
  have HA := Lib.hid (fun w' (h : Below w.heap.size w w') => isList_all n S R L v w' hv hl hL (hg.below h))
  have HB := Lib.hid (fun w' (h : Below w.heap.size w w') => isList_all m S2 R2 M u w' hv2 (by omega) hM (hg2.below h))
  obtain ⟨g, cap, rfl, _, _, _⟩ := hg.view
  obtain ⟨g2, cap2, rfl, _, _, _⟩ := hg2.view
  rw [← hlm] at HB ⊢
  clear hg hg2 hL hM hlm
  unfold strV at HA HB
  obtain ⟨c0, c1, c2, f0, f1, f2, hl1⟩ := HT.out.a.cells
  unfold strV
  go_enter Tryz.func51, Tryz.ntmps51
  go_wp2_with fail
  refine (HA.out _ HT.out.old).mono ?_; rintro e w1 ⟨rfl, hb⟩
  have HT3 := Lib.hid (HT.out.below hb); clear hb c0 c1 c2 f0 f1 f2 hl1
  obtain ⟨d0, d1, d2, g0, g1, g2, hl2⟩ := HT3.out.b.cells
  go_wp2_with fail
  refine (HB.out _ HT3.out.old).mono ?_; rintro e w2 ⟨rfl, hb⟩
  have HT4 := Lib.hid (HT3.out.below hb); clear hb d0 d1 d2 g0 g1 g2 hl2
  go_wp2_with fail
  go_ret
  exact ⟨ret_bool (by simp), HT4.out.old⟩
theorem isGame_all (n : Nat) (S R : ByteArray) (m : Nat) (S2 R2 : ByteArray) (L M : List Nat) (v u : Value) (k : Nat) (w : World) (hk : k ≤ 3) (hv : validB n S R = true) (hv2 : validB m S2 R2 = true) (hl : L.length ≤ 4) (hlm : L.length = M.length) (hL : ∀ j, j < L.length → L.getD j 0 < n) (hM : ∀ j, j < M.length → M.getD j 0 < m) (hg : NumsAt w v L) (hg2 : NumsAt w u M) :
    Calls Tryz.prog 28 #[strV n S R, v, strV m S2 R2, u, .int .i64 (k : Int)] w fun en w' => en = .returned (.bool true) ∧ Below w.heap.size w w' := by
  have HT := Lib.hid (Two.new w n S R m S2 R2)
  unfold boxS at HT
  have HA := Lib.hid (fun w' (h : Below w.heap.size w w') => areLists_all n S R m S2 R2 L M v u w' hv hv2 hl hlm hL hM (hg.below h) (hg2.below h))
  obtain ⟨g, cap, rfl, _, _, _⟩ := hg.view
  obtain ⟨g2, cap2, rfl, _, _, _⟩ := hg2.view
  clear hg hg2 hL hM
  unfold strV at HA
  obtain ⟨c0, c1, c2, f0, f1, f2, hl1⟩ := HT.out.a.cells
  obtain ⟨d0, d1, d2, g0, g1, g2, hl2⟩ := HT.out.b.cells
  rw [← hlm] at HA ⊢
  clear hlm
  unfold strV
  go_enter Tryz.func28, Tryz.ntmps28
  go_wp2_with fail
  refine (HA.out _ HT.out.old).mono ?_; rintro e w1 ⟨rfl, hb⟩
  have HT3 := Lib.hid (HT.out.below hb); clear hb c0 c1 c2 f0 f1 f2 hl1 d0 d1 d2 g0 g1 g2 hl2
  go_wp2_with fail
  go_ret
  exact ⟨ret_bool (by simp; omega), HT3.out.old⟩
end Go.Proofs.YthmhjihppbeodaaGreatDoor

namespace Go.Proofs.YthmhjihppbeodaaGreatDoor
open Go.RowKit
set_option linter.unusedVariables false
set_option maxRecDepth 100000
theorem find_lt {p : Nat → Bool} {n x : Nat} (h : (List.range n).find? p = some x) : x < n := List.mem_range.1 (List.mem_of_find?_eq_some h)
theorem moveV_form (a : Gs.St) (la : List Nat) (b : Gs.St) (lb : List Nat) (k : Nat) : ∃ (s : ByteArray) (x : Nat) (c : Bool), moveV a la b lb k = .tuple #[.string s, .int .i64 (x : Int), .bool c] ∧ s.size ≤ 1 ∧ (x < a.n ∨ x < b.n ∨ x = 0) := by
  cases h : noRep a la b lb k with
  | some x => exact ⟨_, x, true, moveV_a h, by decide, .inl (find_lt h)⟩
  | none =>
    cases h2 : noRep b lb a la k with
    | some y => exact ⟨_, y, true, moveV_b h h2, by decide, .inr (.inl (find_lt h2))⟩
    | none => exact ⟨_, 0, false, moveV_no h h2, by decide, .inr (.inr rfl)⟩
set_option maxHeartbeats 1000000 in
theorem FirstMove_any (n : Nat) (S R : ByteArray) (m : Nat) (S2 R2 : ByteArray) (v u : Value) (k : Nat) (w : World) (hk : k ≤ 2) (hv : validB n S R = true) (hv2 : validB m S2 R2 = true) (hg : NumsAt w v []) (hg2 : NumsAt w u []) :
    Calls Tryz.prog 9 #[strV n S R, v, strV m S2 R2, u, .int .i64 ((k : Int) + 1)] w fun e w' => e = .returned (moveV (stOf n S R) [] (stOf m S2 R2) [] k) ∧ Below w.heap.size w w' := by
  obtain ⟨a1, a8, aS, aR, _, _⟩ := valid_is hv
  obtain ⟨b1, b8, bS, bR, _, _⟩ := valid_is hv2
  have HT := Lib.hid (Two.new w n S R m S2 R2)
  unfold boxS at HT
  have HA := Lib.hid (fun w' (h : Below w.heap.size w w') => isGame_all n S R m S2 R2 [] [] v u (k + 1) w' (by omega) hv hv2 (by simp) rfl (by simp) (by simp) (hg.below h) (hg2.below h))
  rw [show ((k + 1 : Nat) : Int) = (k : Int) + 1 from rfl] at HA
  have HG := Lib.hid (fun w' (h : Below w.heap.size w w') => firstMove_any k (by omega) n S R m S2 R2 v u [] [] w' ⟨aS, aR, a8, bS, bR, b8, rfl, by simp; omega, by simp, by simp⟩ (hg.below h) (hg2.below h) rfl)
  obtain ⟨s, x, c, hf, _, _⟩ := moveV_form (stOf n S R) [] (stOf m S2 R2) [] k
  rw [hf] at HG ⊢
  clear hf
  obtain ⟨K, hK⟩ : ∃ K : Int, (k : Int) + 1 = K := ⟨_, rfl⟩
  rw [hK] at HA HG ⊢
  clear hK
  obtain ⟨g, cap, rfl, _, _, _⟩ := hg.view
  obtain ⟨g2, cap2, rfl, _, _, _⟩ := hg2.view
  clear hg hg2
  unfold strV at HA HG
  obtain ⟨c0, c1, c2, f0, f1, f2, hl1⟩ := HT.out.a.cells
  obtain ⟨d0, d1, d2, g0, g1, g2, hl2⟩ := HT.out.b.cells
  unfold strV
  go_enter Tryz.func9, Tryz.ntmps9
  go_wp2_with fail
  refine (HA.out _ HT.out.old).mono ?_; rintro e w1 ⟨rfl, hb⟩
  have HT3 := Lib.hid (HT.out.below hb); clear hb c0 c1 c2 f0 f1 f2 hl1 d0 d1 d2 g0 g1 g2 hl2
  obtain ⟨c0, c1, c2, f0, f1, f2, hl1⟩ := HT3.out.a.cells
  obtain ⟨d0, d1, d2, g0, g1, g2, hl2⟩ := HT3.out.b.cells
  go_wp2_with fail
  refine (HG.out _ HT3.out.old).mono ?_; rintro e w2 ⟨rfl, hb⟩
  have HT4 := Lib.hid (HT3.out.below hb); clear hb
  go_wp2_with fail
  go_ret3
  exact ⟨rfl, HT4.out.old⟩
/-- What a line "move k" answers. -/
def mvAns (a b : Gs.St) (k : Nat) : ByteArray := match noRep a [] b [] k with
  | some x => ⟨#[97]⟩ ++ itoS (x : Int)
  | none => match noRep b [] a [] k with
    | some y => ⟨#[98]⟩ ++ itoS (y : Int)
    | none => ⟨#[110, 111, 110, 101]⟩
theorem mvAns_form (a b : Gs.St) (k : Nat) (ha : a.n ≤ 8) (hb : b.n ≤ 8) : ∃ (s : ByteArray) (x : Nat) (c : Bool), moveV a [] b [] k = .tuple #[.string s, .int .i64 (x : Int), .bool c] ∧ s.size ≤ 1 ∧ x ≤ 8 ∧ mvAns a b k = if c then s ++ itoS (x : Int) else ⟨#[110, 111, 110, 101]⟩ := by
  cases h : noRep a [] b [] k with
  | some x => exact ⟨_, x, true, moveV_a h, by decide, by have := find_lt h; omega, by unfold mvAns; rw [h]; rfl⟩
  | none =>
    cases h2 : noRep b [] a [] k with
    | some y => exact ⟨_, y, true, moveV_b h h2, by decide, by have := find_lt h2; omega, by unfold mvAns; rw [h, h2]; rfl⟩
    | none => exact ⟨_, 0, false, moveV_no h h2, by decide, by omega, by unfold mvAns; rw [h, h2]; rfl⟩
set_option maxHeartbeats 1000000 in
theorem asked_move (w0 : World) (ht : Tab w0) (a : DS) (n m k : Nat) (hn : a.n = (n : Int)) (hm : a.m = (m : Int)) (hk : k ≤ 2) (hv : validB n a.S a.R = true) (hu : validB m a.T a.U = true) : AskedOK w0 ⟨#[109, 111, 118, 101]⟩ (k + 1) a (mvAns (stOf n a.S a.R) (stOf m a.T a.U) k) := by
  intro W d hd hB hD
  obtain ⟨h1, h8, _, _, _, _⟩ := valid_is hv
  obtain ⟨g1, g8, _, _, _, _⟩ := valid_is hu
  have HC := Lib.hid (fun w => FirstMove_any n a.S a.R m a.T a.U (.slice none 0 0) (.slice none 0 0) k w hk hv hu (.inl ⟨rfl, rfl⟩) (.inl ⟨rfl, rfl⟩))
  obtain ⟨s, x, c, hf, hs1, hx8, hans⟩ := mvAns_form (stOf n a.S a.R) (stOf m a.T a.U) k h8 g8
  rw [hf] at HC
  rw [hans]
  rw [← hn, ← hm] at HC
  unfold strV at HC
  have HD : Hid (DeskAt W d a) := hD
  have HT : Hid (Tab W) := ht.below hB (Nat.le_refl _)
  have HI := Lib.hid (fun w hb => itoa_any (x : Int) w (by omega) (by omega) (HT.out.below hb (Nat.le_refl _)))
  have hz := itoS_size (x : Int) (by omega) (by omega)
  obtain ⟨c0, c1, c2, c3, c4, c5, c6, cf⟩ := hD.cells
  have hkc : (((k + 1 : Nat)) : Int) = (k : Int) + 1 := by omega
  rw [hkc]
  have hkI : (k : Int) + 1 ≤ 3 := by omega
  have hk0 : (0 : Int) ≤ (k : Int) + 1 := by omega
  have hk1 : (0 : Int) < (k : Int) + 1 := by omega
  obtain ⟨K, hK⟩ : ∃ K : Int, (k : Int) + 1 = K := ⟨_, rfl⟩
  rw [hK] at hkI hk0 hk1 HC ⊢
  have hkB : decide ((0 : Int) ≤ K) = true := decide_eq_true hk0
  have hkB3 : decide (K ≤ 3) = true := decide_eq_true hkI
  have hkB1 : decide ((0 : Int) < K) = true := decide_eq_true hk1
  clear cf hD hB hv hu hf hans hn hm hK hkc h1 h8 g1 g8
  generalize hb : a = b at HD ⊢
  obtain ⟨n1, S1, R1, m1, T1, U1, fo⟩ := a
  simp only at *
  clear hb
  cases c
  · go_enter Tryz.func121, Tryz.ntmps121
    go_upto_region 11 with fail
    have J := Lib.hid (fun s : Since W => HC.out s.w)
    have C0 := fun s => Since.cell c0 s
    have C1 := fun s => Since.cell c1 s
    have C2 := fun s => Since.cell c2 s
    have C3 := fun s => Since.cell c3 s
    have C4 := fun s => Since.cell c4 s
    have C5 := fun s => Since.cell c5 s
    refine wp_region_since (by kernel_rfl) (by kernel_rfl) ?_
    repeat (go_big_quiet_step (first | (with_reducible exact Since.call (J.out _)) | (with_reducible exact C0 _) | (with_reducible exact C1 _) | (with_reducible exact C2 _) | (with_reducible exact C3 _) | (with_reducible exact C4 _) | (with_reducible exact C5 _)))
    refine wpQuiet_nil ?_
    intro w1 hb
    clear J C0 C1 C2 C3 C4 C5
    have HD1 : Hid (DeskAt w1 d b ∧ Off (fun x => x = d) W w1) := ⟨HD.out.below hb, Off.of_below hb⟩
    clear hb
    go_wp2_with fail
    go_ret
    exact ⟨rfl, HD1.out⟩
  · generalize itoS (x : Int) = I at *
    have hz2 : (s ++ I).size ≤ 30 := by rw [ByteArray.size_append]; omega
    go_enter Tryz.func121, Tryz.ntmps121
    go_upto_region 11 with fail
    have J := Lib.hid (fun s : Since W => HC.out s.w)
    have C0 := fun s => Since.cell c0 s
    have C1 := fun s => Since.cell c1 s
    have C2 := fun s => Since.cell c2 s
    have C3 := fun s => Since.cell c3 s
    have C4 := fun s => Since.cell c4 s
    have C5 := fun s => Since.cell c5 s
    refine wp_region_since (by kernel_rfl) (by kernel_rfl) ?_
    repeat (go_big_quiet_step (first | (with_reducible exact Since.call (J.out _)) | (with_reducible exact C0 _) | (with_reducible exact C1 _) | (with_reducible exact C2 _) | (with_reducible exact C3 _) | (with_reducible exact C4 _) | (with_reducible exact C5 _)))
    refine wpQuiet_nil ?_
    intro w1 hb
    clear J C0 C1 C2 C3 C4 C5
    have HI1 := Lib.hid (HI.out w1 hb)
    have HD1 : Hid (DeskAt w1 d b ∧ Off (fun x => x = d) W w1) := ⟨HD.out.below hb, Off.of_below hb⟩
    clear hb
    go_wp2_with fail
    refine HI1.out.mono ?_; rintro e w2 ⟨rfl, hb⟩
    have HD2 : Hid (DeskAt w2 d b ∧ Off (fun x => x = d) W w2) := ⟨HD1.out.1.below hb, HD1.out.2.trans (Off.of_below (F := fun _ => False) hb) (fun _ h => h.elim)⟩
    clear hb
    go_wp2_with fail
    go_ret
    exact ⟨rfl, HD2.out⟩
end Go.Proofs.YthmhjihppbeodaaGreatDoor

/- Contracts of the program's functions and what they compute: part 30. Conditions: those that each theorem states. -/
import Derived.Test.YtofmagiahmmmgaaGreatDoorP53n17
import Derived.Test.YtofmagiahmmmgaaGreatDoorP53n29
import Derived.Test.YtofmagiahmmmgaaGreatDoorP53n27
import Derived.Test.YtofmagiahmmmgaaGreatDoorP53n28
namespace Go.Proofs.YtofmagiahmmmgaaGreatDoor
open Go.RowKit
set_option linter.unusedVariables false
set_option maxRecDepth 100000
theorem elemNo_any (n x b : Nat) (w : World) (hx : x < n) (hn : n ≤ 8) (hc : w.cell? ⟨b, 0, none⟩ = some (.int .i64 (n : Int))) : Calls Tryz.prog 163 #[.int .i64 (x : Int), .pointer (some ⟨b, 0, none⟩)] w fun en w' => en = .returned (.bool false) ∧ w = w' := by
  go_enter Tryz.func163, Tryz.ntmps163
  go_wp2_with fail
  go_ret
  exact ⟨ret_bool (by simp; omega), rfl⟩
theorem index_els (n b : Nat) (L : List Nat) (v : Value) (w : World) (hv : NumsAt w v L) (hL : ∀ j, j < L.length → L.getD j 0 < n) (hn : n ≤ 8) (hc : w.cell? ⟨b, 0, none⟩ = some (.int .i64 (n : Int))) :
    Calls Tryz.prog 234 #[v, .func (.func 163) #[] #[.pointer (some ⟨b, 0, none⟩)]] w fun en w' => en = .returned (.int .i64 (-1)) ∧ w = w' := by
  have HN := Lib.hid (fun x hx => elemNo_any n x b w hx hn hc)
  have HL := Lib.hid hL
  obtain ⟨a, cap, rfl, l1, l2, l3⟩ := hv.view
  have HC := Lib.hid l3
  clear l3 hv hL hc
  unfold maxLen at l2
  go_enter Tryz.func234, Tryz.ntmps234
  go_wp2_with fail
  go_loopw [8, 5] (fun i _ wr => (∃ k : Nat, k ≤ L.length ∧ i = .int .i64 (k : Int)) ∧ wr = w) (fun i _ _ => L.length - (intOf i).toNat)
  case atStart => exact ⟨⟨0, by omega, rfl⟩, rfl⟩
  case round =>
    obtain ⟨⟨k, hk, rfl⟩, hwr⟩ := hrel
    rw [hwr]; clear hwr
    by_cases hlt : k < L.length
    · obtain ⟨g, o, rfl, hg, hcc⟩ := HC.out (by omega)
      have d1 := hcc k hlt
      have HX := Lib.hid (HN.out _ (HL.out k hlt))
      clear hcc
      generalize L.getD k 0 = x at *
      have hkI : (k : Int) < (L.length : Int) := by omega
      go_wp2_with fail
      refine HX.out.mono ?_; rintro _ w1 ⟨rfl, hw1⟩; rw [← hw1]; clear hw1
      go_wp2_with fail
      go_roundw
      case rel => exact ⟨⟨k + 1, by omega, by go_num⟩, trivial⟩
      case measure => simp [intOf]; omega
    · go_wp2_with fail
      go_ret
      exact ⟨rfl, rfl⟩
theorem areElements_all (n : Nat) (S R : ByteArray) (L : List Nat) (v : Value) (w : World) (hv : NumsAt w v L) (hL : ∀ j, j < L.length → L.getD j 0 < n) (hn : n ≤ 8) : Calls Tryz.prog 99 #[strV n S R, v] w fun en w' => en = .returned (.bool true) ∧ Below w.heap.size w w' := by
  have HB : Hid (SBlk (boxS w n S R) w.heap.size n S R ∧ Below w.heap.size w (boxS w n S R)) := ⟨boxS_SBlk _ _ _ _, boxS_below _ _ _ _⟩
  have HI := Lib.hid (index_els n w.heap.size L v (boxS w n S R) (hv.below HB.out.2) hL hn HB.out.1.cells.1)
  obtain ⟨a, cap, rfl, l1, l2, l3⟩ := hv.view
  clear l3 hv hL
  unfold boxS at HI HB
  unfold strV
  go_enter Tryz.func99, Tryz.ntmps99
  go_wp2_with fail
  go_enter Tryz.func159, Tryz.ntmps159
  go_wp2_with fail
  refine HI.out.mono ?_; rintro _ _ ⟨rfl, rfl⟩
  go_wp2_with fail
  go_ret
  exact ⟨rfl, HB.out.2⟩
end Go.Proofs.YtofmagiahmmmgaaGreatDoor

namespace Go.Proofs.YtofmagiahmmmgaaGreatDoor
open Go.RowKit
set_option linter.unusedVariables false
set_option maxRecDepth 100000
theorem isList_all (n : Nat) (S R : ByteArray) (L : List Nat) (v : Value) (w : World) (hv : validB n S R = true) (hl : L.length ≤ 4) (hL : ∀ j, j < L.length → L.getD j 0 < n) (hg : NumsAt w v L) : Calls Tryz.prog 59 #[strV n S R, v] w fun en w' => en = .returned (.bool true) ∧ Below w.heap.size w w' := by
  obtain ⟨h1, h8, hS, hR, _, _⟩ := valid_is hv
  have HIS : Hid (∀ w, Calls Tryz.prog 23 #[strV n S R] w fun e w' => e = .returned (.bool true) ∧ Below w.heap.size w w') := fun w => by
    have := isStructure_any n S R w (by omega) (by rw [hR]; have := Nat.mul_le_mul h8 h8; omega)
    rw [hv] at this
    exact this
  have HAE := Lib.hid (fun w' (hb : Below w.heap.size w w') => areElements_all n S R L v w' (hg.below hb) hL h8)
  obtain ⟨a, cap, rfl, _, _, _⟩ := hg.view
  have HB : Hid (SBlk (boxS w n S R) w.heap.size n S R ∧ Below w.heap.size w (boxS w n S R)) := ⟨boxS_SBlk _ _ _ _, boxS_below _ _ _ _⟩
  unfold boxS at HB
  have hlI : (L.length : Int) ≤ 4 := by omega
  clear hg hL
  unfold strV at HIS HAE
  unfold strV
  go_enter Tryz.func59, Tryz.ntmps59
  go_wp2_with fail
  refine (HIS.out _).mono ?_; rintro _ w1 ⟨rfl, hb1⟩
  have HB1 : Hid (SBlk w1 w.heap.size n S R ∧ Below w.heap.size w w1) := ⟨HB.out.1.below hb1 HB.out.1.cells.2.2.2.2.2.2, HB.out.2.trans (hb1.mono HB.out.2.size)⟩
  clear hb1
  have s0 := HB1.out.1.cells.1
  have s1 := HB1.out.1.cells.2.1
  have s2 := HB1.out.1.cells.2.2.1
  go_wp2_with fail
  refine (HAE.out _ HB1.out.2).mono ?_; rintro _ w2 ⟨rfl, hb2⟩
  have HB2 := Lib.hid (HB1.out.2.trans (hb2.mono HB1.out.2.size))
  clear hb2 s0 s1 s2
  go_wp2_with fail
  go_ret
  exact ⟨rfl, HB2.out⟩
theorem areLists_all (n : Nat) (S R : ByteArray) (m : Nat) (S2 R2 : ByteArray) (L M : List Nat) (v u : Value) (w : World) (hv : validB n S R = true) (hv2 : validB m S2 R2 = true) (hl : L.length ≤ 4) (hlm : L.length = M.length) (hL : ∀ j, j < L.length → L.getD j 0 < n) (hM : ∀ j, j < M.length → M.getD j 0 < m) (hg : NumsAt w v L) (hg2 : NumsAt w u M) :
    Calls Tryz.prog 29 #[strV n S R, v, strV m S2 R2, u] w fun en w' => en = .returned (.bool true) ∧ Below w.heap.size w w' := by
  have HT := Lib.hid (Two.new w n S R m S2 R2)
  unfold boxS at HT
  have HA := Lib.hid (fun w' (h : Below w.heap.size w w') => isList_all n S R L v w' hv hl hL (hg.below h))
  have HB := Lib.hid (fun w' (h : Below w.heap.size w w') => isList_all m S2 R2 M u w' hv2 (by omega) hM (hg2.below h))
  obtain ⟨g, cap, rfl, _, _, _⟩ := hg.view
  obtain ⟨g2, cap2, rfl, _, _, _⟩ := hg2.view
  rw [← hlm] at HB ⊢
  clear hg hg2 hL hM hlm
  unfold strV at HA HB
  obtain ⟨c0, c1, c2, f0, f1, f2, hl1⟩ := HT.out.a.cells
  unfold strV
  go_enter Tryz.func29, Tryz.ntmps29
  go_wp2_with fail
  refine (HA.out _ HT.out.old).mono ?_; rintro e w1 ⟨rfl, hb⟩
  have HT3 := Lib.hid (HT.out.below hb); clear hb c0 c1 c2 f0 f1 f2 hl1
  obtain ⟨d0, d1, d2, g0, g1, g2, hl2⟩ := HT3.out.b.cells
  go_wp2_with fail
  refine (HB.out _ HT3.out.old).mono ?_; rintro e w2 ⟨rfl, hb⟩
  have HT4 := Lib.hid (HT3.out.below hb); clear hb d0 d1 d2 g0 g1 g2 hl2
  go_wp2_with fail
  go_ret
  exact ⟨ret_bool (by simp), HT4.out.old⟩
theorem isGame_all (n : Nat) (S R : ByteArray) (m : Nat) (S2 R2 : ByteArray) (L M : List Nat) (v u : Value) (k : Nat) (w : World) (hk : k ≤ 3) (hv : validB n S R = true) (hv2 : validB m S2 R2 = true) (hl : L.length ≤ 4) (hlm : L.length = M.length) (hL : ∀ j, j < L.length → L.getD j 0 < n) (hM : ∀ j, j < M.length → M.getD j 0 < m) (hg : NumsAt w v L) (hg2 : NumsAt w u M) :
    Calls Tryz.prog 42 #[strV n S R, v, strV m S2 R2, u, .int .i64 (k : Int)] w fun en w' => en = .returned (.bool true) ∧ Below w.heap.size w w' := by
  have HT := Lib.hid (Two.new w n S R m S2 R2)
  unfold boxS at HT
  have HA := Lib.hid (fun w' (h : Below w.heap.size w w') => areLists_all n S R m S2 R2 L M v u w' hv hv2 hl hlm hL hM (hg.below h) (hg2.below h))
  obtain ⟨g, cap, rfl, _, _, _⟩ := hg.view
  obtain ⟨g2, cap2, rfl, _, _, _⟩ := hg2.view
  clear hg hg2 hL hM
  unfold strV at HA
  obtain ⟨c0, c1, c2, f0, f1, f2, hl1⟩ := HT.out.a.cells
  obtain ⟨d0, d1, d2, g0, g1, g2, hl2⟩ := HT.out.b.cells
  rw [← hlm] at HA ⊢
  clear hlm
  unfold strV
  go_enter Tryz.func42, Tryz.ntmps42
  go_wp2_with fail
  refine (HA.out _ HT.out.old).mono ?_; rintro e w1 ⟨rfl, hb⟩
  have HT3 := Lib.hid (HT.out.below hb); clear hb c0 c1 c2 f0 f1 f2 hl1 d0 d1 d2 g0 g1 g2 hl2
  go_wp2_with fail
  go_ret
  exact ⟨ret_bool (by simp; omega), HT3.out.old⟩
theorem SecondWins_all (n : Nat) (S R : ByteArray) (m : Nat) (S2 R2 : ByteArray) (L M : List Nat) (v u : Value) (k : Nat) (w : World) (hk : k ≤ 3) (hv : validB n S R = true) (hv2 : validB m S2 R2 = true) (hl : L.length ≤ 4) (hlm : L.length = M.length) (hL : ∀ j, j < L.length → L.getD j 0 < n) (hM : ∀ j, j < M.length → M.getD j 0 < m) (hg : NumsAt w v L) (hg2 : NumsAt w u M) :
    Calls Tryz.prog 21 #[strV n S R, v, strV m S2 R2, u, .int .i64 (k : Int)] w fun en w' => en = .returned (.bool (Gs.wins k (stOf n S R) L (stOf m S2 R2) M)) ∧ Below w.heap.size w w' := by
  obtain ⟨a1, a8, aS, aR, _, _⟩ := valid_is hv
  obtain ⟨b1, b8, bS, bR, _, _⟩ := valid_is hv2
  have HT := Lib.hid (Two.new w n S R m S2 R2)
  unfold boxS at HT
  have HA := Lib.hid (fun w' (h : Below w.heap.size w w') => isGame_all n S R m S2 R2 L M v u k w' hk hv hv2 hl hlm hL hM (hg.below h) (hg2.below h))
  have mem : ∀ {K : List Nat} {q : Nat}, (∀ j, j < K.length → K.getD j 0 < q) → ∀ z ∈ K, z < q := by
    intro K q h z hz
    obtain ⟨j, hj, rfl⟩ := List.mem_iff_getElem.1 hz
    have := h j hj
    simpa [hj] using this
  have HG := Lib.hid (fun w' (h : Below w.heap.size w w') => secondWins_any n S R m S2 R2 v u L M k w' ⟨aS, aR, a8, bS, bR, b8, hlm, by omega, mem hL, mem hM⟩ (hg.below h) (hg2.below h))
  obtain ⟨g, cap, rfl, _, _, _⟩ := hg.view
  obtain ⟨g2, cap2, rfl, _, _, _⟩ := hg2.view
  clear hg hg2 mem hL hM
  rw [← hlm] at HA HG ⊢
  generalize Gs.wins k (stOf n S R) L (stOf m S2 R2) M = W at *
  clear hlm
  unfold strV at HA HG
  obtain ⟨c0, c1, c2, f0, f1, f2, hl1⟩ := HT.out.a.cells
  obtain ⟨d0, d1, d2, g0, g1, g2, hl2⟩ := HT.out.b.cells
  unfold strV
  go_enter Tryz.func21, Tryz.ntmps21
  go_wp2_with fail
  refine (HA.out _ HT.out.old).mono ?_; rintro e w1 ⟨rfl, hb⟩
  have HT3 := Lib.hid (HT.out.below hb); clear hb c0 c1 c2 f0 f1 f2 hl1 d0 d1 d2 g0 g1 g2 hl2
  obtain ⟨c0, c1, c2, f0, f1, f2, hl1⟩ := HT3.out.a.cells
  obtain ⟨d0, d1, d2, g0, g1, g2, hl2⟩ := HT3.out.b.cells
  go_wp2_with fail
  refine (HG.out _ HT3.out.old).mono ?_; rintro e w2 ⟨rfl, hb⟩
  have HT4 := Lib.hid (HT3.out.below hb); clear hb c0 c1 c2 f0 f1 f2 hl1 d0 d1 d2 g0 g1 g2 hl2
  go_wp2_with fail
  go_ret
  exact ⟨ret_bool (by simp), HT4.out.old⟩
theorem SameRank_any (n : Nat) (S R : ByteArray) (m : Nat) (S2 R2 : ByteArray) (k : Nat) (w : World) (hk : k ≤ 3) (hv : validB n S R = true) (hv2 : validB m S2 R2 = true) :
    Calls Tryz.prog 5 #[strV n S R, strV m S2 R2, .int .i64 (k : Int)] w fun en w' => en = .returned (.bool (Gs.wins k (stOf n S R) [] (stOf m S2 R2) [])) ∧ Below w.heap.size w w' := by
  have HT := Lib.hid (Two.new w n S R m S2 R2)
  unfold boxS at HT
  have HA := Lib.hid (fun w' => SecondWins_all n S R m S2 R2 [] [] (.slice none 0 0) (.slice none 0 0) k w' hk hv hv2 (by decide) rfl (by simp) (by simp) (NumsAt.nil _) (NumsAt.nil _))
  generalize Gs.wins k (stOf n S R) [] (stOf m S2 R2) [] = W at *
  unfold strV at HA
  obtain ⟨c0, c1, c2, f0, f1, f2, hl1⟩ := HT.out.a.cells
  obtain ⟨d0, d1, d2, g0, g1, g2, hl2⟩ := HT.out.b.cells
  unfold strV
  go_enter Tryz.func5, Tryz.ntmps5
  go_wp2_with fail
  refine (HA.out _).mono ?_; rintro e w1 ⟨rfl, hb⟩
  first
  | (have HT3 := Lib.hid (HT.out.old.trans (hb.mono HT.out.old.size)); clear hb; go_wp2_with fail; go_ret; exact ⟨rfl, HT3.out⟩)
  | (have HT3 := Lib.hid hb; clear hb; go_wp2_with fail; go_ret; exact ⟨rfl, HT3.out⟩)
end Go.Proofs.YtofmagiahmmmgaaGreatDoor

namespace Go.Proofs.YtofmagiahmmmgaaGreatDoor
open Go.RowKit
set_option linter.unusedVariables false
set_option maxRecDepth 100000
/-- The last of the first rounds that the second player wins. -/
def wonT (a b : Gs.St) : Nat → Int
  | 0 => -1
  | r + 1 => if Gs.wins r a [] b [] = true then (r : Int) else wonT a b r
theorem wonT_le (a b : Gs.St) : ∀ r, -1 ≤ wonT a b r ∧ wonT a b r ≤ (r : Int) - 1
  | 0 => ⟨Int.le_refl _, by show (-1 : Int) ≤ _; omega⟩
  | r + 1 => by
    have := wonT_le a b r
    unfold wonT
    split <;> omega
theorem wins_zero (a b : Gs.St) : Gs.wins 0 a [] b [] = true := rfl
theorem wins_less {k : Nat} {a b : Gs.St} {la lb : List Nat} (hl : la.length = lb.length) (h : Gs.wins (k + 1) a la b lb = true) : Gs.wins k a la b lb = true := (Gs.wins_iff hl).2 (Gs.eqv_less ((Gs.wins_iff hl).1 h))
theorem wins_down {a b : Gs.St} {i : Nat} : ∀ {j : Nat}, i ≤ j → Gs.wins j a [] b [] = true → Gs.wins i a [] b [] = true
  | 0, h, hw => by obtain rfl : i = 0 := by omega
                   exact hw
  | j + 1, h, hw => by
    by_cases e : i = j + 1
    · rw [e]; exact hw
    · exact wins_down (j := j) (by omega) (wins_less rfl hw)
/-- The rounds that are won. -/
theorem won_iff (a b : Gs.St) : ∀ (k r : Nat), r < k → (Gs.wins r a [] b [] = decide ((r : Int) ≤ wonT a b k))
  | 0, r, h => by omega
  | k + 1, r, h => by
    unfold wonT
    by_cases hk : Gs.wins k a [] b [] = true
    · rw [if_pos hk, wins_down (by omega) hk]
      exact (decide_eq_true (by omega)).symm
    · rw [if_neg hk]
      by_cases e : r = k
      · rw [e, (by simpa using hk : Gs.wins k a [] b [] = false)]
        have := (wonT_le a b k).2
        exact (decide_eq_false (by omega)).symm
      · exact won_iff a b k r (by omega)
/-- The sentence of the first rounds that tell them apart. -/
def senO (a b : Gs.St) (j : Nat) : Option (ByteArray × Nat) := if Gs.wins (j + 1) a [] b [] = false then some (tellF (j + 1) a [] b [], j + 1) else none
def senF (a b : Gs.St) : Option (ByteArray × Nat) := fsO (senO a b) 3
def senV : Option (ByteArray × Nat) → Value
  | some p => .tuple #[.string p.1, .int .i64 (p.2 : Int), .bool true]
  | none => .tuple #[.string ByteArray.empty, .int .i64 0, .bool false]
theorem senF_won {a b : Gs.St} {p : ByteArray × Nat} (h : senF a b = some p) : (p.2 : Int) = wonT a b 4 + 1 ∧ 1 ≤ p.2 ∧ p.2 ≤ 3 := by
  obtain ⟨j, hj, hs, hn⟩ := fsO_some h
  unfold senO at hs
  split at hs
  · rename_i hw
    injection hs with hs
    subst hs
    refine ⟨?_, by omega, by show j + 1 ≤ 3; omega⟩
    show ((j + 1 : Nat) : Int) = _
    have h1 := won_iff a b 4 (j + 1) (by omega)
    rw [hw] at h1
    have h1 := of_decide_eq_false h1.symm
    have h2 := won_iff a b 4 j (by omega)
    have h3 : Gs.wins j a [] b [] = true := by
      cases j with
      | zero => rfl
      | succ i =>
        have := fsO_none_iff.1 hn i (by omega)
        unfold senO at this
        split at this
        · cases this
        · rename_i h4
          simpa using h4
    rw [h3] at h2
    have h2 := of_decide_eq_true h2.symm
    omega
  · cases hs
theorem senF_size {a b : Gs.St} {p : ByteArray × Nat} (h1 : 1 ≤ a.n) (h2 : a.n ≤ 8) (h3 : 1 ≤ b.n) (h4 : b.n ≤ 8) (h : senF a b = some p) : p.1.size ≤ 4000 := by
  obtain ⟨j, hj, hs, hn⟩ := fsO_some h
  unfold senO at hs
  split at hs
  · injection hs with hs
    subst hs
    have := tellF_size (j + 1) a [] b [] h1 h2 h3 h4
    have h5 : szF (j + 1) ≤ 3 + 8 * (355 + 1) := by
      have := szF_le (t := j) (by omega)
      show 3 + 8 * (szF j + 1) ≤ _
      omega
    show (tellF (j + 1) a [] b []).size ≤ _
    omega
  · cases hs
set_option maxHeartbeats 1000000 in
theorem WonRounds_any (n : Nat) (S R : ByteArray) (m : Nat) (S2 R2 : ByteArray) (va vb : Value) (w : World) (hv : validB n S R = true) (hv2 : validB m S2 R2 = true) (hva : NumsAt w va []) (hvb : NumsAt w vb []) :
    Calls Tryz.prog 10 #[strV n S R, va, strV m S2 R2, vb] w fun e w' => e = .returned (.int .i64 (wonT (stOf n S R) (stOf m S2 R2) 4)) ∧ Below w.heap.size w w' := by
  obtain ⟨a1, a8, aS, aR, _, _⟩ := valid_is hv
  obtain ⟨b1, b8, bS, bR, _, _⟩ := valid_is hv2
  have HT := Lib.hid (Two.new w n S R m S2 R2)
  unfold boxS at HT
  have hA := fun w' (h : Below w.heap.size w w') => areLists_all n S R m S2 R2 [] [] va vb w' hv hv2 (by decide) rfl (by simp) (by simp) (hva.below h) (hvb.below h)
  have hW := fun (k : Nat) w' (hk : k ≤ 3) (h : Below w.heap.size w w') => secondWins_any n S R m S2 R2 va vb [] [] k w' ⟨aS, aR, a8, bS, bR, b8, rfl, by simp; omega, by simp, by simp⟩ (hva.below h) (hvb.below h)
  obtain ⟨WT, hWT⟩ : ∃ f, wonT (stOf n S R) (stOf m S2 R2) = f := ⟨_, rfl⟩
  have HWS : Hid (∀ r, WT (r + 1) = if Gs.wins r (stOf n S R) [] (stOf m S2 R2) [] = true then (r : Int) else WT r) := fun r => by rw [← hWT]; rfl
  have HW0 : Hid (WT 0 = -1) := by rw [← hWT]; rfl
  rw [hWT]
  obtain ⟨g, cap, rfl, _, _, _⟩ := hva.view
  obtain ⟨g2, cap2, rfl, _, _, _⟩ := hvb.view
  unfold strV at hA hW
  have HA := Lib.hid hA; have HW := Lib.hid hW
  clear hA hW hva hvb hv hv2 aS aR bS bR hWT
  obtain ⟨c0, c1, c2, f0, f1, f2, hl1⟩ := HT.out.a.cells
  obtain ⟨d0, d1, d2, g0, g1, g2', hl2⟩ := HT.out.b.cells
  unfold strV
  go_enter Tryz.func10, Tryz.ntmps10
  go_wp2_with fail
  refine (HA.out _ HT.out.old).mono ?_; rintro e w1 ⟨rfl, hb⟩
  have HT1 := Lib.hid (HT.out.below hb)
  clear hb c0 c1 c2 f0 f1 f2 hl1 d0 d1 d2 g0 g1 g2' hl2
  go_wp2_with fail
  go_loopw [17, 9, 10] (fun q v _ wr => ∃ r : Nat, r ≤ 4 ∧ q = .int .i64 (r : Int) ∧ v = .int .i64 (WT r) ∧ Hid (Two w wr n S R m S2 R2)) (fun q _ _ _ => 4 - (intOf q).toNat)
  case atStart => exact ⟨0, by omega, rfl, by rw [HW0.out], HT1.out⟩
  case round =>
    obtain ⟨r, hr, rfl, rfl, HT2⟩ := hrel
    by_cases hlt : r < 4
    · have hrI : (r : Int) < 4 := by omega
      obtain ⟨c0, c1, c2, f0, f1, f2, hl1⟩ := HT2.out.a.cells
      obtain ⟨d0, d1, d2, g0, g1, g2', hl2⟩ := HT2.out.b.cells
      have HS := Lib.hid (HWS.out r)
      have HC := Lib.hid (fun w' h => HW.out r w' (by omega) h)
      generalize Gs.wins r (stOf n S R) [] (stOf m S2 R2) [] = c at *
      go_wp2_with fail
      refine (HC.out _ HT2.out.old).mono ?_; rintro e w3 ⟨rfl, hb⟩
      have HT3 := Lib.hid (HT2.out.below hb)
      clear hb c0 c1 c2 f0 f1 f2 hl1 d0 d1 d2 g0 g1 g2' hl2
      cases c
      · go_wp2_with fail
        go_roundw
        case rel => exact ⟨r + 1, by omega, by go_num, by rw [HS.out]; rfl, HT3⟩
        case measure => simp [intOf]; omega
      · go_wp2_with fail
        go_roundw
        case rel => exact ⟨r + 1, by omega, by go_num, by rw [HS.out]; rfl, HT3⟩
        case measure => simp [intOf]; omega
    · obtain rfl : r = 4 := by omega
      go_wp2_with fail
      go_ret
      exact ⟨rfl, HT2.out.old⟩
set_option maxHeartbeats 1000000 in
theorem SentenceFor_any (n : Nat) (S R : ByteArray) (m : Nat) (S2 R2 : ByteArray) (w : World) (hv : validB n S R = true) (hv2 : validB m S2 R2 = true) :
    Calls Tryz.prog 8 #[strV n S R, strV m S2 R2] w fun e w' => e = .returned (senV (senF (stOf n S R) (stOf m S2 R2))) ∧ Below w.heap.size w w' := by
  obtain ⟨a1, a8, aS, aR, _, _⟩ := valid_is hv
  obtain ⟨b1, b8, bS, bR, _, _⟩ := valid_is hv2
  have ann : n * n ≤ 64 := Nat.mul_le_mul a8 a8
  have bnn : m * m ≤ 64 := Nat.mul_le_mul b8 b8
  have hI1 := fun w => isStructure_any n S R w (by omega) (by omega)
  have hI2 := fun w => isStructure_any m S2 R2 w (by omega) (by omega)
  rw [hv] at hI1; rw [hv2] at hI2
  have HT := Lib.hid (Two.new w n S R m S2 R2)
  unfold boxS at HT
  have hW := fun (k : Nat) w' (hk : k ≤ 3) => secondWins_any n S R m S2 R2 (.slice none 0 0) (.slice none 0 0) [] [] k w' ⟨aS, aR, a8, bS, bR, b8, rfl, by simp; omega, by simp, by simp⟩ (NumsAt.nil _) (NumsAt.nil _)
  have hTL := fun (k : Nat) w' (hk : k ≤ 3) (h : Gs.wins k (stOf n S R) [] (stOf m S2 R2) [] = false) => tell_any k n S R m S2 R2 (.slice none 0 0) (.slice none 0 0) [] [] w' ⟨a1, a8, aS, aR⟩ ⟨b1, b8, bS, bR⟩ rfl (by simp; omega) (by simp) (by simp) (NumsAt.nil _) (NumsAt.nil _) h
  obtain ⟨F, hF⟩ : ∃ F, senO (stOf n S R) (stOf m S2 R2) = F := ⟨_, rfl⟩
  have HF : Hid (∀ j, F j = if Gs.wins (j + 1) (stOf n S R) [] (stOf m S2 R2) [] = false then some (tellF (j + 1) (stOf n S R) [] (stOf m S2 R2) [], j + 1) else none) := fun j => by rw [← hF]; rfl
  have HR : Hid (senF (stOf n S R) (stOf m S2 R2) = fsO F 3) := by rw [← hF]; rfl
  rw [HR.out]
  unfold strV at hI1 hI2 hW hTL
  have HI1 := Lib.hid hI1; have HI2 := Lib.hid hI2; have HW := Lib.hid hW; have HTL := Lib.hid hTL
  clear hI1 hI2 hW hTL hv hv2 aS aR bS bR hF ann bnn HR
  obtain ⟨c0, c1, c2, f0, f1, f2, hl1⟩ := HT.out.a.cells
  unfold strV
  go_enter Tryz.func8, Tryz.ntmps8
  go_wp2_with fail
  refine (HI1.out _).mono ?_; rintro e w1 ⟨rfl, hb⟩
  have HT1 := Lib.hid (HT.out.below hb)
  clear hb c0 c1 c2 f0 f1 f2 hl1
  obtain ⟨d0, d1, d2, g0, g1, g2', hl2⟩ := HT1.out.b.cells
  go_wp2_with fail
  refine (HI2.out _).mono ?_; rintro e w2 ⟨rfl, hb⟩
  have HT2 := Lib.hid (HT1.out.below hb)
  clear hb d0 d1 d2 g0 g1 g2' hl2
  go_wp2_with fail
  go_loopw [7, 8, 9] (fun q _ _ wr => ∃ j : Nat, j ≤ 3 ∧ q = .int .i64 ((j : Int) + 1) ∧ Hid (fsO F j = none) ∧ Hid (Two w wr n S R m S2 R2)) (fun q _ _ _ => 5 - (intOf q).toNat)
  case atStart => exact ⟨0, by omega, rfl, rfl, HT2.out⟩
  case round =>
    obtain ⟨j, hj, rfl, HNO, HT3⟩ := hrel
    by_cases hlt : j < 3
    · have hjI : (j : Int) + 1 ≤ 3 := by omega
      obtain ⟨c0, c1, c2, f0, f1, f2, hl1⟩ := HT3.out.a.cells
      obtain ⟨d0, d1, d2, g0, g1, g2', hl2⟩ := HT3.out.b.cells
      have HS := Lib.hid (HF.out j)
      have hC := fun w' => HW.out (j + 1) w' (by omega)
      have hT := fun w' h => HTL.out (j + 1) w' (by omega) h
      rw [show ((j + 1 : Nat) : Int) = (j : Int) + 1 from rfl] at hC hT
      have HC := Lib.hid hC; have HTT := Lib.hid hT
      clear hC hT
      generalize Gs.wins (j + 1) (stOf n S R) [] (stOf m S2 R2) [] = c at *
      generalize tellF (j + 1) (stOf n S R) [] (stOf m S2 R2) [] = f at *
      go_wp2_with fail
      refine (HC.out _).mono ?_; rintro e w3 ⟨rfl, hb⟩
      have HT4 := Lib.hid (HT3.out.below hb)
      clear hb c0 c1 c2 f0 f1 f2 hl1 d0 d1 d2 g0 g1 g2' hl2
      cases c
      · have HR : Hid (fsO F 3 = some (f, j + 1)) := fsO_yes HNO.out (by rw [HS.out]; rfl) hlt
        obtain ⟨c0, c1, c2, f0, f1, f2, hl1⟩ := HT4.out.a.cells
        obtain ⟨d0, d1, d2, g0, g1, g2', hl2⟩ := HT4.out.b.cells
        go_wp2_with fail
        refine (HTT.out _ trivial).mono ?_; rintro e w4 ⟨rfl, hb⟩
        have HT5 := Lib.hid (HT4.out.below hb)
        clear hb c0 c1 c2 f0 f1 f2 hl1 d0 d1 d2 g0 g1 g2' hl2
        go_wp2_with fail
        go_ret3
        exact ⟨by rw [HR.out]; rfl, HT5.out.old⟩
      · have HN2 : Hid (fsO F (j + 1) = none) := fsO_no HNO.out (by rw [HS.out]; rfl)
        go_wp2_with fail
        go_roundw
        case rel => exact ⟨j + 1, by omega, by go_num, HN2.out, HT4⟩
        case measure => simp [intOf]; omega
    · obtain rfl : j = 3 := by omega
      have hjI : ¬ ((3 : Nat) : Int) + 1 ≤ 3 := by omega
      go_wp2_with fail
      go_ret3
      exact ⟨by rw [HNO.out]; rfl, HT3.out.old⟩
end Go.Proofs.YtofmagiahmmmgaaGreatDoor

/- The program's SecondWins with lists of one element. Conditions: the structures are valid, the elements their own, the rounds at most three. -/
import Derived.Test.YtagnikcnakdehaaDoorSum
import Derived.Test.YtagnikcnakdehaaDoorGoes
namespace Go.Proofs.YtagnikcnakdehaaDoor
open Go.RowKit
set_option linter.unusedVariables false
set_option maxRecDepth 100000

theorem notElem_any (n x b : Nat) (w : World) (hx : x < n) (hn : n ≤ 8) (hc : w.cell? ⟨b, 0, none⟩ = some (.int .i64 (n : Int))) : Calls Tryd.prog 211 #[.int .i64 (x : Int), .pointer (some ⟨b, 0, none⟩)] w fun en w' => en = .returned (.bool false) ∧ w = w' := by
  go_enter Tryd.func211, Tryd.ntmps211
  go_wp2_with fail
  go_ret
  exact ⟨ret_bool (by simp; omega), rfl⟩
theorem index_one (n x b g : Nat) (w : World) (hx : x < n) (hn : n ≤ 8) (hc : w.cell? ⟨b, 0, none⟩ = some (.int .i64 (n : Int))) (hg : w.cell? ⟨g, 0, none⟩ = some (.int .i64 (x : Int))) :
    Calls Tryd.prog 229 #[.slice (some ⟨g, 0, none⟩) 1 1, .func (.func 211) #[] #[.pointer (some ⟨b, 0, none⟩)]] w fun en w' => en = .returned (.int .i64 (-1)) ∧ w = w' := by
  have HN := Lib.hid (notElem_any n x b w hx hn hc)
  go_enter Tryd.func229, Tryd.ntmps229
  go_wp2_with fail
  go_loopw [8, 5] (fun i _ wr => (i = .int .i64 0 ∨ i = .int .i64 1) ∧ wr = w) (fun i _ _ => (1 - intOf i).toNat)
  case atStart => exact ⟨.inl rfl, rfl⟩
  case round =>
    obtain ⟨hi, rfl⟩ := hrel
    rcases hi with rfl | rfl
    · go_wp2_with fail
      refine HN.out.mono ?_; rintro _ _ ⟨rfl, rfl⟩
      go_wp2_with fail
      go_roundw
      case rel => exact ⟨.inr rfl, trivial⟩
      case measure => simp [intOf]
    · go_wp2_with fail
      go_ret
      exact ⟨rfl, rfl⟩
theorem areElements_one (n x g : Nat) (S R : ByteArray) (w : World) (hx : x < n) (hn : n ≤ 8) (hg : w.cell? ⟨g, 0, none⟩ = some (.int .i64 (x : Int))) : Calls Tryd.prog 171 #[strV n S R, .slice (some ⟨g, 0, none⟩) 1 1] w fun en w' => en = .returned (.bool true) ∧ Below w.heap.size w w' := by
  have HB : Hid (SBlk (boxS w n S R) w.heap.size n S R ∧ Below w.heap.size w (boxS w n S R)) := ⟨boxS_SBlk _ _ _ _, boxS_below _ _ _ _⟩
  have HI := Lib.hid (index_one n x w.heap.size g (boxS w n S R) hx hn HB.out.1.cells.1 ((HB.out.2.cell (World.block_lt_of_cell? w _ hg)).trans hg))
  unfold boxS at HI HB
  unfold strV
  go_enter Tryd.func171, Tryd.ntmps171
  go_wp2_with fail
  go_enter Tryd.func210, Tryd.ntmps210
  go_wp2_with fail
  refine HI.out.mono ?_; rintro _ _ ⟨rfl, rfl⟩
  go_wp2_with fail
  go_ret
  exact ⟨rfl, HB.out.2⟩
/-- One element of a structure, as a list. -/
structure OneAt (w : World) (v : Value) (x : Nat) : Prop where
  is : ∃ g, v = .slice (some ⟨g, 0, none⟩) 1 1 ∧ w.cell? ⟨g, 0, none⟩ = some (.int .i64 (x : Int))
theorem OneAt.below {w w' : World} {v : Value} {x : Nat} (h : OneAt w v x) (hb : Below w.heap.size w w') : OneAt w' v x := by
  obtain ⟨g, h1, h2⟩ := h.is
  exact ⟨g, h1, (hb.cell (World.block_lt_of_cell? w _ h2)).trans h2⟩
theorem isList_one (n x : Nat) (S R : ByteArray) (v : Value) (w : World) (hv : validB n S R = true) (hx : x < n) (hg : OneAt w v x) : Calls Tryd.prog 203 #[strV n S R, v] w fun en w' => en = .returned (.bool true) ∧ Below w.heap.size w w' := by
  obtain ⟨h1, h8, hS, hR, _, _⟩ := valid_is hv
  have HIS : Hid (∀ w, Calls Tryd.prog 92 #[strV n S R] w fun e w' => e = .returned (.bool true) ∧ Below w.heap.size w w') := fun w => by
    have := isStructure_any n S R w (by omega) (by rw [hR]; have := Nat.mul_le_mul h8 h8; omega)
    rw [hv] at this
    exact this
  obtain ⟨g, rfl, hgc⟩ := hg.is
  have HAE : Hid (∀ w', Below w.heap.size w w' → Calls Tryd.prog 171 #[strV n S R, .slice (some ⟨g, 0, none⟩) 1 1] w' fun en w2 => en = .returned (.bool true) ∧ Below w'.heap.size w' w2) := fun w' hb => areElements_one n x g S R w' hx h8 ((hb.cell (World.block_lt_of_cell? w _ hgc)).trans hgc)
  have HB : Hid (SBlk (boxS w n S R) w.heap.size n S R ∧ Below w.heap.size w (boxS w n S R)) := ⟨boxS_SBlk _ _ _ _, boxS_below _ _ _ _⟩
  unfold boxS at HB
  clear hg hgc
  unfold strV at HIS HAE
  unfold strV
  go_enter Tryd.func203, Tryd.ntmps203
  go_wp2_with fail
  refine (HIS.out _).mono ?_; rintro _ w1 ⟨rfl, hb1⟩
  have HB1 : Hid (SBlk w1 w.heap.size n S R ∧ Below w.heap.size w w1) := ⟨HB.out.1.below hb1 HB.out.1.cells.2.2.2.2.2.2, HB.out.2.trans (hb1.mono HB.out.2.size)⟩
  clear hb1
  have s0 := HB1.out.1.cells.1
  have s1 := HB1.out.1.cells.2.1
  have s2 := HB1.out.1.cells.2.2.1
  go_wp2_with fail
  refine (HAE.out _ HB1.out.2).mono ?_; rintro _ w2 ⟨rfl, hb2⟩
  have HB2 := Lib.hid (HB1.out.2.trans (hb2.mono HB1.out.2.size))
  clear hb2 s0 s1 s2
  go_wp2_with fail
  go_ret
  exact ⟨rfl, HB2.out⟩
theorem areLists_one (n x : Nat) (S R : ByteArray) (m y : Nat) (S2 R2 : ByteArray) (v u : Value) (w : World) (hv : validB n S R = true) (hv2 : validB m S2 R2 = true) (hx : x < n) (hy : y < m) (hg : OneAt w v x) (hg2 : OneAt w u y) :
    Calls Tryd.prog 158 #[strV n S R, v, strV m S2 R2, u] w fun en w' => en = .returned (.bool true) ∧ Below w.heap.size w w' := by
  have HT := Lib.hid (Two.new w n S R m S2 R2)
  unfold boxS at HT
  have HA := Lib.hid (fun w' (h : Below w.heap.size w w') => isList_one n x S R v w' hv hx (hg.below h))
  have HB := Lib.hid (fun w' (h : Below w.heap.size w w') => isList_one m y S2 R2 u w' hv2 hy (hg2.below h))
  obtain ⟨g, rfl, _⟩ := hg.is
  obtain ⟨g2, rfl, _⟩ := hg2.is
  clear hg hg2
  unfold strV at HA HB
  obtain ⟨c0, c1, c2, f0, f1, f2, hl1⟩ := HT.out.a.cells
  unfold strV
  go_enter Tryd.func158, Tryd.ntmps158
  go_wp2_with fail
  refine (HA.out _ HT.out.old).mono ?_; rintro e w1 ⟨rfl, hb⟩
  have HT3 := Lib.hid (HT.out.below hb); clear hb c0 c1 c2 f0 f1 f2 hl1
  obtain ⟨d0, d1, d2, g0, g1, g2, hl2⟩ := HT3.out.b.cells
  go_wp2_with fail
  refine (HB.out _ HT3.out.old).mono ?_; rintro e w2 ⟨rfl, hb⟩
  have HT4 := Lib.hid (HT3.out.below hb); clear hb d0 d1 d2 g0 g1 g2 hl2
  go_wp2_with fail
  go_ret
  exact ⟨rfl, HT4.out.old⟩
theorem isGame_one (n x : Nat) (S R : ByteArray) (m y : Nat) (S2 R2 : ByteArray) (v u : Value) (k : Nat) (w : World) (hk : k ≤ 3) (hv : validB n S R = true) (hv2 : validB m S2 R2 = true) (hx : x < n) (hy : y < m) (hg : OneAt w v x) (hg2 : OneAt w u y) :
    Calls Tryd.prog 89 #[strV n S R, v, strV m S2 R2, u, .int .i64 (k : Int)] w fun en w' => en = .returned (.bool true) ∧ Below w.heap.size w w' := by
  have HT := Lib.hid (Two.new w n S R m S2 R2)
  unfold boxS at HT
  have HA := Lib.hid (fun w' (h : Below w.heap.size w w') => areLists_one n x S R m y S2 R2 v u w' hv hv2 hx hy (hg.below h) (hg2.below h))
  clear hg hg2
  unfold strV at HA
  obtain ⟨c0, c1, c2, f0, f1, f2, hl1⟩ := HT.out.a.cells
  obtain ⟨d0, d1, d2, g0, g1, g2, hl2⟩ := HT.out.b.cells
  unfold strV
  go_enter Tryd.func89, Tryd.ntmps89
  go_wp2_with fail
  refine (HA.out _ HT.out.old).mono ?_; rintro e w1 ⟨rfl, hb⟩
  have HT3 := Lib.hid (HT.out.below hb); clear hb c0 c1 c2 f0 f1 f2 hl1 d0 d1 d2 g0 g1 g2 hl2
  go_wp2_with fail
  go_ret
  exact ⟨ret_bool (by simp; omega), HT3.out.old⟩
theorem SecondWins_one (n x : Nat) (S R : ByteArray) (m y : Nat) (S2 R2 : ByteArray) (v u : Value) (k : Nat) (w : World) (hk : k ≤ 3) (hv : validB n S R = true) (hv2 : validB m S2 R2 = true) (hx : x < n) (hy : y < m) (hg : OneAt w v x) (hg2 : OneAt w u y) :
    Calls Tryd.prog 36 #[strV n S R, v, strV m S2 R2, u, .int .i64 (k : Int)] w fun en w' => en = .returned (.bool (Gs.wins k (stOf n S R) [x] (stOf m S2 R2) [y])) ∧ Below w.heap.size w w' := by
  obtain ⟨a1, a8, aS, aR, _, _⟩ := valid_is hv
  obtain ⟨b1, b8, bS, bR, _, _⟩ := valid_is hv2
  have HT := Lib.hid (Two.new w n S R m S2 R2)
  unfold boxS at HT
  have HA := Lib.hid (fun w' (h : Below w.heap.size w w') => isGame_one n x S R m y S2 R2 v u k w' hk hv hv2 hx hy (hg.below h) (hg2.below h))
  have nums : ∀ {w' : World} {v : Value} {x : Nat}, OneAt w' v x → NumsAt w' v [x] := by
    intro w' v x h
    obtain ⟨g, rfl, hc⟩ := h.is
    refine .inr ⟨g, 0, 1, rfl, by simp, by decide, World.block_lt_of_cell? _ _ hc, fun j hj => ?_⟩
    have : j = 0 := by simpa using hj
    subst this
    exact hc
  have HG := Lib.hid (fun w' (h : Below w.heap.size w w') => secondWins_any n S R m S2 R2 v u [x] [y] k w' ⟨aS, aR, a8, bS, bR, b8, rfl, by simp; omega, by simpa using hx, by simpa using hy⟩ (nums (hg.below h)) (nums (hg2.below h)))
  clear hg hg2 nums
  generalize Gs.wins k (stOf n S R) [x] (stOf m S2 R2) [y] = W at *
  unfold strV at HA HG
  obtain ⟨c0, c1, c2, f0, f1, f2, hl1⟩ := HT.out.a.cells
  obtain ⟨d0, d1, d2, g0, g1, g2, hl2⟩ := HT.out.b.cells
  unfold strV
  go_enter Tryd.func36, Tryd.ntmps36
  go_wp2_with fail
  refine (HA.out _ HT.out.old).mono ?_; rintro e w1 ⟨rfl, hb⟩
  have HT3 := Lib.hid (HT.out.below hb); clear hb c0 c1 c2 f0 f1 f2 hl1 d0 d1 d2 g0 g1 g2 hl2
  obtain ⟨c0, c1, c2, f0, f1, f2, hl1⟩ := HT3.out.a.cells
  obtain ⟨d0, d1, d2, g0, g1, g2, hl2⟩ := HT3.out.b.cells
  go_wp2_with fail
  refine (HG.out _ HT3.out.old).mono ?_; rintro e w2 ⟨rfl, hb⟩
  have HT4 := Lib.hid (HT3.out.below hb); clear hb c0 c1 c2 f0 f1 f2 hl1 d0 d1 d2 g0 g1 g2 hl2
  go_wp2_with fail
  go_ret
  exact ⟨ret_bool (by simp), HT4.out.old⟩
end Go.Proofs.YtagnikcnakdehaaDoor

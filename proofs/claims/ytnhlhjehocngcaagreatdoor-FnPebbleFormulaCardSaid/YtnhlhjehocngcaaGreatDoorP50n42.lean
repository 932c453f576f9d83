/- Contracts of the program's functions and what they compute: part 42. Conditions: those that each theorem states. -/
import Derived.Test.YtnhlhjehocngcaaGreatDoorP50n41
import Derived.Test.YtnhlhjehocngcaaGreatDoorP50n14
import Derived.Test.YtnhlhjehocngcaaGreatDoorP50n35
import Derived.Test.YtnhlhjehocngcaaGreatDoorP50n2
import Derived.Test.YtnhlhjehocngcaaGreatDoorP50n3
import Derived.Test.YtnhlhjehocngcaaGreatDoorP50n5
import Derived.Test.YtnhlhjehocngcaaGreatDoorP50n10
import Derived.IntWalk
import Derived.Laws.EntriesVeiled
namespace Go.Proofs.YtnhlhjehocngcaaGreatDoor
open Go.RowKit
set_option linter.unusedVariables false
set_option maxRecDepth 100000
theorem holds_list1 (φ : Fm.T) (F G : Nat → Prop) (w : World) (hb kb n : Nat) (S R : ByteArray) (p g o cap x : Nat) (hB : Base F G w hb kb n S R) (hT : Tree F w φ p) (hx : x < n)
    (g0 : w.cell? ⟨g, o, none⟩ = some (.int .i64 (x : Int))) :
    Calls Tryz.prog 80 #[ptrV hb, ptrV p, .slice (some ⟨g, o, none⟩) 1 cap] w fun en w' => en = .returned (.bool (Fm.holds (stOf n S R) φ (envL [x]))) ∧ EverP F G kb (stOf n S R) w w' := by
  have hbel0 : Below w.heap.size w (w.alloc (.cells #[.int .i64 0, .int .i64 0, .int .i64 0, .int .i64 0] 162)) := (Below.refl w.heap.size w).alloc (Nat.le_refl _) _
  have hbel : Below w.heap.size w (w.alloc (.cells #[.int .i64 (x : Int), .int .i64 0, .int .i64 0, .int .i64 0] 162)) := (Below.refl w.heap.size w).alloc (Nat.le_refl _) _
  have cn := copy_intsO (w.alloc (.cells #[.int .i64 0, .int .i64 0, .int .i64 0, .int .i64 0] 162)) w.heap.size g o cap [.int .i64 (x : Int)] (by simp)
    (fun j v h => by
      rcases j with _ | j
      · simp at h; subst h
        exact (hbel0.cell (World.block_lt_of_cell? w _ g0)).trans g0
      · simp at h) (fresh4 w).1 (fresh4 w).2 (fun v hv => by simp at hv; subst hv; rfl)
  have HC : Hid (Calls Tryz.prog 138 #[ptrV hb, ptrV p, .agg #[.int .i64 (x : Int), .int .i64 0, .int .i64 0, .int .i64 0]] (w.alloc (.cells #[.int .i64 (x : Int), .int .i64 0, .int .i64 0, .int .i64 0] 162)) fun en w' => en = .returned (.bool (Fm.holds (stOf n S R) φ (envL [x]))) ∧ EverP F G kb (stOf n S R) (w.alloc (.cells #[.int .i64 (x : Int), .int .i64 0, .int .i64 0, .int .i64 0] 162)) w') :=
    true_any φ F G _ hb kb n S R p (envL [x]) (hB.below hbel) (hT.below hbel) (envL_lt (by omega) (by
      intro j hj
      rcases j with _ | j
      · exact hx
      · exact absurd hj (by simp)))
  have HE := Lib.hid (EverP.of_below hB.memo hbel)
  clear hB hT hbel hbel0 g0
  unfold ptrV at HC
  unfold ptrV
  simp only [World.setCells, List.length_cons, List.length_nil] at cn
  go_enter Tryz.func80, Tryz.ntmps80
  go_wp2_with fail
  refine HC.out.mono ?_; rintro _ w1 ⟨rfl, hev⟩
  have HEND := Lib.hid (HE.out.then (fun b hb => .inl hb) hev)
  clear hev
  go_wp2_with fail
  go_ret
  exact ⟨rfl, HEND.out⟩
theorem holds_list2 (φ : Fm.T) (F G : Nat → Prop) (w : World) (hb kb n : Nat) (S R : ByteArray) (p g o cap x y : Nat) (hB : Base F G w hb kb n S R) (hT : Tree F w φ p) (hx : x < n) (hy : y < n)
    (g0 : w.cell? ⟨g, o, none⟩ = some (.int .i64 (x : Int))) (g1 : w.cell? ⟨g, o + 1, none⟩ = some (.int .i64 (y : Int))) :
    Calls Tryz.prog 80 #[ptrV hb, ptrV p, .slice (some ⟨g, o, none⟩) 2 cap] w fun en w' => en = .returned (.bool (Fm.holds (stOf n S R) φ (envL [x, y]))) ∧ EverP F G kb (stOf n S R) w w' := by
  have hbel0 : Below w.heap.size w (w.alloc (.cells #[.int .i64 0, .int .i64 0, .int .i64 0, .int .i64 0] 162)) := (Below.refl w.heap.size w).alloc (Nat.le_refl _) _
  have hbel : Below w.heap.size w (w.alloc (.cells #[.int .i64 (x : Int), .int .i64 (y : Int), .int .i64 0, .int .i64 0] 162)) := (Below.refl w.heap.size w).alloc (Nat.le_refl _) _
  have cn := copy_intsO (w.alloc (.cells #[.int .i64 0, .int .i64 0, .int .i64 0, .int .i64 0] 162)) w.heap.size g o cap [.int .i64 (x : Int), .int .i64 (y : Int)] (by simp)
    (fun j v h => by
      rcases j with _ | _ | j
      · simp at h; subst h
        exact (hbel0.cell (World.block_lt_of_cell? w _ g0)).trans g0
      · simp at h; subst h
        exact (hbel0.cell (World.block_lt_of_cell? w _ g1)).trans g1
      · simp at h) (fresh4 w).1 (fresh4 w).2 (fun v hv => by simp at hv; rcases hv with rfl | rfl <;> rfl)
  have HC : Hid (Calls Tryz.prog 138 #[ptrV hb, ptrV p, .agg #[.int .i64 (x : Int), .int .i64 (y : Int), .int .i64 0, .int .i64 0]] (w.alloc (.cells #[.int .i64 (x : Int), .int .i64 (y : Int), .int .i64 0, .int .i64 0] 162)) fun en w' => en = .returned (.bool (Fm.holds (stOf n S R) φ (envL [x, y]))) ∧ EverP F G kb (stOf n S R) (w.alloc (.cells #[.int .i64 (x : Int), .int .i64 (y : Int), .int .i64 0, .int .i64 0] 162)) w') :=
    true_any φ F G _ hb kb n S R p (envL [x, y]) (hB.below hbel) (hT.below hbel) (envL_lt (by omega) (by
      intro j hj
      rcases j with _ | _ | j
      · exact hx
      · exact hy
      · exact absurd hj (by simp)))
  have HE := Lib.hid (EverP.of_below hB.memo hbel)
  clear hB hT hbel hbel0 g0 g1
  unfold ptrV at HC
  unfold ptrV
  simp only [World.setCells, List.length_cons, List.length_nil] at cn
  go_enter Tryz.func80, Tryz.ntmps80
  go_wp2_with fail
  refine HC.out.mono ?_; rintro _ w1 ⟨rfl, hev⟩
  have HEND := Lib.hid (HE.out.then (fun b hb => .inl hb) hev)
  clear hev
  go_wp2_with fail
  go_ret
  exact ⟨rfl, HEND.out⟩
theorem holds_list3 (φ : Fm.T) (F G : Nat → Prop) (w : World) (hb kb n : Nat) (S R : ByteArray) (p g o cap x y z : Nat) (hB : Base F G w hb kb n S R) (hT : Tree F w φ p) (hx : x < n) (hy : y < n) (hz : z < n)
    (g0 : w.cell? ⟨g, o, none⟩ = some (.int .i64 (x : Int))) (g1 : w.cell? ⟨g, o + 1, none⟩ = some (.int .i64 (y : Int))) (g2 : w.cell? ⟨g, o + 2, none⟩ = some (.int .i64 (z : Int))) :
    Calls Tryz.prog 80 #[ptrV hb, ptrV p, .slice (some ⟨g, o, none⟩) 3 cap] w fun en w' => en = .returned (.bool (Fm.holds (stOf n S R) φ (envL [x, y, z]))) ∧ EverP F G kb (stOf n S R) w w' := by
  have hbel0 : Below w.heap.size w (w.alloc (.cells #[.int .i64 0, .int .i64 0, .int .i64 0, .int .i64 0] 162)) := (Below.refl w.heap.size w).alloc (Nat.le_refl _) _
  have hbel : Below w.heap.size w (w.alloc (.cells #[.int .i64 (x : Int), .int .i64 (y : Int), .int .i64 (z : Int), .int .i64 0] 162)) := (Below.refl w.heap.size w).alloc (Nat.le_refl _) _
  have cn := copy_intsO (w.alloc (.cells #[.int .i64 0, .int .i64 0, .int .i64 0, .int .i64 0] 162)) w.heap.size g o cap [.int .i64 (x : Int), .int .i64 (y : Int), .int .i64 (z : Int)] (by simp)
    (fun j v h => by
      rcases j with _ | _ | _ | j
      · simp at h; subst h
        exact (hbel0.cell (World.block_lt_of_cell? w _ g0)).trans g0
      · simp at h; subst h
        exact (hbel0.cell (World.block_lt_of_cell? w _ g1)).trans g1
      · simp at h; subst h
        exact (hbel0.cell (World.block_lt_of_cell? w _ g2)).trans g2
      · simp at h) (fresh4 w).1 (fresh4 w).2 (fun v hv => by simp at hv; rcases hv with rfl | rfl | rfl <;> rfl)
  have HC : Hid (Calls Tryz.prog 138 #[ptrV hb, ptrV p, .agg #[.int .i64 (x : Int), .int .i64 (y : Int), .int .i64 (z : Int), .int .i64 0]] (w.alloc (.cells #[.int .i64 (x : Int), .int .i64 (y : Int), .int .i64 (z : Int), .int .i64 0] 162)) fun en w' => en = .returned (.bool (Fm.holds (stOf n S R) φ (envL [x, y, z]))) ∧ EverP F G kb (stOf n S R) (w.alloc (.cells #[.int .i64 (x : Int), .int .i64 (y : Int), .int .i64 (z : Int), .int .i64 0] 162)) w') :=
    true_any φ F G _ hb kb n S R p (envL [x, y, z]) (hB.below hbel) (hT.below hbel) (envL_lt (by omega) (by
      intro j hj
      rcases j with _ | _ | _ | j
      · exact hx
      · exact hy
      · exact hz
      · exact absurd hj (by simp)))
  have HE := Lib.hid (EverP.of_below hB.memo hbel)
  clear hB hT hbel hbel0 g0 g1 g2
  unfold ptrV at HC
  unfold ptrV
  simp only [World.setCells, List.length_cons, List.length_nil] at cn
  go_enter Tryz.func80, Tryz.ntmps80
  go_wp2_with fail
  refine HC.out.mono ?_; rintro _ w1 ⟨rfl, hev⟩
  have HEND := Lib.hid (HE.out.then (fun b hb => .inl hb) hev)
  clear hev
  go_wp2_with fail
  go_ret
  exact ⟨rfl, HEND.out⟩
theorem holds_list (φ : Fm.T) (F G : Nat → Prop) (w : World) (hb kb n : Nat) (S R : ByteArray) (p : Nat) (a : Option Addr) (cap : Nat) (L : List Nat) (hB : Base F G w hb kb n S R) (hT : Tree F w φ p) (h1 : 1 ≤ L.length) (h3 : L.length ≤ 3) (hL : ∀ j, j < L.length → L.getD j 0 < n) (hat : NumsAt w (.slice a L.length cap) L) :
    Calls Tryz.prog 80 #[ptrV hb, ptrV p, .slice a L.length cap] w fun en w' => en = .returned (.bool (Fm.holds (stOf n S R) φ (envL L))) ∧ EverP F G kb (stOf n S R) w w' := by
  obtain ⟨a', cap', e, _, _, l3⟩ := hat.view
  obtain ⟨rfl, rfl⟩ : a = a' ∧ cap = cap' := by injection e with e1 _ e2; exact ⟨e1, e2⟩
  obtain ⟨g, o, rfl, hg, hc⟩ := l3 (by omega)
  match L, h1, h3 with
  | [x], _, _ => exact holds_list1 φ F G w hb kb n S R p g o cap x hB hT (hL 0 (by simp)) (hc 0 (by simp))
  | [x, y], _, _ => exact holds_list2 φ F G w hb kb n S R p g o cap x y hB hT (hL 0 (by simp)) (hL 1 (by simp)) (hc 0 (by simp)) (hc 1 (by simp))
  | [x, y, z], _, _ => exact holds_list3 φ F G w hb kb n S R p g o cap x y z hB hT (hL 0 (by simp)) (hL 1 (by simp)) (hL 2 (by simp)) (hc 0 (by simp)) (hc 1 (by simp)) (hc 2 (by simp))
theorem shr_free {fr k : Nat} (hf : fr < 16) (hk : k ≤ 4) (h : ∀ u : Fin 4, fr.testBit u.val = true → u.val < k) : fr >>> k = 0 := by
  have key : ∀ fr : Fin 16, ∀ k : Fin 5, (∀ u : Fin 4, fr.val.testBit u.val = true → u.val < k.val) → fr.val >>> k.val = 0 := by decide
  exact key ⟨fr, hf⟩ ⟨k, by omega⟩ h
set_option maxHeartbeats 1000000 in
theorem implHoldsAtL (f : ByteArray) (φ : Fm.T) (hr : readB f = some φ) (hf : f.size ≤ 9223372036854775807) (n : Nat) (S R : ByteArray) (hv : validB n S R = true) (L : List Nat) (hl1 : 1 ≤ L.length) (hl3 : L.length ≤ 3) (hfr : ∀ u : Fin 4, (Fm.free φ).testBit u.val = true → u.val < L.length) (hL : ∀ j, j < L.length → L.getD j 0 < n) (v : Value) (w : World) (hat : NumsAt w v L) :
    Calls Tryz.prog 37 #[strV n S R, .string f, v] w fun en w' => en = .returned (.tuple #[.bool (Fm.holds (stOf n S R) φ (envL L)), .bool true]) ∧ Below w.heap.size w w' := by
  obtain ⟨h1, h8, hS, hR, _, _⟩ := valid_is hv
  have HIS : Hid (∀ w, Calls Tryz.prog 45 #[strV n S R] w fun e w' => e = .returned (.bool true) ∧ Below w.heap.size w w') := fun w => by
    have := isStructure_any n S R w (by omega) (by rw [hR]; have := Nat.mul_le_mul h8 h8; omega)
    rw [hv] at this
    exact this
  have HAE : Hid (∀ w', Below w.heap.size w w' → Calls Tryz.prog 78 #[strV n S R, v] w' fun en w2 => en = .returned (.bool true) ∧ Below w'.heap.size w' w2) := fun w' hb => areElements_all n S R L v w' (hat.below hb) hL h8
  have HNH := Lib.hid (fun F w hF => newHolder_any n S R hv F w hF)
  have HB : Hid (SBlk (boxS w n S R) w.heap.size n S R ∧ Below w.heap.size w (boxS w n S R)) := ⟨boxS_SBlk _ _ _ _, boxS_below _ _ _ _⟩
  obtain ⟨a, cap, rfl, l1, l2, l3⟩ := hat.view
  have HHN : Hid (∀ (F G : Nat → Prop) (w' : World) (hb kb p : Nat), Below w.heap.size w w' → Base F G w' hb kb n S R → Tree F w' φ p → Calls Tryz.prog 80 #[ptrV hb, ptrV p, .slice a L.length cap] w' fun en w2 => en = .returned (.bool (Fm.holds (stOf n S R) φ (envL L))) ∧ EverP F G kb (stOf n S R) w' w2) :=
    fun F G w' hb kb p hbel hB hT => holds_list φ F G w' hb kb n S R p a cap L hB hT hl1 hl3 hL (hat.below hbel)
  have hfl := Fm.free_lt φ
  have hsh := shr_free hfl (show L.length ≤ 4 by omega) hfr
  have HPF := Lib.hid (fun w => parseFormula_any f w hf)
  rw [hr] at HPF
  have hlI : (L.length : Int) ≤ 3 := by omega
  have hl0 : (0 : Int) ≤ (L.length : Int) := by omega
  clear hat l3 hL hfr hr
  unfold maxLen at l2
  generalize Fm.holds (stOf n S R) φ (envL L) = tr at *
  obtain ⟨W, hW⟩ : ∃ W, boxS w n S R = W := ⟨_, rfl⟩
  rw [hW] at HB
  unfold boxS at hW
  obtain ⟨x3, hx3⟩ : ∃ x, w.heap.size = x := ⟨_, rfl⟩
  rw [hx3] at HB
  have HX3 := Lib.hid hx3
  have HW := Lib.hid hW
  clear hW hx3
  unfold strV at HIS HAE HNH
  unfold strV
  have HFH : Hid ((Fm.free φ : Int) / (2 ^ L.length : Nat) = 0) := by
    have h := hsh
    rw [Nat.shiftRight_eq_div_pow] at h
    show _ = _
    rw [← Int.natCast_ediv, h]; rfl
  clear hsh hl0 hlI
  generalize L.length = kk at *
  have hk : kk = 1 ∨ kk = 2 ∨ kk = 3 := by omega
  clear hl1 hl3
  rcases hk with rfl | rfl | rfl
  · go_enter Tryz.func37, Tryz.ntmps37
    go_upto_region 1 with fail
    rw [HW.out, HX3.out]
    go_wp2_with fail
    refine (HPF.out _).mono ?_
    rintro en w2 ⟨hb2, hor⟩
    have HB2 : Hid (SBlk w2 x3 n S R ∧ Below w.heap.size w w2) := ⟨HB.out.1.below hb2 HB.out.1.cells.2.2.2.2.2.2, (by rw [HX3.out]; exact HB.out.2.trans (hb2.mono (by have := HB.out.2.size; rw [HX3.out] at this; exact this)))⟩
    clear hb2
    rcases hor with ⟨hr, _⟩ | ⟨φ', p, hr, rfl, ht⟩
    · cases hr
    · obtain rfl := Option.some.inj hr
      clear hr
      have HT := Lib.hid ht
      clear ht
      have s0 := HB2.out.1.cells.1
      have s1 := HB2.out.1.cells.2.1
      have s2 := HB2.out.1.cells.2.2.1
      unfold ptrV
      go_wp2_with fail
      refine (HIS.out _).mono ?_; rintro _ w3 ⟨rfl, hb3⟩
      have HB3 : Hid (SBlk w3 x3 n S R ∧ Below w.heap.size w w3) := ⟨HB2.out.1.below hb3 HB2.out.1.cells.2.2.2.2.2.2, HB2.out.2.trans (hb3.mono HB2.out.2.size)⟩
      have HT3 := Lib.hid (HT.out.below hb3)
      clear s0 s1 s2 hb3
      have s0 := HB3.out.1.cells.1
      have s1 := HB3.out.1.cells.2.1
      have s2 := HB3.out.1.cells.2.2.1
      go_wp2_with fail
      refine (HAE.out _ HB3.out.2).mono ?_; rintro _ w4 ⟨rfl, hb4⟩
      have HB4 : Hid (SBlk w4 x3 n S R ∧ Below w.heap.size w w4) := ⟨HB3.out.1.below hb4 HB3.out.1.cells.2.2.2.2.2.2, HB3.out.2.trans (hb4.mono HB3.out.2.size)⟩
      have HT4 := Lib.hid (HT3.out.below hb4)
      clear s0 s1 s2 hb4
      have s0 := HB4.out.1.cells.1
      have s1 := HB4.out.1.cells.2.1
      have s2 := HB4.out.1.cells.2.2.1
      obtain ⟨v, u, qs, nd, _⟩ := HT4.out.node
      have c3 := nd.cells.2.2.2.1
      have HTI := Lib.hid HT4.out.tight
      clear nd
      have hfr : (Fm.free φ : Int) / 2 = 0 := HFH.out
      generalize Fm.free φ = fr at *
      go_wp2_with fail
      refine (HNH.out (fun b => W.heap.size ≤ b ∧ b < w4.heap.size) w4 (fun b hb => hb.2)).mono ?_
      rintro _ w5 ⟨hb, kb, rfl, hkb, hbase, hb5⟩
      have HBS := Lib.hid hbase
      have HT5 := Lib.hid ((HTI.out.below hb5).mono (F' := fun b => (W.heap.size ≤ b ∧ b < w4.heap.size) ∨ b = hb) (fun b h => .inl h))
      have HB5 : Hid (Below w.heap.size w w5) := HB4.out.2.trans (hb5.mono HB4.out.2.size)
      have HKB : Hid (w.heap.size ≤ kb) := Nat.le_trans HB4.out.2.size hkb
      clear s0 s1 s2 c3 hbase hb5 hkb
      have HCC2 := HHN.out _ _ _ _ _ _ HB5.out HBS.out HT5.out
      unfold ptrV at HCC2
      have HCD := Lib.hid HCC2
      clear HCC2
      unfold ptrV
      go_wp2_with fail
      refine HCD.out.mono ?_; rintro _ w6 ⟨rfl, hev⟩
      have HEND : Hid (Below w.heap.size w w6) := HB5.out.trans (hev.off.below HB5.out.size (fun b hb => by rw [hb]; exact HKB.out))
      clear hev
      go_wp2_with fail
      go_ret2
      exact ⟨rfl, HEND.out⟩
  · go_enter Tryz.func37, Tryz.ntmps37
    go_upto_region 1 with fail
    rw [HW.out, HX3.out]
    go_wp2_with fail
    refine (HPF.out _).mono ?_
    rintro en w2 ⟨hb2, hor⟩
    have HB2 : Hid (SBlk w2 x3 n S R ∧ Below w.heap.size w w2) := ⟨HB.out.1.below hb2 HB.out.1.cells.2.2.2.2.2.2, (by rw [HX3.out]; exact HB.out.2.trans (hb2.mono (by have := HB.out.2.size; rw [HX3.out] at this; exact this)))⟩
    clear hb2
    rcases hor with ⟨hr, _⟩ | ⟨φ', p, hr, rfl, ht⟩
    · cases hr
    · obtain rfl := Option.some.inj hr
      clear hr
      have HT := Lib.hid ht
      clear ht
      have s0 := HB2.out.1.cells.1
      have s1 := HB2.out.1.cells.2.1
      have s2 := HB2.out.1.cells.2.2.1
      unfold ptrV
      go_wp2_with fail
      refine (HIS.out _).mono ?_; rintro _ w3 ⟨rfl, hb3⟩
      have HB3 : Hid (SBlk w3 x3 n S R ∧ Below w.heap.size w w3) := ⟨HB2.out.1.below hb3 HB2.out.1.cells.2.2.2.2.2.2, HB2.out.2.trans (hb3.mono HB2.out.2.size)⟩
      have HT3 := Lib.hid (HT.out.below hb3)
      clear s0 s1 s2 hb3
      have s0 := HB3.out.1.cells.1
      have s1 := HB3.out.1.cells.2.1
      have s2 := HB3.out.1.cells.2.2.1
      go_wp2_with fail
      refine (HAE.out _ HB3.out.2).mono ?_; rintro _ w4 ⟨rfl, hb4⟩
      have HB4 : Hid (SBlk w4 x3 n S R ∧ Below w.heap.size w w4) := ⟨HB3.out.1.below hb4 HB3.out.1.cells.2.2.2.2.2.2, HB3.out.2.trans (hb4.mono HB3.out.2.size)⟩
      have HT4 := Lib.hid (HT3.out.below hb4)
      clear s0 s1 s2 hb4
      have s0 := HB4.out.1.cells.1
      have s1 := HB4.out.1.cells.2.1
      have s2 := HB4.out.1.cells.2.2.1
      obtain ⟨v, u, qs, nd, _⟩ := HT4.out.node
      have c3 := nd.cells.2.2.2.1
      have HTI := Lib.hid HT4.out.tight
      clear nd
      have hfr : (Fm.free φ : Int) / 4 = 0 := HFH.out
      generalize Fm.free φ = fr at *
      go_wp2_with fail
      refine (HNH.out (fun b => W.heap.size ≤ b ∧ b < w4.heap.size) w4 (fun b hb => hb.2)).mono ?_
      rintro _ w5 ⟨hb, kb, rfl, hkb, hbase, hb5⟩
      have HBS := Lib.hid hbase
      have HT5 := Lib.hid ((HTI.out.below hb5).mono (F' := fun b => (W.heap.size ≤ b ∧ b < w4.heap.size) ∨ b = hb) (fun b h => .inl h))
      have HB5 : Hid (Below w.heap.size w w5) := HB4.out.2.trans (hb5.mono HB4.out.2.size)
      have HKB : Hid (w.heap.size ≤ kb) := Nat.le_trans HB4.out.2.size hkb
      clear s0 s1 s2 c3 hbase hb5 hkb
      have HCC2 := HHN.out _ _ _ _ _ _ HB5.out HBS.out HT5.out
      unfold ptrV at HCC2
      have HCD := Lib.hid HCC2
      clear HCC2
      unfold ptrV
      go_wp2_with fail
      refine HCD.out.mono ?_; rintro _ w6 ⟨rfl, hev⟩
      have HEND : Hid (Below w.heap.size w w6) := HB5.out.trans (hev.off.below HB5.out.size (fun b hb => by rw [hb]; exact HKB.out))
      clear hev
      go_wp2_with fail
      go_ret2
      exact ⟨rfl, HEND.out⟩
  · go_enter Tryz.func37, Tryz.ntmps37
    go_upto_region 1 with fail
    rw [HW.out, HX3.out]
    go_wp2_with fail
    refine (HPF.out _).mono ?_
    rintro en w2 ⟨hb2, hor⟩
    have HB2 : Hid (SBlk w2 x3 n S R ∧ Below w.heap.size w w2) := ⟨HB.out.1.below hb2 HB.out.1.cells.2.2.2.2.2.2, (by rw [HX3.out]; exact HB.out.2.trans (hb2.mono (by have := HB.out.2.size; rw [HX3.out] at this; exact this)))⟩
    clear hb2
    rcases hor with ⟨hr, _⟩ | ⟨φ', p, hr, rfl, ht⟩
    · cases hr
    · obtain rfl := Option.some.inj hr
      clear hr
      have HT := Lib.hid ht
      clear ht
      have s0 := HB2.out.1.cells.1
      have s1 := HB2.out.1.cells.2.1
      have s2 := HB2.out.1.cells.2.2.1
      unfold ptrV
      go_wp2_with fail
      refine (HIS.out _).mono ?_; rintro _ w3 ⟨rfl, hb3⟩
      have HB3 : Hid (SBlk w3 x3 n S R ∧ Below w.heap.size w w3) := ⟨HB2.out.1.below hb3 HB2.out.1.cells.2.2.2.2.2.2, HB2.out.2.trans (hb3.mono HB2.out.2.size)⟩
      have HT3 := Lib.hid (HT.out.below hb3)
      clear s0 s1 s2 hb3
      have s0 := HB3.out.1.cells.1
      have s1 := HB3.out.1.cells.2.1
      have s2 := HB3.out.1.cells.2.2.1
      go_wp2_with fail
      refine (HAE.out _ HB3.out.2).mono ?_; rintro _ w4 ⟨rfl, hb4⟩
      have HB4 : Hid (SBlk w4 x3 n S R ∧ Below w.heap.size w w4) := ⟨HB3.out.1.below hb4 HB3.out.1.cells.2.2.2.2.2.2, HB3.out.2.trans (hb4.mono HB3.out.2.size)⟩
      have HT4 := Lib.hid (HT3.out.below hb4)
      clear s0 s1 s2 hb4
      have s0 := HB4.out.1.cells.1
      have s1 := HB4.out.1.cells.2.1
      have s2 := HB4.out.1.cells.2.2.1
      obtain ⟨v, u, qs, nd, _⟩ := HT4.out.node
      have c3 := nd.cells.2.2.2.1
      have HTI := Lib.hid HT4.out.tight
      clear nd
      have hfr : (Fm.free φ : Int) / 8 = 0 := HFH.out
      generalize Fm.free φ = fr at *
      go_wp2_with fail
      refine (HNH.out (fun b => W.heap.size ≤ b ∧ b < w4.heap.size) w4 (fun b hb => hb.2)).mono ?_
      rintro _ w5 ⟨hb, kb, rfl, hkb, hbase, hb5⟩
      have HBS := Lib.hid hbase
      have HT5 := Lib.hid ((HTI.out.below hb5).mono (F' := fun b => (W.heap.size ≤ b ∧ b < w4.heap.size) ∨ b = hb) (fun b h => .inl h))
      have HB5 : Hid (Below w.heap.size w w5) := HB4.out.2.trans (hb5.mono HB4.out.2.size)
      have HKB : Hid (w.heap.size ≤ kb) := Nat.le_trans HB4.out.2.size hkb
      clear s0 s1 s2 c3 hbase hb5 hkb
      have HCC2 := HHN.out _ _ _ _ _ _ HB5.out HBS.out HT5.out
      unfold ptrV at HCC2
      have HCD := Lib.hid HCC2
      clear HCC2
      unfold ptrV
      go_wp2_with fail
      refine HCD.out.mono ?_; rintro _ w6 ⟨rfl, hev⟩
      have HEND : Hid (Below w.heap.size w w6) := HB5.out.trans (hev.off.below HB5.out.size (fun b hb => by rw [hb]; exact HKB.out))
      clear hev
      go_wp2_with fail
      go_ret2
      exact ⟨rfl, HEND.out⟩
end Go.Proofs.YtnhlhjehocngcaaGreatDoor

namespace Go.Proofs.YtnhlhjehocngcaaGreatDoor
open Go.RowKit
set_option linter.unusedVariables false
set_option maxRecDepth 100000
/-- A game after some turns. -/
structure Pw (w : World) (p n : Nat) (S R : ByteArray) (m : Nat) (S2 R2 : ByteArray) (k : Nat) (F : List Bool) (t : Nat) (wr : World) : Prop where
  q : PebQ wr p n S R m S2 R2 k F (lev n m k F t)
  old : Below w.heap.size w wr
  lo : w.heap.size ≤ p
theorem Pw.turn {w wr w' : World} {p n m k t : Nat} {S R S2 R2 : ByteArray} {F : List Bool} {e : Ending} (h : Pw w p n S R m S2 R2 k F t wr) (hl : TurnP wr p n S R m S2 R2 k F (lev n m k F t) e w') : Pw w p n S R m S2 R2 k F (t + 1) w' := by
  obtain ⟨_, h2, h3, _⟩ := hl
  exact ⟨h2, h.old.trans (h3.below h.old.size (fun b hb => by rw [hb]; exact h.lo)), h.lo⟩
theorem Pw.below {w wr w' : World} {p n m k t : Nat} {S R S2 R2 : ByteArray} {F : List Bool} (h : Pw w p n S R m S2 R2 k F t wr) (hb : Below wr.heap.size wr w') : Pw w p n S R m S2 R2 k F t w' := ⟨h.q.below hb, h.old.trans (hb.mono h.old.size), h.lo⟩
theorem play_any (B : World) (p n m k t : Nat) (S R S2 R2 : ByteArray) (F : List Bool) (w : World) (hP : Pw B p n S R m S2 R2 k F 0 w) (hn : n ≤ 8) (hm : m ≤ 8) (hn0 : 1 ≤ n) (hm0 : 1 ≤ m) (hk3 : k ≤ 3) (hF : F.length = (n * m + 1) ^ k) (ht : t ≤ 4) :
    Calls Tryz.prog 40 #[.pointer (some ⟨p, 0, none⟩), .int .i64 (t : Int)] w fun e w' => e = .returned (.tuple #[]) ∧ Pw B p n S R m S2 R2 k F t w' := by
  have HTN := Lib.hid (fun s w hQ => turn_any p n m k S R S2 R2 F (lev n m k F s) w hQ hn hm hn0 hm0 hk3 hF (by rw [lev_len]; exact hF))
  have HP0 := Lib.hid hP
  have htI : (t : Int) ≤ 4 := by omega
  clear hP hF
  go_enter Tryz.func40, Tryz.ntmps40
  go_wp2_with fail
  go_loopw [5] (fun q wr => ∃ j : Nat, j ≤ t ∧ q = .int .i64 (j : Int) ∧ Hid (Pw B p n S R m S2 R2 k F j wr)) (fun q _ => t - (intOf q).toNat)
  case atStart => exact ⟨0, by omega, rfl, HP0.out⟩
  case round =>
    clear HP0
    obtain ⟨j, hj, rfl, HP⟩ := hrel
    by_cases hlt : j < t
    · have hjI : (j : Int) < (t : Int) := by omega
      have HT := Lib.hid (HTN.out j wr HP.out.q)
      go_wp2_with fail
      refine HT.out.mono ?_; rintro e w9 htu
      have HP9 := Lib.hid (HP.out.turn htu)
      obtain ⟨rfl, _⟩ := htu
      go_wp2_with fail
      go_roundw
      case rel => exact ⟨j + 1, by omega, by go_num, HP9.out⟩
      case measure => simp [intOf]; omega
    · obtain rfl : j = t := by omega
      go_wp2_with fail
      refine bodyPost_end (v := .tuple #[]) ?_ rfl ⟨rfl, HP.out⟩
      first
      | kernel_rfl
      | (simp [results, Tryz.results40])
      | (simp [results, Tryz.f40])
set_option maxHeartbeats 2000000 in
theorem PebblesWin_any (n m t : Nat) (S R S2 R2 : ByteArray) (L M : List Int) (v u : Value) (w : World) (hv : IntsAt w v L) (hu : IntsAt w u M) (hrd : pebRdB n S R L m S2 R2 M = true) (ht : t ≤ 3) :
    Calls Tryz.prog 13 #[strV n S R, v, strV m S2 R2, u, .int .i64 (t : Int)] w fun e w' => e = .returned (.bool (pwB (stOf n S R) (stOf m S2 R2) n m t L M)) ∧ Below w.heap.size w w' := by
  have HT := Lib.hid (Bxp.new w n S R m S2 R2)
  unfold boxS at HT
  obtain ⟨c0, c1, c2, f0, f1, f2, hl1⟩ := HT.out.a.cells
  obtain ⟨d0, d1, d2, _, _, _, hl2⟩ := HT.out.b.cells
  have HVW := Lib.hid hv
  have HUW := Lib.hid hu
  have HNP := Lib.hid (newPebbles_any n m S R S2 R2 L M v u _ (hv.below HT.out.old) (hu.below HT.out.old) hrd)
  obtain ⟨hva, hvb, hrdy, hk1, hk3⟩ := ready_rdy hrd
  obtain ⟨hn1, hn8, hSz, hRz, _, _⟩ := valid_is hva
  obtain ⟨hm1, hm8, hSz2, hRz2, _, _⟩ := valid_is hvb
  have HST := Lib.hid (fun p fv wv v u w hG hv hu => stateOf_any p n m L.length S R S2 R2 fv wv v u L M w hG hv hu hrdy rfl hk3 hn8 hm8)
  have HLV := lev_at (a := stOf n S R) (b := stOf m S2 R2) (by omega) t hrdy
  have HFL : Hid ((fitL (stOf n S R) (stOf m S2 R2) n m L.length).length = (n * m + 1) ^ L.length) := fitL_len _ _ _ _ _
  have HSL : Hid (stP (n * m + 1) m L M < (n * m + 1) ^ L.length) := stP_lt hrdy
  have hpow := pow_le (pairs_le hn8 hm8) hk3
  have HPL := Lib.hid (fun B p F w hP hF => play_any B p n m L.length t S R S2 R2 F w hP hn8 hm8 hn1 hm1 hk3 hF (by omega))
  obtain ⟨RV, hrv⟩ : ∃ r, pwB (stOf n S R) (stOf m S2 R2) n m t L M = r := ⟨_, rfl⟩
  obtain ⟨F, hF⟩ : ∃ F, fitL (stOf n S R) (stOf m S2 R2) n m L.length = F := ⟨_, rfl⟩
  have HFE := Lib.hid hF
  rw [hrv] at HLV
  rw [hF] at HFL HLV
  rw [hrv]
  have HLVH := Lib.hid HLV
  obtain ⟨a1, ca, rfl, _, _, _⟩ := hv.view
  obtain ⟨b1, cb, rfl, _, _, _⟩ := hu.view
  have hK0B : decide ((t : Int) < 0) = false := decide_eq_false (by omega)
  have hK4B : decide (4 < (t : Int)) = false := decide_eq_false (by omega)
  have hK0I : ¬ ((t : Int) < 0) := by omega
  have hK4I : ¬ (4 < (t : Int)) := by omega
  clear hva hvb hSz hRz hSz2 hRz2 hrdy hv hu hrd hrv hF HLV
  unfold strV at HNP
  unfold strV
  go_enter Tryz.func13, Tryz.ntmps13
  go_wp2_with fail
  refine HNP.out.mono ?_; rintro e w1 ⟨p, rfl, hq, hb, hp⟩
  rw [HFE.out] at hq
  have hsz := HT.out.old.size
  have HP1 : Hid (Pw w p n S R m S2 R2 L.length F 0 w1) := ⟨hq.q, HT.out.old.trans (hb.mono hsz), by omega⟩
  clear hq hb hp c0 c1 c2 f0 f1 f2 hl1 d0 d1 d2 hl2 HT HNP
  go_wp2_with fail
  refine (HPL.out w p F w1 HP1.out HFL.out).mono ?_; rintro e w2 ⟨rfl, hP2⟩
  have HP2 := Lib.hid hP2
  obtain ⟨fv, wv, hG, hf, hw, _, _⟩ := hP2.q
  obtain ⟨sg, sc, rfl, s1, s2, s3, s4⟩ := hw
  have hst : stP (n * m + 1) m L M < (lev n m L.length F t).length := by rw [lev_len, HFL.out]; exact HSL.out
  have x2 := s4 _ hst
  rw [HLVH.out] at x2
  have x1 := hG.cells.2.2.2.2.2.1
  have J1 : Hid (∀ z : Since w2, _) := fun z => HST.out p fv _ _ _ z.w (hG.below z.below) (HVW.out.below (HP2.out.old.trans (z.below.mono HP2.out.old.size))) (HUW.out.below (HP2.out.old.trans (z.below.mono HP2.out.old.size)))
  have hln : (lev n m L.length F t).length ≤ 274625 := by rw [lev_len, HFL.out]; exact hpow
  generalize stP (n * m + 1) m L M = st at *
  generalize (lev n m L.length F t).length = ln at *
  have hstI : (st : Int) < (ln : Int) := by omega
  unfold maxLen at s2
  have f0 := fun s => Since.cell x1 s
  have f1 := fun s => Since.cell x2 s
  clear s4 hP2 hG hf HP1
  go_wp2_with fail
  refine wp_region_since (by kernel_rfl) (by kernel_rfl) ?_
  repeat (go_big_quiet_step ((with_reducible exact Since.call (J1.out _))))
  refine wpQuiet_nil ?_
  intro w9 hb9
  have HO9 := Lib.hid (HP2.out.old.trans (hb9.mono HP2.out.old.size))
  clear hb9 f0 f1
  go_wp2_with fail
  go_ret
  exact ⟨rfl, HO9.out⟩
set_option maxHeartbeats 1000000 in
theorem Separates_yes (f : ByteArray) (φ : Fm.T) (hr : readB f = some φ) (hf : f.size ≤ 9223372036854775807) (n : Nat) (S R : ByteArray) (hva : validB n S R = true) (m : Nat) (S2 R2 : ByteArray) (hvb : validB m S2 R2 = true) (L M : List Nat) (hl : M.length = L.length) (h1 : 1 ≤ L.length) (h3 : L.length ≤ 3)
    (hfr : ∀ u : Fin 4, (Fm.free φ).testBit u.val = true → u.val < L.length) (hL : ∀ j, j < L.length → L.getD j 0 < n) (hM : ∀ j, j < M.length → M.getD j 0 < m) (ha : Fm.holds (stOf n S R) φ (envL L) = true) (hb : Fm.holds (stOf m S2 R2) φ (envL M) = false) (v u : Value) (w : World) (hv : NumsAt w v L) (hu : NumsAt w u M) :
    Calls Tryz.prog 9 #[.string f, strV n S R, v, strV m S2 R2, u] w fun e w' => e = .returned (.bool true) ∧ Below w.heap.size w w' := by
  have HT := Lib.hid (Bxp.new w n S R m S2 R2)
  unfold boxS at HT
  obtain ⟨c0, c1, c2, f0, f1, f2, hl1⟩ := HT.out.a.cells
  have HA : Hid (∀ W, Below w.heap.size w W → _) := fun W hb => implHoldsAtL f φ hr hf n S R hva L h1 h3 hfr hL v W (hv.below hb)
  have HB : Hid (∀ W, Below w.heap.size w W → _) := fun W hb => implHoldsAtL f φ hr hf m S2 R2 hvb M (by omega) (by omega) (by rw [hl]; exact hfr) hM u W (hu.below hb)
  rw [ha] at HA
  rw [hb] at HB
  obtain ⟨a1, ca, rfl, _, _, _⟩ := hv.view
  obtain ⟨b1, cb, rfl, _, _, _⟩ := hu.view
  rw [hl] at *
  clear ha hb hv hu hL hM hfr hva hvb hr
  unfold strV at HA HB
  unfold strV
  go_enter Tryz.func9, Tryz.ntmps9
  go_wp2_with fail
  refine (HA.out _ HT.out.old).mono ?_; rintro e w1 ⟨rfl, hb⟩
  have HT1 := Lib.hid (HT.out.below hb)
  clear hb c0 c1 c2 f0 f1 f2 hl1 HT
  obtain ⟨d0, d1, d2, _⟩ := HT1.out.b.cells
  go_wp2_with fail
  refine (HB.out _ HT1.out.old).mono ?_; rintro e w2 ⟨rfl, hb⟩
  have HT2 := Lib.hid (HT1.out.below hb)
  clear hb d0 d1 d2 HT1
  go_wp2_with fail
  go_ret
  exact ⟨rfl, HT2.out.old⟩
end Go.Proofs.YtnhlhjehocngcaaGreatDoor

namespace Go.Proofs.YtnhlhjehocngcaaGreatDoor
open Go.RowKit
set_option linter.unusedVariables false
set_option maxRecDepth 100000
/-- A slice of the call's own, cut. -/
theorem Own.take {B g cap : Nat} {w : World} {L : List Nat} (h : Own B w (.slice (some ⟨g, 0, none⟩) L.length cap) L) (i : Nat) (hi : i ≤ L.length) : Own B w (.slice (some ⟨g, 0, none⟩) i cap) (L.take i) := by
  have hl : (L.take i).length = i := by rw [List.length_take]; omega
  refine ⟨⟨by simp, ?_⟩, by simp, h.low⟩
  rw [hl]
  rcases h.own.2 with ⟨h1, h2⟩ | ⟨g', cap', cur, he, hb, hg, hnc, hcm, hcs, htake⟩
  · cases h1
  · injection he with e1 e2 e3
    injection e1 with e1
    injection e1 with e1
    subst e1; subst e3
    refine .inr ⟨g, cap, cur, rfl, hb, hg, by omega, hcm, hcs, ?_⟩
    rw [List.map_take, ← htake, List.take_take]
    congr 1
    omega
end Go.Proofs.YtnhlhjehocngcaaGreatDoor

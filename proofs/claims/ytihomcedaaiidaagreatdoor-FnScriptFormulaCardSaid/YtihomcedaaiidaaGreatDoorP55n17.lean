/- Contracts of the program's functions and what they compute: part 17. Conditions: those that each theorem states. -/
import Derived.Test.YtihomcedaaiidaaGreatDoorP55n10
import Derived.Test.YtihomcedaaiidaaGreatDoorP55n12
import Derived.Test.YtihomcedaaiidaaGreatDoorP55n13
import Derived.Deep.DeepCutAuto
namespace Go.Proofs.YtihomcedaaiidaaGreatDoor
open Go.RowKit
set_option linter.unusedVariables false
set_option maxHeartbeats 2000000
set_option maxRecDepth 100000
theorem l1Set_bel (n : Int) (S R : ByteArray) (x : Nat) (w : World) (hx : x < S.size) (hS : S.size ≤ 9223372036854775807) :
    Calls Tryz.prog 130 #[strV n S R, .int .i64 (x : Int)] w fun e w' => e = .returned (.bool (oneAt S x)) ∧ Below w.heap.size w w' :=
  (l1Set_any n S R x w hx hS).mono fun _ _ ⟨h1, h2⟩ => ⟨h1, by rw [h2]; exact boxS_below _ _ _ _⟩
theorem l1Rel_bel (n : Nat) (S R : ByteArray) (x y : Nat) (w : World) (hx : x < n) (hy : y < n) (hn : n ≤ 8) (hR : R.size = n * n) :
    Calls Tryz.prog 131 #[strV n S R, .int .i64 (x : Int), .int .i64 (y : Int)] w fun e w' => e = .returned (.bool (relAt n R x y)) ∧ Below w.heap.size w w' :=
  (l1Rel_any n S R x y w hx hy hn hR).mono fun _ _ ⟨h1, h2⟩ => ⟨h1, by rw [h2]; exact boxS_below _ _ _ _⟩
/-- What l2Holds does with the formula at a place. -/
def LHolds (f : ByteArray) (n : Nat) (S R : ByteArray) (φ : Fm.T) : Prop := ∀ (z : Int) (a : Nat) (w : World) (e : Fm.Env), z = (a : Int) → Fm.At f.data.toList a φ → (∀ v, e v < n) →
  Calls Tryz.prog 92 #[strV n S R, .string f, .int .i64 z, envV e] w fun en w' => en = .returned (.tuple #[.bool (Fm.holds (stOf n S R) φ e), .int .i64 ((a + Fm.len φ : Nat) : Int)]) ∧ Below w.heap.size w w'
theorem ret_bi {b c : Bool} {x y : Int} (h : b = c) (h2 : x = y) : Ending.returned (.tuple #[.bool b, .int .i64 x]) = .returned (.tuple #[.bool c, .int .i64 y]) := by rw [h, h2]
/-- What l2Holds has laid down at its start. -/
structure LBox (w W : World) (n : Nat) (S R : ByteArray) (e : Fm.Env) (x4 x7 : Nat) : Prop where
  below : Below w.heap.size w W
  c4 : W.heap[x4]? = some (.cells #[.int .i64 (n : Int), .string S, .string R] 24 (0, 0))
  c7 : W.heap[x7]? = some (.cells (envC e) 78 (0, 0))
  h4 : w.heap.size ≤ x4
  h7 : w.heap.size ≤ x7
  ne : x4 ≠ x7
theorem LBox.new (w : World) (n : Nat) (S R : ByteArray) (e : Fm.Env) :
    LBox w ((w.alloc (.cells #[.int .i64 (n : Int), .string S, .string R] 24)).alloc (.cells (envC e) 78)) n S R e w.heap.size (w.heap.size + 1) := by
  refine ⟨((Below.refl w.heap.size w).alloc (Nat.le_refl _) _).alloc (by simp) _, ?_, ?_, by omega, by omega, by omega⟩
  · have h0 := heap_alloc_new w (.cells #[.int .i64 (n : Int), .string S, .string R] 24)
    exact (((Below.refl _ _).alloc (Nat.le_refl _) _).block _ (by simp)).trans h0
  · have := heap_alloc_new (w.alloc (.cells #[.int .i64 (n : Int), .string S, .string R] 24)) (.cells (envC e) 78)
    simpa using this
theorem LBox.s {w W : World} {n : Nat} {S R : ByteArray} {e : Fm.Env} {x4 x7 : Nat} (h : LBox w W n S R e x4 x7) :
    W.cell? ⟨x4, 0, none⟩ = some (.int .i64 (n : Int)) ∧ W.cell? ⟨x4, 1, none⟩ = some (.string S) ∧ W.cell? ⟨x4, 2, none⟩ = some (.string R) := by
  refine ⟨?_, ?_, ?_⟩ <;> simp [World.cell?, h.c4]
theorem LBox.e {w W : World} {n : Nat} {S R : ByteArray} {e : Fm.Env} {x4 x7 : Nat} (h : LBox w W n S R e x4 x7) (v : Fin 4) : W.cell? ⟨x7, v.val, none⟩ = some (.int .i64 ((e v : Nat) : Int)) := by
  have h7 := h.c7
  unfold envC at h7
  rcases (show v = 0 ∨ v = 1 ∨ v = 2 ∨ v = 3 by revert v; decide) with rfl | rfl | rfl | rfl <;> simp [World.cell?, h7] <;> rfl
theorem LBox.fr {w W : World} {n : Nat} {S R : ByteArray} {e : Fm.Env} {x4 x7 : Nat} (h : LBox w W n S R e x4 x7) (v : Fin 4) : W.frozen? ⟨x7, v.val, none⟩ = false := by
  have h7 := h.c7
  simp [World.frozen?, h7]
theorem LBox.after {w W W' : World} {n : Nat} {S R : ByteArray} {e : Fm.Env} {x4 x7 : Nat} (h : LBox w W n S R e x4 x7) (hb : Below W.heap.size W W') : LBox w W' n S R e x4 x7 :=
  ⟨h.below.trans (hb.mono h.below.size), (hb.block _ (Array.getElem?_eq_some_iff.1 h.c4).1).trans h.c4, (hb.block _ (Array.getElem?_eq_some_iff.1 h.c7).1).trans h.c7, h.h4, h.h7, h.ne⟩
theorem LBox.put {w W : World} {n : Nat} {S R : ByteArray} {e : Fm.Env} {x4 x7 : Nat} (h : LBox w W n S R e x4 x7) (v : Fin 4) (k : Nat) : LBox w (W.setCell ⟨x7, v.val, none⟩ (.int .i64 (k : Int))) n S R (Fm.upd e v k) x4 x7 := by
  have h7 := h.c7
  unfold envC at h7
  refine ⟨h.below.setCell h.h7 _, (Below.heap_setCell _ _ _ _ h.ne).trans h.c4, ?_, h.h4, h.h7, h.ne⟩
  simp only [World.setCell, Array.getElem?_modify, h7]
  rcases (show v = 0 ∨ v = 1 ∨ v = 2 ∨ v = 3 by revert v; decide) with rfl | rfl | rfl | rfl
  all_goals simp [envC, Fm.upd]
  all_goals rfl
theorem lh_lit_true (f : ByteArray) (hf : f.size ≤ 1000000) (n : Nat) (S R : ByteArray) (hn : n ≤ 8) (hS : S.size = n) (hR : R.size = n * n)  : LHolds f n S R (.lit true) := by
  intro z a w e hz hA he
  subst hz
  obtain ⟨hlt, hx⟩ := byte_eq hA.head
  have haI : (0 : Int) ≤ (a : Int) := by omega
  have hb0 := LBox.new w n S R e
  obtain ⟨x4, hx4⟩ : ∃ x, w.heap.size = x := ⟨_, rfl⟩
  obtain ⟨x7, hx7⟩ : ∃ x, w.heap.size + 1 = x := ⟨_, rfl⟩
  rw [hx7, hx4] at hb0
  unfold envC at hb0
  obtain ⟨W, hW⟩ : ∃ W, (w.alloc (.cells #[.int .i64 (n : Int), .string S, .string R] 24)).alloc (.cells #[.int .i64 ((e 0 : Nat) : Int), .int .i64 ((e 1 : Nat) : Int), .int .i64 ((e 2 : Nat) : Int), .int .i64 ((e 3 : Nat) : Int)] 78) = W := ⟨_, rfl⟩
  rw [hW] at hb0
  have HW := Lib.hid hW; have HB0 := Lib.hid hb0; have HX4 := Lib.hid hx4; have HX7 := Lib.hid hx7; have HE := Lib.hid he; have HA := Lib.hid hA
  have HV := Lib.hid (fun z a w hz => l2Var_any f z a w hz hf)
  replace hx : f[a] = 116 := hx
  clear hW hb0 hx4 hx7 he hA
  unfold envV strV
  have HL : Hid ((a : Int) + 1 = ((a + Fm.len (.lit true) : Nat) : Int)) := by show _ = _; simp [Fm.len, Fm.text]
  go_enter Tryz.func92, Tryz.ntmps92
  go_upto_region 1 with fail
  rw [HW.out, HX7.out, HX4.out]
  go_wp2_with fail
  go_ret2
  exact ⟨ret_bi rfl HL.out, HB0.out.below⟩
theorem lh_lit_false (f : ByteArray) (hf : f.size ≤ 1000000) (n : Nat) (S R : ByteArray) (hn : n ≤ 8) (hS : S.size = n) (hR : R.size = n * n)  : LHolds f n S R (.lit false) := by
  intro z a w e hz hA he
  subst hz
  obtain ⟨hlt, hx⟩ := byte_eq hA.head
  have haI : (0 : Int) ≤ (a : Int) := by omega
  have hb0 := LBox.new w n S R e
  obtain ⟨x4, hx4⟩ : ∃ x, w.heap.size = x := ⟨_, rfl⟩
  obtain ⟨x7, hx7⟩ : ∃ x, w.heap.size + 1 = x := ⟨_, rfl⟩
  rw [hx7, hx4] at hb0
  unfold envC at hb0
  obtain ⟨W, hW⟩ : ∃ W, (w.alloc (.cells #[.int .i64 (n : Int), .string S, .string R] 24)).alloc (.cells #[.int .i64 ((e 0 : Nat) : Int), .int .i64 ((e 1 : Nat) : Int), .int .i64 ((e 2 : Nat) : Int), .int .i64 ((e 3 : Nat) : Int)] 78) = W := ⟨_, rfl⟩
  rw [hW] at hb0
  have HW := Lib.hid hW; have HB0 := Lib.hid hb0; have HX4 := Lib.hid hx4; have HX7 := Lib.hid hx7; have HE := Lib.hid he; have HA := Lib.hid hA
  have HV := Lib.hid (fun z a w hz => l2Var_any f z a w hz hf)
  replace hx : f[a] = 102 := hx
  clear hW hb0 hx4 hx7 he hA
  unfold envV strV
  have HL : Hid ((a : Int) + 1 = ((a + Fm.len (.lit false) : Nat) : Int)) := by show _ = _; simp [Fm.len, Fm.text]
  go_enter Tryz.func92, Tryz.ntmps92
  go_upto_region 1 with fail
  rw [HW.out, HX7.out, HX4.out]
  go_wp2_with fail
  go_ret2
  exact ⟨ret_bi rfl HL.out, HB0.out.below⟩
theorem lh_set (f : ByteArray) (hf : f.size ≤ 1000000) (n : Nat) (S R : ByteArray) (hn : n ≤ 8) (hS : S.size = n) (hR : R.size = n * n) (v : Fin 4) : LHolds f n S R (.set v) := by
  intro z a w e hz hA he
  subst hz
  obtain ⟨hlt, hx⟩ := byte_eq hA.head
  have haI : (0 : Int) ≤ (a : Int) := by omega
  have hb0 := LBox.new w n S R e
  obtain ⟨x4, hx4⟩ : ∃ x, w.heap.size = x := ⟨_, rfl⟩
  obtain ⟨x7, hx7⟩ : ∃ x, w.heap.size + 1 = x := ⟨_, rfl⟩
  rw [hx7, hx4] at hb0
  unfold envC at hb0
  obtain ⟨W, hW⟩ : ∃ W, (w.alloc (.cells #[.int .i64 (n : Int), .string S, .string R] 24)).alloc (.cells #[.int .i64 ((e 0 : Nat) : Int), .int .i64 ((e 1 : Nat) : Int), .int .i64 ((e 2 : Nat) : Int), .int .i64 ((e 3 : Nat) : Int)] 78) = W := ⟨_, rfl⟩
  rw [hW] at hb0
  have HW := Lib.hid hW; have HB0 := Lib.hid hb0; have HX4 := Lib.hid hx4; have HX7 := Lib.hid hx7; have HE := Lib.hid he; have HA := Lib.hid hA
  have HV := Lib.hid (fun z a w hz => l2Var_any f z a w hz hf)
  replace hx : f[a] = 80 := hx
  clear hW hb0 hx4 hx7 he hA
  unfold envV strV
  have HL : Hid ((a : Int) + 2 = ((a + Fm.len (.set v) : Nat) : Int)) := by show _ = _; simp [Fm.len, Fm.text]
  go_enter Tryz.func92, Tryz.ntmps92
  go_upto_region 1 with fail
  rw [HW.out, HX7.out, HX4.out]
  go_upto_region 6 with fail
  have f0 := fun s => Since.cell HB0.out.s.1 s
  have f1 := fun s => Since.cell HB0.out.s.2.1 s
  have f2 := fun s => Since.cell HB0.out.s.2.2 s
  have HV1 : Hid (∀ w, Calls Tryz.prog 90 #[.string f, .int .i64 ((a : Int) + 1)] w fun e w' => e = .returned (.int .i64 (v.val : Int)) ∧ w = w') := fun w => by
    have h := HV.out ((a : Int) + 1) (a + 1) w (by omega)
    rw [HA.out.sv] at h
    exact h.mono fun _ _ h => ⟨h.1, h.2.symm⟩
  have g1 := fun s => Since.cell (HB0.out.e v) s
  have hl1 := v.isLt
  obtain ⟨k1, hk1⟩ : ∃ k, v.val = k := ⟨_, rfl⟩
  rw [hk1] at HV1 g1 hl1
  have hI1 : (0 : Int) ≤ (k1 : Int) ∧ (k1 : Int) < 4 := by omega
  have he1 := HE.out v
  obtain ⟨E1, hE1⟩ : ∃ E, e v = E := ⟨_, rfl⟩
  rw [hE1] at g1 he1
  have HE1 := Lib.hid hE1
  clear hk1 hE1
  have HS1 := Lib.hid (fun w => l1Set_bel n S R E1 w (by omega) (by omega))
  unfold strV at HS1
  refine wp_region_since (by kernel_rfl) (by kernel_rfl) ?_
  repeat (go_big_quiet_step (first | (with_reducible exact Since.call_same (HV1.out _)) | (with_reducible exact Since.call (HS1.out _))))
  refine wpQuiet_nil ?_
  intro w1 hb1
  go_wp2_with fail
  go_ret2
  exact ⟨ret_bi (by rw [← HE1.out]; rfl) HL.out, HB0.out.below.trans (hb1.mono HB0.out.below.size)⟩
theorem lh_eq (f : ByteArray) (hf : f.size ≤ 1000000) (n : Nat) (S R : ByteArray) (hn : n ≤ 8) (hS : S.size = n) (hR : R.size = n * n) (v u : Fin 4) : LHolds f n S R (.rel false v u) := by
  intro z a w e hz hA he
  subst hz
  obtain ⟨hlt, hx⟩ := byte_eq hA.head
  have haI : (0 : Int) ≤ (a : Int) := by omega
  have hb0 := LBox.new w n S R e
  obtain ⟨x4, hx4⟩ : ∃ x, w.heap.size = x := ⟨_, rfl⟩
  obtain ⟨x7, hx7⟩ : ∃ x, w.heap.size + 1 = x := ⟨_, rfl⟩
  rw [hx7, hx4] at hb0
  unfold envC at hb0
  obtain ⟨W, hW⟩ : ∃ W, (w.alloc (.cells #[.int .i64 (n : Int), .string S, .string R] 24)).alloc (.cells #[.int .i64 ((e 0 : Nat) : Int), .int .i64 ((e 1 : Nat) : Int), .int .i64 ((e 2 : Nat) : Int), .int .i64 ((e 3 : Nat) : Int)] 78) = W := ⟨_, rfl⟩
  rw [hW] at hb0
  have HW := Lib.hid hW; have HB0 := Lib.hid hb0; have HX4 := Lib.hid hx4; have HX7 := Lib.hid hx7; have HE := Lib.hid he; have HA := Lib.hid hA
  have HV := Lib.hid (fun z a w hz => l2Var_any f z a w hz hf)
  replace hx : f[a] = 61 := hx
  clear hW hb0 hx4 hx7 he hA
  unfold envV strV
  have HL : Hid ((a : Int) + 3 = ((a + Fm.len (.rel false v u) : Nat) : Int)) := by show _ = _; simp [Fm.len, Fm.text]
  go_enter Tryz.func92, Tryz.ntmps92
  go_upto_region 1 with fail
  rw [HW.out, HX7.out, HX4.out]
  go_upto_region 8 with fail
  have f0 := fun s => Since.cell HB0.out.s.1 s
  have f1 := fun s => Since.cell HB0.out.s.2.1 s
  have f2 := fun s => Since.cell HB0.out.s.2.2 s
  have HV1 : Hid (∀ w, Calls Tryz.prog 90 #[.string f, .int .i64 ((a : Int) + 1)] w fun e w' => e = .returned (.int .i64 (v.val : Int)) ∧ w = w') := fun w => by
    have h := HV.out ((a : Int) + 1) (a + 1) w (by omega)
    rw [HA.out.rv] at h
    exact h.mono fun _ _ h => ⟨h.1, h.2.symm⟩
  have g1 := fun s => Since.cell (HB0.out.e v) s
  have hl1 := v.isLt
  obtain ⟨k1, hk1⟩ : ∃ k, v.val = k := ⟨_, rfl⟩
  rw [hk1] at HV1 g1 hl1
  have hI1 : (0 : Int) ≤ (k1 : Int) ∧ (k1 : Int) < 4 := by omega
  have he1 := HE.out v
  obtain ⟨E1, hE1⟩ : ∃ E, e v = E := ⟨_, rfl⟩
  rw [hE1] at g1 he1
  have HE1 := Lib.hid hE1
  clear hk1 hE1
  have HV2 : Hid (∀ w, Calls Tryz.prog 90 #[.string f, .int .i64 ((a : Int) + 2)] w fun e w' => e = .returned (.int .i64 (u.val : Int)) ∧ w = w') := fun w => by
    have h := HV.out ((a : Int) + 2) (a + 2) w (by omega)
    rw [HA.out.rw] at h
    exact h.mono fun _ _ h => ⟨h.1, h.2.symm⟩
  have g2 := fun s => Since.cell (HB0.out.e u) s
  have hl2 := u.isLt
  obtain ⟨k2, hk2⟩ : ∃ k, u.val = k := ⟨_, rfl⟩
  rw [hk2] at HV2 g2 hl2
  have hI2 : (0 : Int) ≤ (k2 : Int) ∧ (k2 : Int) < 4 := by omega
  have he2 := HE.out u
  obtain ⟨E2, hE2⟩ : ∃ E, e u = E := ⟨_, rfl⟩
  rw [hE2] at g2 he2
  have HE2 := Lib.hid hE2
  clear hk2 hE2
  refine wp_region_since (by kernel_rfl) (by kernel_rfl) ?_
  repeat (go_big_quiet_step (first | (with_reducible exact Since.call_same (HV1.out _)) | (with_reducible exact Since.call_same (HV2.out _))))
  refine wpQuiet_nil ?_
  intro w1 hb1
  go_wp2_with fail
  go_ret2
  refine ⟨ret_bi ?_ HL.out, HB0.out.below.trans (hb1.mono HB0.out.below.size)⟩
  show _ = decide (e v = e u)
  rw [HE1.out, HE2.out, Bool.eq_iff_iff, beq_iff_eq, decide_eq_true_eq]; omega
theorem lh_rel (f : ByteArray) (hf : f.size ≤ 1000000) (n : Nat) (S R : ByteArray) (hn : n ≤ 8) (hS : S.size = n) (hR : R.size = n * n) (v u : Fin 4) : LHolds f n S R (.rel true v u) := by
  intro z a w e hz hA he
  subst hz
  obtain ⟨hlt, hx⟩ := byte_eq hA.head
  have haI : (0 : Int) ≤ (a : Int) := by omega
  have hb0 := LBox.new w n S R e
  obtain ⟨x4, hx4⟩ : ∃ x, w.heap.size = x := ⟨_, rfl⟩
  obtain ⟨x7, hx7⟩ : ∃ x, w.heap.size + 1 = x := ⟨_, rfl⟩
  rw [hx7, hx4] at hb0
  unfold envC at hb0
  obtain ⟨W, hW⟩ : ∃ W, (w.alloc (.cells #[.int .i64 (n : Int), .string S, .string R] 24)).alloc (.cells #[.int .i64 ((e 0 : Nat) : Int), .int .i64 ((e 1 : Nat) : Int), .int .i64 ((e 2 : Nat) : Int), .int .i64 ((e 3 : Nat) : Int)] 78) = W := ⟨_, rfl⟩
  rw [hW] at hb0
  have HW := Lib.hid hW; have HB0 := Lib.hid hb0; have HX4 := Lib.hid hx4; have HX7 := Lib.hid hx7; have HE := Lib.hid he; have HA := Lib.hid hA
  have HV := Lib.hid (fun z a w hz => l2Var_any f z a w hz hf)
  replace hx : f[a] = 69 := hx
  clear hW hb0 hx4 hx7 he hA
  unfold envV strV
  have HL : Hid ((a : Int) + 3 = ((a + Fm.len (.rel true v u) : Nat) : Int)) := by show _ = _; simp [Fm.len, Fm.text]
  go_enter Tryz.func92, Tryz.ntmps92
  go_upto_region 1 with fail
  rw [HW.out, HX7.out, HX4.out]
  go_upto_region 10 with fail
  have f0 := fun s => Since.cell HB0.out.s.1 s
  have f1 := fun s => Since.cell HB0.out.s.2.1 s
  have f2 := fun s => Since.cell HB0.out.s.2.2 s
  have HV1 : Hid (∀ w, Calls Tryz.prog 90 #[.string f, .int .i64 ((a : Int) + 1)] w fun e w' => e = .returned (.int .i64 (v.val : Int)) ∧ w = w') := fun w => by
    have h := HV.out ((a : Int) + 1) (a + 1) w (by omega)
    rw [HA.out.rv] at h
    exact h.mono fun _ _ h => ⟨h.1, h.2.symm⟩
  have g1 := fun s => Since.cell (HB0.out.e v) s
  have hl1 := v.isLt
  obtain ⟨k1, hk1⟩ : ∃ k, v.val = k := ⟨_, rfl⟩
  rw [hk1] at HV1 g1 hl1
  have hI1 : (0 : Int) ≤ (k1 : Int) ∧ (k1 : Int) < 4 := by omega
  have he1 := HE.out v
  obtain ⟨E1, hE1⟩ : ∃ E, e v = E := ⟨_, rfl⟩
  rw [hE1] at g1 he1
  have HE1 := Lib.hid hE1
  clear hk1 hE1
  have HV2 : Hid (∀ w, Calls Tryz.prog 90 #[.string f, .int .i64 ((a : Int) + 2)] w fun e w' => e = .returned (.int .i64 (u.val : Int)) ∧ w = w') := fun w => by
    have h := HV.out ((a : Int) + 2) (a + 2) w (by omega)
    rw [HA.out.rw] at h
    exact h.mono fun _ _ h => ⟨h.1, h.2.symm⟩
  have g2 := fun s => Since.cell (HB0.out.e u) s
  have hl2 := u.isLt
  obtain ⟨k2, hk2⟩ : ∃ k, u.val = k := ⟨_, rfl⟩
  rw [hk2] at HV2 g2 hl2
  have hI2 : (0 : Int) ≤ (k2 : Int) ∧ (k2 : Int) < 4 := by omega
  have he2 := HE.out u
  obtain ⟨E2, hE2⟩ : ∃ E, e u = E := ⟨_, rfl⟩
  rw [hE2] at g2 he2
  have HE2 := Lib.hid hE2
  clear hk2 hE2
  have HS1 := Lib.hid (fun w => l1Rel_bel n S R E1 E2 w he1 he2 hn hR)
  unfold strV at HS1
  refine wp_region_since (by kernel_rfl) (by kernel_rfl) ?_
  repeat (go_big_quiet_step (first | (with_reducible exact Since.call_same (HV1.out _)) | (with_reducible exact Since.call_same (HV2.out _)) | (with_reducible exact Since.call (HS1.out _))))
  refine wpQuiet_nil ?_
  intro w1 hb1
  go_wp2_with fail
  go_ret2
  exact ⟨ret_bi (by rw [← HE1.out, ← HE2.out]; rfl) HL.out, HB0.out.below.trans (hb1.mono HB0.out.below.size)⟩
theorem lh_neg (f : ByteArray) (hf : f.size ≤ 1000000) (n : Nat) (S R : ByteArray) (hn : n ≤ 8) (hS : S.size = n) (hR : R.size = n * n) (g : Fm.T) (IH : Hid (LHolds f n S R g)) : LHolds f n S R (.neg g) := by
  intro z a w e hz hA he
  subst hz
  obtain ⟨hlt, hx⟩ := byte_eq hA.head
  have haI : (0 : Int) ≤ (a : Int) := by omega
  have hb0 := LBox.new w n S R e
  obtain ⟨x4, hx4⟩ : ∃ x, w.heap.size = x := ⟨_, rfl⟩
  obtain ⟨x7, hx7⟩ : ∃ x, w.heap.size + 1 = x := ⟨_, rfl⟩
  rw [hx7, hx4] at hb0
  unfold envC at hb0
  obtain ⟨W, hW⟩ : ∃ W, (w.alloc (.cells #[.int .i64 (n : Int), .string S, .string R] 24)).alloc (.cells #[.int .i64 ((e 0 : Nat) : Int), .int .i64 ((e 1 : Nat) : Int), .int .i64 ((e 2 : Nat) : Int), .int .i64 ((e 3 : Nat) : Int)] 78) = W := ⟨_, rfl⟩
  rw [hW] at hb0
  have HW := Lib.hid hW; have HB0 := Lib.hid hb0; have HX4 := Lib.hid hx4; have HX7 := Lib.hid hx7; have HE := Lib.hid he; have HA := Lib.hid hA
  have HV := Lib.hid (fun z a w hz => l2Var_any f z a w hz hf)
  replace hx : f[a] = 33 := hx
  clear hW hb0 hx4 hx7 he hA
  unfold envV strV
  have HL : Hid (((a + 1 + Fm.len g : Nat) : Int) = ((a + Fm.len (.neg g) : Nat) : Int)) := by show _ = _; simp [Fm.len, Fm.text]; omega
  have s0 := HB0.out.s.1
  have s1 := HB0.out.s.2.1
  have s2 := HB0.out.s.2.2
  have e0 : W.cell? ⟨x7, 0, none⟩ = some (.int .i64 ((e 0 : Nat) : Int)) := HB0.out.e 0
  have e1 : W.cell? ⟨x7, 1, none⟩ = some (.int .i64 ((e 1 : Nat) : Int)) := HB0.out.e 1
  have e2 : W.cell? ⟨x7, 2, none⟩ = some (.int .i64 ((e 2 : Nat) : Int)) := HB0.out.e 2
  have e3 : W.cell? ⟨x7, 3, none⟩ = some (.int .i64 ((e 3 : Nat) : Int)) := HB0.out.e 3
  have HC := Lib.hid (fun w => IH.out ((a : Int) + 1) (a + 1) w e (by omega) HA.out.neg HE.out)
  unfold strV envV at HC
  go_enter Tryz.func92, Tryz.ntmps92
  go_upto_region 1 with fail
  rw [HW.out, HX7.out, HX4.out]
  go_wp2_with fail
  refine (HC.out _).mono ?_; rintro _ w1 ⟨rfl, hb1⟩
  clear s0 s1 s2 e0 e1 e2 e3
  go_wp2_with fail
  go_ret2
  exact ⟨ret_bi rfl HL.out, HB0.out.below.trans (hb1.mono HB0.out.below.size)⟩
theorem lh_and (f : ByteArray) (hf : f.size ≤ 1000000) (n : Nat) (S R : ByteArray) (hn : n ≤ 8) (hS : S.size = n) (hR : R.size = n * n) (g h : Fm.T) (IH : Hid (LHolds f n S R g)) (IH2 : Hid (LHolds f n S R h)) : LHolds f n S R (.bin false g h) := by
  intro z a w e hz hA he
  subst hz
  obtain ⟨hlt, hx⟩ := byte_eq hA.head
  have haI : (0 : Int) ≤ (a : Int) := by omega
  have hb0 := LBox.new w n S R e
  obtain ⟨x4, hx4⟩ : ∃ x, w.heap.size = x := ⟨_, rfl⟩
  obtain ⟨x7, hx7⟩ : ∃ x, w.heap.size + 1 = x := ⟨_, rfl⟩
  rw [hx7, hx4] at hb0
  unfold envC at hb0
  obtain ⟨W, hW⟩ : ∃ W, (w.alloc (.cells #[.int .i64 (n : Int), .string S, .string R] 24)).alloc (.cells #[.int .i64 ((e 0 : Nat) : Int), .int .i64 ((e 1 : Nat) : Int), .int .i64 ((e 2 : Nat) : Int), .int .i64 ((e 3 : Nat) : Int)] 78) = W := ⟨_, rfl⟩
  rw [hW] at hb0
  have HW := Lib.hid hW; have HB0 := Lib.hid hb0; have HX4 := Lib.hid hx4; have HX7 := Lib.hid hx7; have HE := Lib.hid he; have HA := Lib.hid hA
  have HV := Lib.hid (fun z a w hz => l2Var_any f z a w hz hf)
  replace hx : f[a] = 38 := hx
  clear hW hb0 hx4 hx7 he hA
  unfold envV strV
  have HL : Hid (((a + 1 + Fm.len g + Fm.len h : Nat) : Int) = ((a + Fm.len (.bin false g h) : Nat) : Int)) := by show _ = _; simp [Fm.len, Fm.text]; omega
  have hh : ∀ b, Fm.holds (stOf n S R) g e = b → Fm.holds (stOf n S R) (.bin false g h) e = (b && Fm.holds (stOf n S R) h e) := fun b hb => by rw [← hb]; rfl
  have HH := Lib.hid hh
  have HEN : Hid (∀ w, Calls Tryz.prog 89 #[.string f, .int .i64 ((a + 1 + Fm.len g : Nat) : Int)] w fun e w' => e = .returned (.int .i64 ((a + 1 + Fm.len g + Fm.len h : Nat) : Int)) ∧ w' = w) := fun w => by
    have h0 := l2End_any f hf f.size ((a + 1 + Fm.len g : Nat) : Int) (a + 1 + Fm.len g) w rfl (by omega)
    rw [HA.out.bin2.endI] at h0
    exact h0
  clear hh
  have s0 := HB0.out.s.1
  have s1 := HB0.out.s.2.1
  have s2 := HB0.out.s.2.2
  have e0 : W.cell? ⟨x7, 0, none⟩ = some (.int .i64 ((e 0 : Nat) : Int)) := HB0.out.e 0
  have e1 : W.cell? ⟨x7, 1, none⟩ = some (.int .i64 ((e 1 : Nat) : Int)) := HB0.out.e 1
  have e2 : W.cell? ⟨x7, 2, none⟩ = some (.int .i64 ((e 2 : Nat) : Int)) := HB0.out.e 2
  have e3 : W.cell? ⟨x7, 3, none⟩ = some (.int .i64 ((e 3 : Nat) : Int)) := HB0.out.e 3
  have HC := Lib.hid (fun w => IH.out ((a : Int) + 1) (a + 1) w e (by omega) HA.out.bin1 HE.out)
  unfold strV envV at HC
  have HC2 := Lib.hid (fun w => IH2.out ((a + 1 + Fm.len g : Nat) : Int) (a + 1 + Fm.len g) w e rfl HA.out.bin2 HE.out)
  unfold strV envV at HC2
  obtain ⟨M, hM⟩ : ∃ M, a + 1 + Fm.len g = M := ⟨_, rfl⟩
  rw [hM] at HC HC2 HEN HL
  clear hM
  cases hfe : Fm.holds (stOf n S R) g e
  · have HQ := Lib.hid (HH.out _ hfe)
    rw [hfe] at HC
    clear hfe
    go_enter Tryz.func92, Tryz.ntmps92
    go_upto_region 1 with fail
    rw [HW.out, HX7.out, HX4.out]
    go_wp2_with fail
    refine (HC.out _).mono ?_; rintro _ w1 ⟨rfl, hb1⟩
    have hq := HB0.out.after hb1
    have HQ1 := Lib.hid hq
    clear s0 s1 s2 e0 e1 e2 e3 hq
    go_wp2_with fail
    refine (HEN.out _).mono ?_; rintro _ w2 ⟨rfl, rfl⟩
    go_wp2_with fail
    go_ret2
    exact ⟨ret_bi HQ.out.symm HL.out, HQ1.out.below⟩
  · have HQ := Lib.hid (HH.out _ hfe)
    rw [hfe] at HC
    clear hfe
    go_enter Tryz.func92, Tryz.ntmps92
    go_upto_region 1 with fail
    rw [HW.out, HX7.out, HX4.out]
    go_wp2_with fail
    refine (HC.out _).mono ?_; rintro _ w1 ⟨rfl, hb1⟩
    have hq := HB0.out.after hb1
    have HQ1 := Lib.hid hq
    clear s0 s1 s2 e0 e1 e2 e3 hq
    have s0 := HQ1.out.s.1
    have s1 := HQ1.out.s.2.1
    have s2 := HQ1.out.s.2.2
    have e0 : w1.cell? ⟨x7, 0, none⟩ = some (.int .i64 ((e 0 : Nat) : Int)) := HQ1.out.e 0
    have e1 : w1.cell? ⟨x7, 1, none⟩ = some (.int .i64 ((e 1 : Nat) : Int)) := HQ1.out.e 1
    have e2 : w1.cell? ⟨x7, 2, none⟩ = some (.int .i64 ((e 2 : Nat) : Int)) := HQ1.out.e 2
    have e3 : w1.cell? ⟨x7, 3, none⟩ = some (.int .i64 ((e 3 : Nat) : Int)) := HQ1.out.e 3
    go_wp2_with fail
    refine (HC2.out _).mono ?_; rintro _ w2 ⟨rfl, hb2⟩
    clear s0 s1 s2 e0 e1 e2 e3
    go_wp2_with fail
    go_ret2
    exact ⟨ret_bi HQ.out.symm HL.out, (HQ1.out.after hb2).below⟩
theorem lh_or (f : ByteArray) (hf : f.size ≤ 1000000) (n : Nat) (S R : ByteArray) (hn : n ≤ 8) (hS : S.size = n) (hR : R.size = n * n) (g h : Fm.T) (IH : Hid (LHolds f n S R g)) (IH2 : Hid (LHolds f n S R h)) : LHolds f n S R (.bin true g h) := by
  intro z a w e hz hA he
  subst hz
  obtain ⟨hlt, hx⟩ := byte_eq hA.head
  have haI : (0 : Int) ≤ (a : Int) := by omega
  have hb0 := LBox.new w n S R e
  obtain ⟨x4, hx4⟩ : ∃ x, w.heap.size = x := ⟨_, rfl⟩
  obtain ⟨x7, hx7⟩ : ∃ x, w.heap.size + 1 = x := ⟨_, rfl⟩
  rw [hx7, hx4] at hb0
  unfold envC at hb0
  obtain ⟨W, hW⟩ : ∃ W, (w.alloc (.cells #[.int .i64 (n : Int), .string S, .string R] 24)).alloc (.cells #[.int .i64 ((e 0 : Nat) : Int), .int .i64 ((e 1 : Nat) : Int), .int .i64 ((e 2 : Nat) : Int), .int .i64 ((e 3 : Nat) : Int)] 78) = W := ⟨_, rfl⟩
  rw [hW] at hb0
  have HW := Lib.hid hW; have HB0 := Lib.hid hb0; have HX4 := Lib.hid hx4; have HX7 := Lib.hid hx7; have HE := Lib.hid he; have HA := Lib.hid hA
  have HV := Lib.hid (fun z a w hz => l2Var_any f z a w hz hf)
  replace hx : f[a] = 124 := hx
  clear hW hb0 hx4 hx7 he hA
  unfold envV strV
  have HL : Hid (((a + 1 + Fm.len g + Fm.len h : Nat) : Int) = ((a + Fm.len (.bin true g h) : Nat) : Int)) := by show _ = _; simp [Fm.len, Fm.text]; omega
  have hh : ∀ b, Fm.holds (stOf n S R) g e = b → Fm.holds (stOf n S R) (.bin true g h) e = (b || Fm.holds (stOf n S R) h e) := fun b hb => by rw [← hb]; rfl
  have HH := Lib.hid hh
  have HEN : Hid (∀ w, Calls Tryz.prog 89 #[.string f, .int .i64 ((a + 1 + Fm.len g : Nat) : Int)] w fun e w' => e = .returned (.int .i64 ((a + 1 + Fm.len g + Fm.len h : Nat) : Int)) ∧ w' = w) := fun w => by
    have h0 := l2End_any f hf f.size ((a + 1 + Fm.len g : Nat) : Int) (a + 1 + Fm.len g) w rfl (by omega)
    rw [HA.out.bin2.endI] at h0
    exact h0
  clear hh
  have s0 := HB0.out.s.1
  have s1 := HB0.out.s.2.1
  have s2 := HB0.out.s.2.2
  have e0 : W.cell? ⟨x7, 0, none⟩ = some (.int .i64 ((e 0 : Nat) : Int)) := HB0.out.e 0
  have e1 : W.cell? ⟨x7, 1, none⟩ = some (.int .i64 ((e 1 : Nat) : Int)) := HB0.out.e 1
  have e2 : W.cell? ⟨x7, 2, none⟩ = some (.int .i64 ((e 2 : Nat) : Int)) := HB0.out.e 2
  have e3 : W.cell? ⟨x7, 3, none⟩ = some (.int .i64 ((e 3 : Nat) : Int)) := HB0.out.e 3
  have HC := Lib.hid (fun w => IH.out ((a : Int) + 1) (a + 1) w e (by omega) HA.out.bin1 HE.out)
  unfold strV envV at HC
  have HC2 := Lib.hid (fun w => IH2.out ((a + 1 + Fm.len g : Nat) : Int) (a + 1 + Fm.len g) w e rfl HA.out.bin2 HE.out)
  unfold strV envV at HC2
  obtain ⟨M, hM⟩ : ∃ M, a + 1 + Fm.len g = M := ⟨_, rfl⟩
  rw [hM] at HC HC2 HEN HL
  clear hM
  cases hfe : Fm.holds (stOf n S R) g e
  · have HQ := Lib.hid (HH.out _ hfe)
    rw [hfe] at HC
    clear hfe
    go_enter Tryz.func92, Tryz.ntmps92
    go_upto_region 1 with fail
    rw [HW.out, HX7.out, HX4.out]
    go_wp2_with fail
    refine (HC.out _).mono ?_; rintro _ w1 ⟨rfl, hb1⟩
    have hq := HB0.out.after hb1
    have HQ1 := Lib.hid hq
    clear s0 s1 s2 e0 e1 e2 e3 hq
    have s0 := HQ1.out.s.1
    have s1 := HQ1.out.s.2.1
    have s2 := HQ1.out.s.2.2
    have e0 : w1.cell? ⟨x7, 0, none⟩ = some (.int .i64 ((e 0 : Nat) : Int)) := HQ1.out.e 0
    have e1 : w1.cell? ⟨x7, 1, none⟩ = some (.int .i64 ((e 1 : Nat) : Int)) := HQ1.out.e 1
    have e2 : w1.cell? ⟨x7, 2, none⟩ = some (.int .i64 ((e 2 : Nat) : Int)) := HQ1.out.e 2
    have e3 : w1.cell? ⟨x7, 3, none⟩ = some (.int .i64 ((e 3 : Nat) : Int)) := HQ1.out.e 3
    go_wp2_with fail
    refine (HC2.out _).mono ?_; rintro _ w2 ⟨rfl, hb2⟩
    clear s0 s1 s2 e0 e1 e2 e3
    go_wp2_with fail
    go_ret2
    exact ⟨ret_bi HQ.out.symm HL.out, (HQ1.out.after hb2).below⟩
  · have HQ := Lib.hid (HH.out _ hfe)
    rw [hfe] at HC
    clear hfe
    go_enter Tryz.func92, Tryz.ntmps92
    go_upto_region 1 with fail
    rw [HW.out, HX7.out, HX4.out]
    go_wp2_with fail
    refine (HC.out _).mono ?_; rintro _ w1 ⟨rfl, hb1⟩
    have hq := HB0.out.after hb1
    have HQ1 := Lib.hid hq
    clear s0 s1 s2 e0 e1 e2 e3 hq
    go_wp2_with fail
    refine (HEN.out _).mono ?_; rintro _ w2 ⟨rfl, rfl⟩
    go_wp2_with fail
    go_ret2
    exact ⟨ret_bi HQ.out.symm HL.out, HQ1.out.below⟩
theorem cnt_mono (p : Nat → Bool) (k n : Nat) (h : k ≤ n) : Fm.cnt p k ≤ Fm.cnt p n ∧ Fm.cnt p n ≤ Fm.cnt p k + (n - k) := by
  induction n with
  | zero => have : k = 0 := by omega
            subst this; exact ⟨Nat.le_refl _, by omega⟩
  | succ n ih =>
    rcases Nat.lt_or_ge n k with h1 | h1
    · have : k = n + 1 := by omega
      subst this; exact ⟨Nat.le_refl _, by omega⟩
    · have := ih h1
      rw [show Fm.cnt p (n + 1) = Fm.cnt p n + (if p n then 1 else 0) from rfl]
      constructor
      · omega
      · split <;> omega
theorem lh_qu (f : ByteArray) (hf : f.size ≤ 1000000) (n : Nat) (S R : ByteArray) (hn : n ≤ 8) (hS : S.size = n) (hR : R.size = n * n) (q : Fm.Q) (v : Fin 4) (g : Fm.T) (IH : Hid (LHolds f n S R g)) : LHolds f n S R (.qu q v g) := by
  intro z a w e hz hA he
  subst hz
  obtain ⟨hlt, hx⟩ := byte_eq hA.head
  have haI : (0 : Int) ≤ (a : Int) := by omega
  have hb0 := LBox.new w n S R e
  obtain ⟨x4, hx4⟩ : ∃ x, w.heap.size = x := ⟨_, rfl⟩
  obtain ⟨x7, hx7⟩ : ∃ x, w.heap.size + 1 = x := ⟨_, rfl⟩
  rw [hx7, hx4] at hb0
  unfold envC at hb0
  obtain ⟨W, hW⟩ : ∃ W, (w.alloc (.cells #[.int .i64 (n : Int), .string S, .string R] 24)).alloc (.cells #[.int .i64 ((e 0 : Nat) : Int), .int .i64 ((e 1 : Nat) : Int), .int .i64 ((e 2 : Nat) : Int), .int .i64 ((e 3 : Nat) : Int)] 78) = W := ⟨_, rfl⟩
  rw [hW] at hb0
  have HW := Lib.hid hW; have HB0 := Lib.hid hb0; have HX4 := Lib.hid hx4; have HX7 := Lib.hid hx7; have HE := Lib.hid he; have HA := Lib.hid hA
  have HV := Lib.hid (fun z a w hz => l2Var_any f z a w hz hf)
  replace hx : f[a] = q.byte := hx
  clear hW hb0 hx4 hx7 he hA
  unfold envV strV
  have HLE := HA.out.le
  have HL : Hid (((a + 2 + Fm.len g : Nat) : Int) = ((a + Fm.len (.qu q v g) : Nat) : Int)) := by show _ = _; simp [Fm.len, Fm.text]; omega
  have HEN : Hid (∀ w, Calls Tryz.prog 89 #[.string f, .int .i64 ((a : Int) + 2)] w fun e w' => e = .returned (.int .i64 ((a + 2 + Fm.len g : Nat) : Int)) ∧ w' = w) := fun w => by
    have h0 := l2End_any f hf f.size ((a : Int) + 2) (a + 2) w (by omega) (by omega)
    rw [HA.out.qu.endI] at h0
    exact h0
  have HV1 : Hid (∀ w, Calls Tryz.prog 90 #[.string f, .int .i64 ((a : Int) + 1)] w fun e w' => e = .returned (.int .i64 (v.val : Int)) ∧ w' = w) := fun w => by
    have h := HV.out ((a : Int) + 1) (a + 1) w (by omega)
    rw [HA.out.qv] at h
    exact h
  have HHQ := Lib.hid (show Fm.holds (stOf n S R) (.qu q v g) e = decide (q.need (stOf n S R).n ≤ Fm.cnt (fun y => Fm.holds (stOf n S R) g (Fm.upd e v y)) (stOf n S R).n) from rfl)
  have HNN : Hid ((stOf n S R).n = n) := rfl
  rw [HNN.out] at HHQ
  have HC := Lib.hid (fun w (E : Fm.Env) (hE : ∀ v, E v < n) => IH.out ((a : Int) + 2) (a + 2) w E (by omega) HA.out.qu hE)
  unfold strV envV at HC
  obtain ⟨j, hj⟩ : ∃ j, v.val = j := ⟨_, rfl⟩
  rw [hj] at HV1
  have HJ := Lib.hid hj
  clear HLE hj
  have s0 := HB0.out.s.1
  cases q
  · replace hx : f[a] = 65 := hx
    replace HHQ : Hid (Fm.holds (stOf n S R) (.qu .all v g) e = decide (n ≤ Fm.cnt (fun y => Fm.holds (stOf n S R) g (Fm.upd e v y)) n)) := HHQ
    go_enter Tryz.func92, Tryz.ntmps92
    go_upto_region 1 with fail
    rw [HW.out, HX7.out, HX4.out]
    go_wp2_with fail
    clear s0
    go_loopw [16, 15, 17, 18] (fun i c _ _ wr => ∃ k : Nat, k ≤ n ∧ i = .int .i64 (k : Int) ∧ ∃ cc : Nat, cc ≤ k ∧ c = .int .i64 (cc : Int) ∧ Hid (cc = Fm.cnt (fun y => Fm.holds (stOf n S R) g (Fm.upd e v y)) k) ∧ ∃ E : Fm.Env, Hid (∀ y, y ≠ v → E y = e y) ∧ Hid (LBox w wr n S R E x4 x7)) (fun i _ _ _ _ => n - (intOf i).toNat)
    case atStart => exact ⟨0, by omega, rfl, 0, by omega, rfl, rfl, e, fun _ _ => rfl, HB0.out⟩
    case round =>
      obtain ⟨k, hk, rfl, cc, hcc, rfl, HCN, E, HEE, HB1⟩ := hrel
      have s0 := HB1.out.s.1
      by_cases hgo : k < n ∧ cc < n
      · obtain ⟨hlt1, hlt2⟩ := hgo
        go_wp2_with fail
        refine (HV1.out _).mono ?_; rintro _ wv ⟨rfl, hwv⟩; rw [hwv]; clear hwv
        have o5 := HB1.out.e v
        have z5 := HB1.out.fr v
        have hl1 := v.isLt
        have hp := HB1.out.put v k
        have hj := HJ.out
        obtain ⟨W1, hW1⟩ : ∃ W1, wr.setCell ⟨x7, v.val, none⟩ (.int .i64 (k : Int)) = W1 := ⟨_, rfl⟩
        rw [hW1] at hp
        rw [hj] at hW1 o5 z5 hl1
        have hI1 : (0 : Int) ≤ (j : Int) ∧ (j : Int) < 4 := by omega
        have hEq : Fm.upd E v k = Fm.upd e v k := by
          funext y; unfold Fm.upd; split
          · rfl
          · exact HEE.out y (by assumption)
        rw [hEq] at hp
        have HP := Lib.hid hp; have HW1 := Lib.hid hW1
        have HEX : Hid (∀ y, Fm.upd e v k y < n) := fun y => by
          unfold Fm.upd
          split
          · exact hlt1
          · exact HE.out y
        have HCS := Lib.hid (show Fm.cnt (fun y => Fm.holds (stOf n S R) g (Fm.upd e v y)) (k + 1) = Fm.cnt (fun y => Fm.holds (stOf n S R) g (Fm.upd e v y)) k + (if Fm.holds (stOf n S R) g (Fm.upd e v k) then 1 else 0) from rfl)
        rw [← HCN.out] at HCS
        have HEV := Lib.hid (show ∀ y, y ≠ v → Fm.upd e v k y = e y from fun y hy => by simp [Fm.upd, hy])
        clear hp hW1 hEq hj
        go_upto_region 33 with fail
        rw [HW1.out]
        clear o5 z5 s0
        obtain ⟨E2, hE2⟩ : ∃ E2, Fm.upd e v k = E2 := ⟨_, rfl⟩
        rw [hE2] at HP HEX HCS HEV
        clear hE2
        have s0 := HP.out.s.1
        have s1 := HP.out.s.2.1
        have s2 := HP.out.s.2.2
        have e0 : W1.cell? ⟨x7, 0, none⟩ = some (.int .i64 ((E2 0 : Nat) : Int)) := HP.out.e 0
        have e1 : W1.cell? ⟨x7, 1, none⟩ = some (.int .i64 ((E2 1 : Nat) : Int)) := HP.out.e 1
        have e2 : W1.cell? ⟨x7, 2, none⟩ = some (.int .i64 ((E2 2 : Nat) : Int)) := HP.out.e 2
        have e3 : W1.cell? ⟨x7, 3, none⟩ = some (.int .i64 ((E2 3 : Nat) : Int)) := HP.out.e 3
        go_wp2_with fail
        refine (HC.out _ E2 HEX.out).mono ?_; rintro _ w3 ⟨rfl, hb3⟩
        have HP3 := Lib.hid (HP.out.after hb3)
        clear s0 s1 s2 e0 e1 e2 e3 hb3
        have s0 := HP3.out.s.1
        generalize Fm.holds (stOf n S R) g E2 = tr at *
        cases tr
        · have HC3 := Lib.hid (HCS.out.trans (show cc + (if false = true then 1 else 0) = cc from rfl))
          by_cases hbr : cc + n < n + (k + 1)
          · go_wp2_with fail
            refine (HEN.out _).mono ?_; rintro _ _ ⟨rfl, rfl⟩
            go_wp2_with fail
            go_ret2
            refine ⟨ret_bi ?_ HL.out, HP3.out.below⟩
            have hm := cnt_mono (fun y => Fm.holds (stOf n S R) g (Fm.upd e v y)) (k + 1) n (by omega)
            rw [HC3.out] at hm
            first
              | (rw [HHQ.out, Bool.eq_iff_iff, decide_eq_true_eq, decide_eq_true_eq]; omega)
              | (rw [HHQ.out, eq_comm, decide_eq_true_eq]; omega)
              | (rw [HHQ.out, eq_comm, decide_eq_false_iff_not]; omega)
          · exfalso; omega
        · have HC3 := Lib.hid (HCS.out.trans (show cc + (if true = true then 1 else 0) = cc + 1 from rfl))
          by_cases hbr : cc + 1 + n < n + (k + 1)
          · go_wp2_with fail
            refine (HEN.out _).mono ?_; rintro _ _ ⟨rfl, rfl⟩
            go_wp2_with fail
            go_ret2
            refine ⟨ret_bi ?_ HL.out, HP3.out.below⟩
            have hm := cnt_mono (fun y => Fm.holds (stOf n S R) g (Fm.upd e v y)) (k + 1) n (by omega)
            rw [HC3.out] at hm
            first
              | (rw [HHQ.out, Bool.eq_iff_iff, decide_eq_true_eq, decide_eq_true_eq]; omega)
              | (rw [HHQ.out, eq_comm, decide_eq_true_eq]; omega)
              | (rw [HHQ.out, eq_comm, decide_eq_false_iff_not]; omega)
          · go_wp2_with fail
            go_roundw
            case rel => exact ⟨k + 1, by omega, by go_num, cc + 1, by omega, by go_num, HC3.out.symm, E2, HEV, HP3⟩
            case measure => simp [intOf]; omega
      · by_cases hlt1 : k < n
        · exfalso; omega
        · go_wp2_with fail
          refine (HEN.out _).mono ?_; rintro _ _ ⟨rfl, rfl⟩
          go_wp2_with fail
          go_ret2
          refine ⟨ret_bi ?_ HL.out, HB1.out.below⟩
          have hm := cnt_mono (fun y => Fm.holds (stOf n S R) g (Fm.upd e v y)) k n hk
          rw [← HCN.out] at hm
          first
            | (rw [HHQ.out, Bool.eq_iff_iff, decide_eq_true_eq, decide_eq_true_eq]; omega)
            | (rw [HHQ.out, eq_comm, decide_eq_true_eq]; omega)
            | (rw [HHQ.out, eq_comm, decide_eq_false_iff_not]; omega)
  · replace hx : f[a] = 83 := hx
    replace HHQ : Hid (Fm.holds (stOf n S R) (.qu .some v g) e = decide (1 ≤ Fm.cnt (fun y => Fm.holds (stOf n S R) g (Fm.upd e v y)) n)) := HHQ
    go_enter Tryz.func92, Tryz.ntmps92
    go_upto_region 1 with fail
    rw [HW.out, HX7.out, HX4.out]
    go_wp2_with fail
    clear s0
    go_loopw [16, 15, 17, 18] (fun i c _ _ wr => ∃ k : Nat, k ≤ n ∧ i = .int .i64 (k : Int) ∧ ∃ cc : Nat, cc ≤ k ∧ c = .int .i64 (cc : Int) ∧ Hid (cc = Fm.cnt (fun y => Fm.holds (stOf n S R) g (Fm.upd e v y)) k) ∧ ∃ E : Fm.Env, Hid (∀ y, y ≠ v → E y = e y) ∧ Hid (LBox w wr n S R E x4 x7)) (fun i _ _ _ _ => n - (intOf i).toNat)
    case atStart => exact ⟨0, by omega, rfl, 0, by omega, rfl, rfl, e, fun _ _ => rfl, HB0.out⟩
    case round =>
      obtain ⟨k, hk, rfl, cc, hcc, rfl, HCN, E, HEE, HB1⟩ := hrel
      have s0 := HB1.out.s.1
      by_cases hgo : k < n ∧ cc < 1
      · obtain ⟨hlt1, hlt2⟩ := hgo
        go_wp2_with fail
        refine (HV1.out _).mono ?_; rintro _ wv ⟨rfl, hwv⟩; rw [hwv]; clear hwv
        have o5 := HB1.out.e v
        have z5 := HB1.out.fr v
        have hl1 := v.isLt
        have hp := HB1.out.put v k
        have hj := HJ.out
        obtain ⟨W1, hW1⟩ : ∃ W1, wr.setCell ⟨x7, v.val, none⟩ (.int .i64 (k : Int)) = W1 := ⟨_, rfl⟩
        rw [hW1] at hp
        rw [hj] at hW1 o5 z5 hl1
        have hI1 : (0 : Int) ≤ (j : Int) ∧ (j : Int) < 4 := by omega
        have hEq : Fm.upd E v k = Fm.upd e v k := by
          funext y; unfold Fm.upd; split
          · rfl
          · exact HEE.out y (by assumption)
        rw [hEq] at hp
        have HP := Lib.hid hp; have HW1 := Lib.hid hW1
        have HEX : Hid (∀ y, Fm.upd e v k y < n) := fun y => by
          unfold Fm.upd
          split
          · exact hlt1
          · exact HE.out y
        have HCS := Lib.hid (show Fm.cnt (fun y => Fm.holds (stOf n S R) g (Fm.upd e v y)) (k + 1) = Fm.cnt (fun y => Fm.holds (stOf n S R) g (Fm.upd e v y)) k + (if Fm.holds (stOf n S R) g (Fm.upd e v k) then 1 else 0) from rfl)
        rw [← HCN.out] at HCS
        have HEV := Lib.hid (show ∀ y, y ≠ v → Fm.upd e v k y = e y from fun y hy => by simp [Fm.upd, hy])
        clear hp hW1 hEq hj
        go_upto_region 33 with fail
        rw [HW1.out]
        clear o5 z5 s0
        obtain ⟨E2, hE2⟩ : ∃ E2, Fm.upd e v k = E2 := ⟨_, rfl⟩
        rw [hE2] at HP HEX HCS HEV
        clear hE2
        have s0 := HP.out.s.1
        have s1 := HP.out.s.2.1
        have s2 := HP.out.s.2.2
        have e0 : W1.cell? ⟨x7, 0, none⟩ = some (.int .i64 ((E2 0 : Nat) : Int)) := HP.out.e 0
        have e1 : W1.cell? ⟨x7, 1, none⟩ = some (.int .i64 ((E2 1 : Nat) : Int)) := HP.out.e 1
        have e2 : W1.cell? ⟨x7, 2, none⟩ = some (.int .i64 ((E2 2 : Nat) : Int)) := HP.out.e 2
        have e3 : W1.cell? ⟨x7, 3, none⟩ = some (.int .i64 ((E2 3 : Nat) : Int)) := HP.out.e 3
        go_wp2_with fail
        refine (HC.out _ E2 HEX.out).mono ?_; rintro _ w3 ⟨rfl, hb3⟩
        have HP3 := Lib.hid (HP.out.after hb3)
        clear s0 s1 s2 e0 e1 e2 e3 hb3
        have s0 := HP3.out.s.1
        generalize Fm.holds (stOf n S R) g E2 = tr at *
        cases tr
        · have HC3 := Lib.hid (HCS.out.trans (show cc + (if false = true then 1 else 0) = cc from rfl))
          by_cases hbr : cc + n < 1 + (k + 1)
          · go_wp2_with fail
            refine (HEN.out _).mono ?_; rintro _ _ ⟨rfl, rfl⟩
            go_wp2_with fail
            go_ret2
            refine ⟨ret_bi ?_ HL.out, HP3.out.below⟩
            have hm := cnt_mono (fun y => Fm.holds (stOf n S R) g (Fm.upd e v y)) (k + 1) n (by omega)
            rw [HC3.out] at hm
            first
              | (rw [HHQ.out, Bool.eq_iff_iff, decide_eq_true_eq, decide_eq_true_eq]; omega)
              | (rw [HHQ.out, eq_comm, decide_eq_true_eq]; omega)
              | (rw [HHQ.out, eq_comm, decide_eq_false_iff_not]; omega)
          · go_wp2_with fail
            go_roundw
            case rel => exact ⟨k + 1, by omega, by go_num, cc, by omega, rfl, HC3.out.symm, E2, HEV, HP3⟩
            case measure => simp [intOf]; omega
        · have HC3 := Lib.hid (HCS.out.trans (show cc + (if true = true then 1 else 0) = cc + 1 from rfl))
          by_cases hbr : cc + 1 + n < 1 + (k + 1)
          · exfalso; omega
          · go_wp2_with fail
            go_roundw
            case rel => exact ⟨k + 1, by omega, by go_num, cc + 1, by omega, by go_num, HC3.out.symm, E2, HEV, HP3⟩
            case measure => simp [intOf]; omega
      · by_cases hlt1 : k < n
        · have hlt2 : ¬ cc < 1 := fun h => hgo ⟨hlt1, h⟩
          go_wp2_with fail
          refine (HEN.out _).mono ?_; rintro _ _ ⟨rfl, rfl⟩
          go_wp2_with fail
          go_ret2
          refine ⟨ret_bi ?_ HL.out, HB1.out.below⟩
          have hm := cnt_mono (fun y => Fm.holds (stOf n S R) g (Fm.upd e v y)) k n hk
          rw [← HCN.out] at hm
          first
            | (rw [HHQ.out, Bool.eq_iff_iff, decide_eq_true_eq, decide_eq_true_eq]; omega)
            | (rw [HHQ.out, eq_comm, decide_eq_true_eq]; omega)
            | (rw [HHQ.out, eq_comm, decide_eq_false_iff_not]; omega)
        · go_wp2_with fail
          refine (HEN.out _).mono ?_; rintro _ _ ⟨rfl, rfl⟩
          go_wp2_with fail
          go_ret2
          refine ⟨ret_bi ?_ HL.out, HB1.out.below⟩
          have hm := cnt_mono (fun y => Fm.holds (stOf n S R) g (Fm.upd e v y)) k n hk
          rw [← HCN.out] at hm
          first
            | (rw [HHQ.out, Bool.eq_iff_iff, decide_eq_true_eq, decide_eq_true_eq]; omega)
            | (rw [HHQ.out, eq_comm, decide_eq_true_eq]; omega)
            | (rw [HHQ.out, eq_comm, decide_eq_false_iff_not]; omega)
  · replace hx : f[a] = 50 := hx
    replace HHQ : Hid (Fm.holds (stOf n S R) (.qu .two v g) e = decide (2 ≤ Fm.cnt (fun y => Fm.holds (stOf n S R) g (Fm.upd e v y)) n)) := HHQ
    go_enter Tryz.func92, Tryz.ntmps92
    go_upto_region 1 with fail
    rw [HW.out, HX7.out, HX4.out]
    go_wp2_with fail
    clear s0
    go_loopw [16, 15, 17, 18] (fun i c _ _ wr => ∃ k : Nat, k ≤ n ∧ i = .int .i64 (k : Int) ∧ ∃ cc : Nat, cc ≤ k ∧ c = .int .i64 (cc : Int) ∧ Hid (cc = Fm.cnt (fun y => Fm.holds (stOf n S R) g (Fm.upd e v y)) k) ∧ ∃ E : Fm.Env, Hid (∀ y, y ≠ v → E y = e y) ∧ Hid (LBox w wr n S R E x4 x7)) (fun i _ _ _ _ => n - (intOf i).toNat)
    case atStart => exact ⟨0, by omega, rfl, 0, by omega, rfl, rfl, e, fun _ _ => rfl, HB0.out⟩
    case round =>
      obtain ⟨k, hk, rfl, cc, hcc, rfl, HCN, E, HEE, HB1⟩ := hrel
      have s0 := HB1.out.s.1
      by_cases hgo : k < n ∧ cc < 2
      · obtain ⟨hlt1, hlt2⟩ := hgo
        go_wp2_with fail
        refine (HV1.out _).mono ?_; rintro _ wv ⟨rfl, hwv⟩; rw [hwv]; clear hwv
        have o5 := HB1.out.e v
        have z5 := HB1.out.fr v
        have hl1 := v.isLt
        have hp := HB1.out.put v k
        have hj := HJ.out
        obtain ⟨W1, hW1⟩ : ∃ W1, wr.setCell ⟨x7, v.val, none⟩ (.int .i64 (k : Int)) = W1 := ⟨_, rfl⟩
        rw [hW1] at hp
        rw [hj] at hW1 o5 z5 hl1
        have hI1 : (0 : Int) ≤ (j : Int) ∧ (j : Int) < 4 := by omega
        have hEq : Fm.upd E v k = Fm.upd e v k := by
          funext y; unfold Fm.upd; split
          · rfl
          · exact HEE.out y (by assumption)
        rw [hEq] at hp
        have HP := Lib.hid hp; have HW1 := Lib.hid hW1
        have HEX : Hid (∀ y, Fm.upd e v k y < n) := fun y => by
          unfold Fm.upd
          split
          · exact hlt1
          · exact HE.out y
        have HCS := Lib.hid (show Fm.cnt (fun y => Fm.holds (stOf n S R) g (Fm.upd e v y)) (k + 1) = Fm.cnt (fun y => Fm.holds (stOf n S R) g (Fm.upd e v y)) k + (if Fm.holds (stOf n S R) g (Fm.upd e v k) then 1 else 0) from rfl)
        rw [← HCN.out] at HCS
        have HEV := Lib.hid (show ∀ y, y ≠ v → Fm.upd e v k y = e y from fun y hy => by simp [Fm.upd, hy])
        clear hp hW1 hEq hj
        go_upto_region 33 with fail
        rw [HW1.out]
        clear o5 z5 s0
        obtain ⟨E2, hE2⟩ : ∃ E2, Fm.upd e v k = E2 := ⟨_, rfl⟩
        rw [hE2] at HP HEX HCS HEV
        clear hE2
        have s0 := HP.out.s.1
        have s1 := HP.out.s.2.1
        have s2 := HP.out.s.2.2
        have e0 : W1.cell? ⟨x7, 0, none⟩ = some (.int .i64 ((E2 0 : Nat) : Int)) := HP.out.e 0
        have e1 : W1.cell? ⟨x7, 1, none⟩ = some (.int .i64 ((E2 1 : Nat) : Int)) := HP.out.e 1
        have e2 : W1.cell? ⟨x7, 2, none⟩ = some (.int .i64 ((E2 2 : Nat) : Int)) := HP.out.e 2
        have e3 : W1.cell? ⟨x7, 3, none⟩ = some (.int .i64 ((E2 3 : Nat) : Int)) := HP.out.e 3
        go_wp2_with fail
        refine (HC.out _ E2 HEX.out).mono ?_; rintro _ w3 ⟨rfl, hb3⟩
        have HP3 := Lib.hid (HP.out.after hb3)
        clear s0 s1 s2 e0 e1 e2 e3 hb3
        have s0 := HP3.out.s.1
        generalize Fm.holds (stOf n S R) g E2 = tr at *
        cases tr
        · have HC3 := Lib.hid (HCS.out.trans (show cc + (if false = true then 1 else 0) = cc from rfl))
          by_cases hbr : cc + n < 2 + (k + 1)
          · go_wp2_with fail
            refine (HEN.out _).mono ?_; rintro _ _ ⟨rfl, rfl⟩
            go_wp2_with fail
            go_ret2
            refine ⟨ret_bi ?_ HL.out, HP3.out.below⟩
            have hm := cnt_mono (fun y => Fm.holds (stOf n S R) g (Fm.upd e v y)) (k + 1) n (by omega)
            rw [HC3.out] at hm
            first
              | (rw [HHQ.out, Bool.eq_iff_iff, decide_eq_true_eq, decide_eq_true_eq]; omega)
              | (rw [HHQ.out, eq_comm, decide_eq_true_eq]; omega)
              | (rw [HHQ.out, eq_comm, decide_eq_false_iff_not]; omega)
          · go_wp2_with fail
            go_roundw
            case rel => exact ⟨k + 1, by omega, by go_num, cc, by omega, rfl, HC3.out.symm, E2, HEV, HP3⟩
            case measure => simp [intOf]; omega
        · have HC3 := Lib.hid (HCS.out.trans (show cc + (if true = true then 1 else 0) = cc + 1 from rfl))
          by_cases hbr : cc + 1 + n < 2 + (k + 1)
          · go_wp2_with fail
            refine (HEN.out _).mono ?_; rintro _ _ ⟨rfl, rfl⟩
            go_wp2_with fail
            go_ret2
            refine ⟨ret_bi ?_ HL.out, HP3.out.below⟩
            have hm := cnt_mono (fun y => Fm.holds (stOf n S R) g (Fm.upd e v y)) (k + 1) n (by omega)
            rw [HC3.out] at hm
            first
              | (rw [HHQ.out, Bool.eq_iff_iff, decide_eq_true_eq, decide_eq_true_eq]; omega)
              | (rw [HHQ.out, eq_comm, decide_eq_true_eq]; omega)
              | (rw [HHQ.out, eq_comm, decide_eq_false_iff_not]; omega)
          · go_wp2_with fail
            go_roundw
            case rel => exact ⟨k + 1, by omega, by go_num, cc + 1, by omega, by go_num, HC3.out.symm, E2, HEV, HP3⟩
            case measure => simp [intOf]; omega
      · by_cases hlt1 : k < n
        · have hlt2 : ¬ cc < 2 := fun h => hgo ⟨hlt1, h⟩
          go_wp2_with fail
          refine (HEN.out _).mono ?_; rintro _ _ ⟨rfl, rfl⟩
          go_wp2_with fail
          go_ret2
          refine ⟨ret_bi ?_ HL.out, HB1.out.below⟩
          have hm := cnt_mono (fun y => Fm.holds (stOf n S R) g (Fm.upd e v y)) k n hk
          rw [← HCN.out] at hm
          first
            | (rw [HHQ.out, Bool.eq_iff_iff, decide_eq_true_eq, decide_eq_true_eq]; omega)
            | (rw [HHQ.out, eq_comm, decide_eq_true_eq]; omega)
            | (rw [HHQ.out, eq_comm, decide_eq_false_iff_not]; omega)
        · go_wp2_with fail
          refine (HEN.out _).mono ?_; rintro _ _ ⟨rfl, rfl⟩
          go_wp2_with fail
          go_ret2
          refine ⟨ret_bi ?_ HL.out, HB1.out.below⟩
          have hm := cnt_mono (fun y => Fm.holds (stOf n S R) g (Fm.upd e v y)) k n hk
          rw [← HCN.out] at hm
          first
            | (rw [HHQ.out, Bool.eq_iff_iff, decide_eq_true_eq, decide_eq_true_eq]; omega)
            | (rw [HHQ.out, eq_comm, decide_eq_true_eq]; omega)
            | (rw [HHQ.out, eq_comm, decide_eq_false_iff_not]; omega)
  · replace hx : f[a] = 51 := hx
    replace HHQ : Hid (Fm.holds (stOf n S R) (.qu .three v g) e = decide (3 ≤ Fm.cnt (fun y => Fm.holds (stOf n S R) g (Fm.upd e v y)) n)) := HHQ
    go_enter Tryz.func92, Tryz.ntmps92
    go_upto_region 1 with fail
    rw [HW.out, HX7.out, HX4.out]
    go_wp2_with fail
    clear s0
    go_loopw [16, 15, 17, 18] (fun i c _ _ wr => ∃ k : Nat, k ≤ n ∧ i = .int .i64 (k : Int) ∧ ∃ cc : Nat, cc ≤ k ∧ c = .int .i64 (cc : Int) ∧ Hid (cc = Fm.cnt (fun y => Fm.holds (stOf n S R) g (Fm.upd e v y)) k) ∧ ∃ E : Fm.Env, Hid (∀ y, y ≠ v → E y = e y) ∧ Hid (LBox w wr n S R E x4 x7)) (fun i _ _ _ _ => n - (intOf i).toNat)
    case atStart => exact ⟨0, by omega, rfl, 0, by omega, rfl, rfl, e, fun _ _ => rfl, HB0.out⟩
    case round =>
      obtain ⟨k, hk, rfl, cc, hcc, rfl, HCN, E, HEE, HB1⟩ := hrel
      have s0 := HB1.out.s.1
      by_cases hgo : k < n ∧ cc < 3
      · obtain ⟨hlt1, hlt2⟩ := hgo
        go_wp2_with fail
        refine (HV1.out _).mono ?_; rintro _ wv ⟨rfl, hwv⟩; rw [hwv]; clear hwv
        have o5 := HB1.out.e v
        have z5 := HB1.out.fr v
        have hl1 := v.isLt
        have hp := HB1.out.put v k
        have hj := HJ.out
        obtain ⟨W1, hW1⟩ : ∃ W1, wr.setCell ⟨x7, v.val, none⟩ (.int .i64 (k : Int)) = W1 := ⟨_, rfl⟩
        rw [hW1] at hp
        rw [hj] at hW1 o5 z5 hl1
        have hI1 : (0 : Int) ≤ (j : Int) ∧ (j : Int) < 4 := by omega
        have hEq : Fm.upd E v k = Fm.upd e v k := by
          funext y; unfold Fm.upd; split
          · rfl
          · exact HEE.out y (by assumption)
        rw [hEq] at hp
        have HP := Lib.hid hp; have HW1 := Lib.hid hW1
        have HEX : Hid (∀ y, Fm.upd e v k y < n) := fun y => by
          unfold Fm.upd
          split
          · exact hlt1
          · exact HE.out y
        have HCS := Lib.hid (show Fm.cnt (fun y => Fm.holds (stOf n S R) g (Fm.upd e v y)) (k + 1) = Fm.cnt (fun y => Fm.holds (stOf n S R) g (Fm.upd e v y)) k + (if Fm.holds (stOf n S R) g (Fm.upd e v k) then 1 else 0) from rfl)
        rw [← HCN.out] at HCS
        have HEV := Lib.hid (show ∀ y, y ≠ v → Fm.upd e v k y = e y from fun y hy => by simp [Fm.upd, hy])
        clear hp hW1 hEq hj
        go_upto_region 33 with fail
        rw [HW1.out]
        clear o5 z5 s0
        obtain ⟨E2, hE2⟩ : ∃ E2, Fm.upd e v k = E2 := ⟨_, rfl⟩
        rw [hE2] at HP HEX HCS HEV
        clear hE2
        have s0 := HP.out.s.1
        have s1 := HP.out.s.2.1
        have s2 := HP.out.s.2.2
        have e0 : W1.cell? ⟨x7, 0, none⟩ = some (.int .i64 ((E2 0 : Nat) : Int)) := HP.out.e 0
        have e1 : W1.cell? ⟨x7, 1, none⟩ = some (.int .i64 ((E2 1 : Nat) : Int)) := HP.out.e 1
        have e2 : W1.cell? ⟨x7, 2, none⟩ = some (.int .i64 ((E2 2 : Nat) : Int)) := HP.out.e 2
        have e3 : W1.cell? ⟨x7, 3, none⟩ = some (.int .i64 ((E2 3 : Nat) : Int)) := HP.out.e 3
        go_wp2_with fail
        refine (HC.out _ E2 HEX.out).mono ?_; rintro _ w3 ⟨rfl, hb3⟩
        have HP3 := Lib.hid (HP.out.after hb3)
        clear s0 s1 s2 e0 e1 e2 e3 hb3
        have s0 := HP3.out.s.1
        generalize Fm.holds (stOf n S R) g E2 = tr at *
        cases tr
        · have HC3 := Lib.hid (HCS.out.trans (show cc + (if false = true then 1 else 0) = cc from rfl))
          by_cases hbr : cc + n < 3 + (k + 1)
          · go_wp2_with fail
            refine (HEN.out _).mono ?_; rintro _ _ ⟨rfl, rfl⟩
            go_wp2_with fail
            go_ret2
            refine ⟨ret_bi ?_ HL.out, HP3.out.below⟩
            have hm := cnt_mono (fun y => Fm.holds (stOf n S R) g (Fm.upd e v y)) (k + 1) n (by omega)
            rw [HC3.out] at hm
            first
              | (rw [HHQ.out, Bool.eq_iff_iff, decide_eq_true_eq, decide_eq_true_eq]; omega)
              | (rw [HHQ.out, eq_comm, decide_eq_true_eq]; omega)
              | (rw [HHQ.out, eq_comm, decide_eq_false_iff_not]; omega)
          · go_wp2_with fail
            go_roundw
            case rel => exact ⟨k + 1, by omega, by go_num, cc, by omega, rfl, HC3.out.symm, E2, HEV, HP3⟩
            case measure => simp [intOf]; omega
        · have HC3 := Lib.hid (HCS.out.trans (show cc + (if true = true then 1 else 0) = cc + 1 from rfl))
          by_cases hbr : cc + 1 + n < 3 + (k + 1)
          · go_wp2_with fail
            refine (HEN.out _).mono ?_; rintro _ _ ⟨rfl, rfl⟩
            go_wp2_with fail
            go_ret2
            refine ⟨ret_bi ?_ HL.out, HP3.out.below⟩
            have hm := cnt_mono (fun y => Fm.holds (stOf n S R) g (Fm.upd e v y)) (k + 1) n (by omega)
            rw [HC3.out] at hm
            first
              | (rw [HHQ.out, Bool.eq_iff_iff, decide_eq_true_eq, decide_eq_true_eq]; omega)
              | (rw [HHQ.out, eq_comm, decide_eq_true_eq]; omega)
              | (rw [HHQ.out, eq_comm, decide_eq_false_iff_not]; omega)
          · go_wp2_with fail
            go_roundw
            case rel => exact ⟨k + 1, by omega, by go_num, cc + 1, by omega, by go_num, HC3.out.symm, E2, HEV, HP3⟩
            case measure => simp [intOf]; omega
      · by_cases hlt1 : k < n
        · have hlt2 : ¬ cc < 3 := fun h => hgo ⟨hlt1, h⟩
          go_wp2_with fail
          refine (HEN.out _).mono ?_; rintro _ _ ⟨rfl, rfl⟩
          go_wp2_with fail
          go_ret2
          refine ⟨ret_bi ?_ HL.out, HB1.out.below⟩
          have hm := cnt_mono (fun y => Fm.holds (stOf n S R) g (Fm.upd e v y)) k n hk
          rw [← HCN.out] at hm
          first
            | (rw [HHQ.out, Bool.eq_iff_iff, decide_eq_true_eq, decide_eq_true_eq]; omega)
            | (rw [HHQ.out, eq_comm, decide_eq_true_eq]; omega)
            | (rw [HHQ.out, eq_comm, decide_eq_false_iff_not]; omega)
        · go_wp2_with fail
          refine (HEN.out _).mono ?_; rintro _ _ ⟨rfl, rfl⟩
          go_wp2_with fail
          go_ret2
          refine ⟨ret_bi ?_ HL.out, HB1.out.below⟩
          have hm := cnt_mono (fun y => Fm.holds (stOf n S R) g (Fm.upd e v y)) k n hk
          rw [← HCN.out] at hm
          first
            | (rw [HHQ.out, Bool.eq_iff_iff, decide_eq_true_eq, decide_eq_true_eq]; omega)
            | (rw [HHQ.out, eq_comm, decide_eq_true_eq]; omega)
            | (rw [HHQ.out, eq_comm, decide_eq_false_iff_not]; omega)
  · replace hx : f[a] = 52 := hx
    replace HHQ : Hid (Fm.holds (stOf n S R) (.qu .four v g) e = decide (4 ≤ Fm.cnt (fun y => Fm.holds (stOf n S R) g (Fm.upd e v y)) n)) := HHQ
    go_enter Tryz.func92, Tryz.ntmps92
    go_upto_region 1 with fail
    rw [HW.out, HX7.out, HX4.out]
    go_wp2_with fail
    clear s0
    go_loopw [16, 15, 17, 18] (fun i c _ _ wr => ∃ k : Nat, k ≤ n ∧ i = .int .i64 (k : Int) ∧ ∃ cc : Nat, cc ≤ k ∧ c = .int .i64 (cc : Int) ∧ Hid (cc = Fm.cnt (fun y => Fm.holds (stOf n S R) g (Fm.upd e v y)) k) ∧ ∃ E : Fm.Env, Hid (∀ y, y ≠ v → E y = e y) ∧ Hid (LBox w wr n S R E x4 x7)) (fun i _ _ _ _ => n - (intOf i).toNat)
    case atStart => exact ⟨0, by omega, rfl, 0, by omega, rfl, rfl, e, fun _ _ => rfl, HB0.out⟩
    case round =>
      obtain ⟨k, hk, rfl, cc, hcc, rfl, HCN, E, HEE, HB1⟩ := hrel
      have s0 := HB1.out.s.1
      by_cases hgo : k < n ∧ cc < 4
      · obtain ⟨hlt1, hlt2⟩ := hgo
        go_wp2_with fail
        refine (HV1.out _).mono ?_; rintro _ wv ⟨rfl, hwv⟩; rw [hwv]; clear hwv
        have o5 := HB1.out.e v
        have z5 := HB1.out.fr v
        have hl1 := v.isLt
        have hp := HB1.out.put v k
        have hj := HJ.out
        obtain ⟨W1, hW1⟩ : ∃ W1, wr.setCell ⟨x7, v.val, none⟩ (.int .i64 (k : Int)) = W1 := ⟨_, rfl⟩
        rw [hW1] at hp
        rw [hj] at hW1 o5 z5 hl1
        have hI1 : (0 : Int) ≤ (j : Int) ∧ (j : Int) < 4 := by omega
        have hEq : Fm.upd E v k = Fm.upd e v k := by
          funext y; unfold Fm.upd; split
          · rfl
          · exact HEE.out y (by assumption)
        rw [hEq] at hp
        have HP := Lib.hid hp; have HW1 := Lib.hid hW1
        have HEX : Hid (∀ y, Fm.upd e v k y < n) := fun y => by
          unfold Fm.upd
          split
          · exact hlt1
          · exact HE.out y
        have HCS := Lib.hid (show Fm.cnt (fun y => Fm.holds (stOf n S R) g (Fm.upd e v y)) (k + 1) = Fm.cnt (fun y => Fm.holds (stOf n S R) g (Fm.upd e v y)) k + (if Fm.holds (stOf n S R) g (Fm.upd e v k) then 1 else 0) from rfl)
        rw [← HCN.out] at HCS
        have HEV := Lib.hid (show ∀ y, y ≠ v → Fm.upd e v k y = e y from fun y hy => by simp [Fm.upd, hy])
        clear hp hW1 hEq hj
        go_upto_region 33 with fail
        rw [HW1.out]
        clear o5 z5 s0
        obtain ⟨E2, hE2⟩ : ∃ E2, Fm.upd e v k = E2 := ⟨_, rfl⟩
        rw [hE2] at HP HEX HCS HEV
        clear hE2
        have s0 := HP.out.s.1
        have s1 := HP.out.s.2.1
        have s2 := HP.out.s.2.2
        have e0 : W1.cell? ⟨x7, 0, none⟩ = some (.int .i64 ((E2 0 : Nat) : Int)) := HP.out.e 0
        have e1 : W1.cell? ⟨x7, 1, none⟩ = some (.int .i64 ((E2 1 : Nat) : Int)) := HP.out.e 1
        have e2 : W1.cell? ⟨x7, 2, none⟩ = some (.int .i64 ((E2 2 : Nat) : Int)) := HP.out.e 2
        have e3 : W1.cell? ⟨x7, 3, none⟩ = some (.int .i64 ((E2 3 : Nat) : Int)) := HP.out.e 3
        go_wp2_with fail
        refine (HC.out _ E2 HEX.out).mono ?_; rintro _ w3 ⟨rfl, hb3⟩
        have HP3 := Lib.hid (HP.out.after hb3)
        clear s0 s1 s2 e0 e1 e2 e3 hb3
        have s0 := HP3.out.s.1
        generalize Fm.holds (stOf n S R) g E2 = tr at *
        cases tr
        · have HC3 := Lib.hid (HCS.out.trans (show cc + (if false = true then 1 else 0) = cc from rfl))
          by_cases hbr : cc + n < 4 + (k + 1)
          · go_wp2_with fail
            refine (HEN.out _).mono ?_; rintro _ _ ⟨rfl, rfl⟩
            go_wp2_with fail
            go_ret2
            refine ⟨ret_bi ?_ HL.out, HP3.out.below⟩
            have hm := cnt_mono (fun y => Fm.holds (stOf n S R) g (Fm.upd e v y)) (k + 1) n (by omega)
            rw [HC3.out] at hm
            first
              | (rw [HHQ.out, Bool.eq_iff_iff, decide_eq_true_eq, decide_eq_true_eq]; omega)
              | (rw [HHQ.out, eq_comm, decide_eq_true_eq]; omega)
              | (rw [HHQ.out, eq_comm, decide_eq_false_iff_not]; omega)
          · go_wp2_with fail
            go_roundw
            case rel => exact ⟨k + 1, by omega, by go_num, cc, by omega, rfl, HC3.out.symm, E2, HEV, HP3⟩
            case measure => simp [intOf]; omega
        · have HC3 := Lib.hid (HCS.out.trans (show cc + (if true = true then 1 else 0) = cc + 1 from rfl))
          by_cases hbr : cc + 1 + n < 4 + (k + 1)
          · go_wp2_with fail
            refine (HEN.out _).mono ?_; rintro _ _ ⟨rfl, rfl⟩
            go_wp2_with fail
            go_ret2
            refine ⟨ret_bi ?_ HL.out, HP3.out.below⟩
            have hm := cnt_mono (fun y => Fm.holds (stOf n S R) g (Fm.upd e v y)) (k + 1) n (by omega)
            rw [HC3.out] at hm
            first
              | (rw [HHQ.out, Bool.eq_iff_iff, decide_eq_true_eq, decide_eq_true_eq]; omega)
              | (rw [HHQ.out, eq_comm, decide_eq_true_eq]; omega)
              | (rw [HHQ.out, eq_comm, decide_eq_false_iff_not]; omega)
          · go_wp2_with fail
            go_roundw
            case rel => exact ⟨k + 1, by omega, by go_num, cc + 1, by omega, by go_num, HC3.out.symm, E2, HEV, HP3⟩
            case measure => simp [intOf]; omega
      · by_cases hlt1 : k < n
        · have hlt2 : ¬ cc < 4 := fun h => hgo ⟨hlt1, h⟩
          go_wp2_with fail
          refine (HEN.out _).mono ?_; rintro _ _ ⟨rfl, rfl⟩
          go_wp2_with fail
          go_ret2
          refine ⟨ret_bi ?_ HL.out, HB1.out.below⟩
          have hm := cnt_mono (fun y => Fm.holds (stOf n S R) g (Fm.upd e v y)) k n hk
          rw [← HCN.out] at hm
          first
            | (rw [HHQ.out, Bool.eq_iff_iff, decide_eq_true_eq, decide_eq_true_eq]; omega)
            | (rw [HHQ.out, eq_comm, decide_eq_true_eq]; omega)
            | (rw [HHQ.out, eq_comm, decide_eq_false_iff_not]; omega)
        · go_wp2_with fail
          refine (HEN.out _).mono ?_; rintro _ _ ⟨rfl, rfl⟩
          go_wp2_with fail
          go_ret2
          refine ⟨ret_bi ?_ HL.out, HB1.out.below⟩
          have hm := cnt_mono (fun y => Fm.holds (stOf n S R) g (Fm.upd e v y)) k n hk
          rw [← HCN.out] at hm
          first
            | (rw [HHQ.out, Bool.eq_iff_iff, decide_eq_true_eq, decide_eq_true_eq]; omega)
            | (rw [HHQ.out, eq_comm, decide_eq_true_eq]; omega)
            | (rw [HHQ.out, eq_comm, decide_eq_false_iff_not]; omega)
end Go.Proofs.YtihomcedaaiidaaGreatDoor

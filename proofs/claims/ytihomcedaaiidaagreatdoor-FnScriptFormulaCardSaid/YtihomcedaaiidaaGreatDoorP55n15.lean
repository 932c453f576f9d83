/- Contracts of the program's functions and what they compute: part 15. Conditions: those that each theorem states. -/
import Derived.Test.YtihomcedaaiidaaGreatDoorP55n14
namespace Go.Proofs.YtihomcedaaiidaaGreatDoor
open Go.RowKit
set_option linter.unusedVariables false
/-- The element of a formula's variable. -/
theorem at_any (w : World) (x4 x5 p g n cap i : Nat) (e : Fm.Env) (u : Fin 4) (c0 : w.cell? ⟨x4, 0, none⟩ = some (ptrV p)) (c1 : w.cell? ⟨p, 1, none⟩ = some (.slice (some ⟨g, 0, none⟩) n cap))
    (c2 : w.cell? ⟨g, i, none⟩ = some (vbV u)) (hi : i < n) (hn : n ≤ cap) (hc : cap ≤ maxLen)
    (d0 : w.cell? ⟨x5, 0, none⟩ = some (.int .i64 ((e 0 : Nat) : Int))) (d1 : w.cell? ⟨x5, 1, none⟩ = some (.int .i64 ((e 1 : Nat) : Int))) (d2 : w.cell? ⟨x5, 2, none⟩ = some (.int .i64 ((e 2 : Nat) : Int))) (d3 : w.cell? ⟨x5, 3, none⟩ = some (.int .i64 ((e 3 : Nat) : Int))) :
    Calls Tryz.prog 193 #[.int .i64 (i : Int), .pointer (some ⟨x5, 0, none⟩), .pointer (some ⟨x4, 0, none⟩)] w fun en w' => en = .returned (.int .i64 ((e u : Nat) : Int)) ∧ w' = w := by
  unfold maxLen at hc
  unfold ptrV at c0
  unfold vbV at c2
  rcases (show u = 0 ∨ u = 1 ∨ u = 2 ∨ u = 3 by clear c2; revert u; decide) with rfl | rfl | rfl | rfl
  · replace c2 : w.cell? ⟨g, i, none⟩ = some (.int .u8 97) := c2
    go_enter Tryz.func193, Tryz.ntmps193
    go_wp2_with fail
    go_ret
    exact ⟨rfl, rfl⟩
  · replace c2 : w.cell? ⟨g, i, none⟩ = some (.int .u8 98) := c2
    go_enter Tryz.func193, Tryz.ntmps193
    go_wp2_with fail
    go_ret
    exact ⟨rfl, rfl⟩
  · replace c2 : w.cell? ⟨g, i, none⟩ = some (.int .u8 99) := c2
    go_enter Tryz.func193, Tryz.ntmps193
    go_wp2_with fail
    go_ret
    exact ⟨rfl, rfl⟩
  · replace c2 : w.cell? ⟨g, i, none⟩ = some (.int .u8 100) := c2
    go_enter Tryz.func193, Tryz.ntmps193
    go_wp2_with fail
    go_ret
    exact ⟨rfl, rfl⟩
/-- What decide has laid down at its start. -/
structure DBox (F G : Nat → Prop) (w W : World) (hb kb n : Nat) (S R : ByteArray) (p : Nat) (e : Fm.Env) (x4 x5 : Nat) : Prop where
  base : Base F G W hb kb n S R
  ever : EverP F G kb (stOf n S R) w W
  c4 : W.cell? ⟨x4, 0, none⟩ = some (ptrV p)
  c5 : W.heap[x5]? = some (.cells (envC e) 77 (0, 0))
  g4 : ¬ G x4
  g5 : ¬ G x5
  ne : x4 ≠ x5
  h4 : x4 = w.heap.size
  h5 : x5 = w.heap.size + 1
theorem DBox.new {F G : Nat → Prop} {w : World} {hb kb n : Nat} {S R : ByteArray} {p : Nat} {e : Fm.Env} (hB : Base F G w hb kb n S R) :
    DBox F G w ((w.alloc (.cells #[ptrV p] 51)).alloc (.cells (envC e) 77)) hb kb n S R p e w.heap.size (w.heap.size + 1) := by
  have b1 : Below w.heap.size w ((w.alloc (.cells #[ptrV p] 51)).alloc (.cells (envC e) 77)) := ((Below.refl w.heap.size w).alloc (Nat.le_refl _) _).alloc (by simp) _
  refine ⟨hB.below b1, EverP.of_below hB.memo b1, ?_, ?_, ?_, ?_, by omega, rfl, rfl⟩
  · have h0 : (w.alloc (.cells #[ptrV p] 51)).cell? ⟨w.heap.size, 0, none⟩ = some (ptrV p) := by unfold World.cell?; rw [heap_alloc_new]; rfl
    exact (Below.cell (((Below.refl _ _).alloc (Nat.le_refl _) _)) (by simp)).trans h0
  · have := heap_alloc_new (w.alloc (.cells #[ptrV p] 51)) (.cells (envC e) 77)
    simpa using this
  · intro hg; have := hB.memo.lt _ hg; omega
  · intro hg; have := hB.memo.lt _ hg; omega
theorem DBox.cells {F G : Nat → Prop} {w W : World} {hb kb n : Nat} {S R : ByteArray} {p : Nat} {e : Fm.Env} {x4 x5 : Nat} (h : DBox F G w W hb kb n S R p e x4 x5) :
    W.cell? ⟨x5, 0, none⟩ = some (.int .i64 ((e 0 : Nat) : Int)) ∧ W.cell? ⟨x5, 1, none⟩ = some (.int .i64 ((e 1 : Nat) : Int)) ∧ W.cell? ⟨x5, 2, none⟩ = some (.int .i64 ((e 2 : Nat) : Int)) ∧ W.cell? ⟨x5, 3, none⟩ = some (.int .i64 ((e 3 : Nat) : Int)) := by
  have h5 := h.c5
  unfold envC at h5
  refine ⟨?_, ?_, ?_, ?_⟩ <;> simp [World.cell?, h5]
theorem dec_set (x : Fin 4) : DecideOK (.set x) := by
  intro F G w hb kb n S R p e hB hT he
  have hb0 := DBox.new (p := p) (e := e) hB
  have hTW : Tree F _ _ p := hT.ever hB.memo hb0.ever
  obtain ⟨x4, hx4⟩ : ∃ x, w.heap.size = x := ⟨_, rfl⟩
  obtain ⟨x5, hx5⟩ : ∃ x, w.heap.size + 1 = x := ⟨_, rfl⟩
  rw [hx5, hx4] at hb0
  unfold envC ptrV at hb0 hTW
  obtain ⟨W, hW⟩ : ∃ W, (w.alloc (.cells #[.pointer (some ⟨p, 0, none⟩)] 51)).alloc (.cells #[.int .i64 ((e 0 : Nat) : Int), .int .i64 ((e 1 : Nat) : Int), .int .i64 ((e 2 : Nat) : Int), .int .i64 ((e 3 : Nat) : Int)] 77) = W := ⟨_, rfl⟩
  rw [hW] at hb0 hTW
  obtain ⟨v, u, nd⟩ := hTW
  have HW := Lib.hid hW; have HB0 := Lib.hid hb0; have HX4 := Lib.hid hx4; have HX5 := Lib.hid hx5; have HN := Lib.hid nd; have HE := Lib.hid he
  clear hW hb0 hT nd hx4 hx5 hB he
  unfold envV ptrV
  go_enter Tryz.func128, Tryz.ntmps128
  go_upto_region 2 with fail
  rw [HW.out, HX5.out, HX4.out]
  have c0 : W.cell? ⟨p, 0, none⟩ = some (.int .u8 80) := HN.out.cells.1
  have c4 := HB0.out.c4
  unfold ptrV at c4
  go_upto_region 8 with fail
  obtain ⟨a, cap, rfl, hle, hcap, hne⟩ := HN.out.vars.view
  obtain ⟨g, rfl, hFg, hgl, hgc⟩ := hne (by simp)
  have hM := HB0.out.base.memo
  have hF4 := HB0.out.g4; have hF5 := HB0.out.g5
  have k0 := HB0.out.base.hold.cells
  have f0 := fun s => Ever.cell (s := s) (F := F) (G := G) (kb := kb) (a := stOf n S R) k0.1 (hM.apart _ HB0.out.base.foot)
  have f1 := fun s => Ever.cell (s := s) (F := F) (G := G) (kb := kb) (a := stOf n S R) k0.2.1 (hM.apart _ HB0.out.base.foot)
  have f2 := fun s => Ever.cell (s := s) (F := F) (G := G) (kb := kb) (a := stOf n S R) k0.2.2.1 (hM.apart _ HB0.out.base.foot)
  have HAT : Hid (∀ s : Ever F G kb (stOf n S R) W, Calls Tryz.prog 193 #[.int .i64 0, .pointer (some ⟨x5, 0, none⟩), .pointer (some ⟨x4, 0, none⟩)] s.w fun en w' => en = .returned (.int .i64 ((e x : Nat) : Int)) ∧ w' = s.w) := fun s =>
    at_any s.w x4 x5 p g 1 cap 0 e x (Ever.cell c4 hF4 s) (Ever.cell HN.out.cells.2.1 (hM.apart _ HN.out.foot) s) (Ever.cell ((hgc 0 (by simp)).trans rfl) (hM.apart _ hFg) s) (by omega) hle hcap
      (Ever.cell HB0.out.cells.1 hF5 s) (Ever.cell HB0.out.cells.2.1 hF5 s) (Ever.cell HB0.out.cells.2.2.1 hF5 s) (Ever.cell HB0.out.cells.2.2.2 hF5 s)
  have HIN : Hid (∀ w, Calls Tryz.prog 32 #[strV n S R, .int .i64 ((e x : Nat) : Int)] w fun en w' => en = .returned (.bool (oneAt S (e x))) ∧ Below w.heap.size w w') := fun w => inSet_b n S R (e x) w (by rw [HB0.out.base.hS]; exact HE.out x) (by rw [HB0.out.base.hS]; have := HB0.out.base.n8; omega)
  unfold strV at HIN
  have hNE : Nonempty (Ever F G kb (stOf n S R) W) := ⟨⟨W, EverP.refl hM⟩⟩
  refine wp_region_ever hM (by kernel_rfl) (by kernel_rfl) ?_
  repeat (go_big_quiet_step (first | (with_reducible exact Ever.call_below ((HAT.out _).mono fun _ _ h => ⟨h.1, by rw [h.2]; exact Below.refl _ _⟩)) | (with_reducible exact Ever.call_below (HIN.out _))))
  refine wpQuiet_nil ?_
  intro w1 hev
  go_wp2_with fail
  go_ret
  exact ⟨rfl, HB0.out.ever.then (fun b hb => .inl hb) hev⟩
end Go.Proofs.YtihomcedaaiidaaGreatDoor
namespace Go.Proofs.YtihomcedaaiidaaGreatDoor
open Go.RowKit
set_option linter.unusedVariables false
set_option maxHeartbeats 1000000
set_option maxRecDepth 100000
theorem dec_lit_true : DecideOK (.lit true) := by
  intro F G w hb kb n S R p e hB hT he
  have hb0 := DBox.new (p := p) (e := e) hB
  have hTW : Tree F _ (.lit true) p := hT.ever hB.memo hb0.ever
  obtain ⟨x4, hx4⟩ : ∃ x, w.heap.size = x := ⟨_, rfl⟩
  obtain ⟨x5, hx5⟩ : ∃ x, w.heap.size + 1 = x := ⟨_, rfl⟩
  rw [hx5, hx4] at hb0
  unfold envC ptrV at hb0 hTW
  obtain ⟨W, hW⟩ : ∃ W, (w.alloc (.cells #[.pointer (some ⟨p, 0, none⟩)] 51)).alloc (.cells #[.int .i64 ((e 0 : Nat) : Int), .int .i64 ((e 1 : Nat) : Int), .int .i64 ((e 2 : Nat) : Int), .int .i64 ((e 3 : Nat) : Int)] 77) = W := ⟨_, rfl⟩
  rw [hW] at hb0 hTW
  obtain ⟨v, u, nd⟩ := hTW
  have HW := Lib.hid hW; have HB0 := Lib.hid hb0; have HX4 := Lib.hid hx4; have HX5 := Lib.hid hx5; have HN := Lib.hid nd; have HE := Lib.hid he
  clear hW hb0 hT nd hx4 hx5 hB he
  unfold envV ptrV
  go_enter Tryz.func128, Tryz.ntmps128
  go_upto_region 2 with fail
  rw [HW.out, HX5.out, HX4.out]
  have c0 : W.cell? ⟨p, 0, none⟩ = some (.int .u8 116) := HN.out.cells.1
  have c4 := HB0.out.c4
  unfold ptrV at c4
  go_wp2_with fail
  go_ret
  exact ⟨rfl, HB0.out.ever⟩
theorem dec_lit_false : DecideOK (.lit false) := by
  intro F G w hb kb n S R p e hB hT he
  have hb0 := DBox.new (p := p) (e := e) hB
  have hTW : Tree F _ (.lit false) p := hT.ever hB.memo hb0.ever
  obtain ⟨x4, hx4⟩ : ∃ x, w.heap.size = x := ⟨_, rfl⟩
  obtain ⟨x5, hx5⟩ : ∃ x, w.heap.size + 1 = x := ⟨_, rfl⟩
  rw [hx5, hx4] at hb0
  unfold envC ptrV at hb0 hTW
  obtain ⟨W, hW⟩ : ∃ W, (w.alloc (.cells #[.pointer (some ⟨p, 0, none⟩)] 51)).alloc (.cells #[.int .i64 ((e 0 : Nat) : Int), .int .i64 ((e 1 : Nat) : Int), .int .i64 ((e 2 : Nat) : Int), .int .i64 ((e 3 : Nat) : Int)] 77) = W := ⟨_, rfl⟩
  rw [hW] at hb0 hTW
  obtain ⟨v, u, nd⟩ := hTW
  have HW := Lib.hid hW; have HB0 := Lib.hid hb0; have HX4 := Lib.hid hx4; have HX5 := Lib.hid hx5; have HN := Lib.hid nd; have HE := Lib.hid he
  clear hW hb0 hT nd hx4 hx5 hB he
  unfold envV ptrV
  go_enter Tryz.func128, Tryz.ntmps128
  go_upto_region 2 with fail
  rw [HW.out, HX5.out, HX4.out]
  have c0 : W.cell? ⟨p, 0, none⟩ = some (.int .u8 102) := HN.out.cells.1
  have c4 := HB0.out.c4
  unfold ptrV at c4
  go_wp2_with fail
  go_ret
  exact ⟨rfl, HB0.out.ever⟩
theorem dec_eq (x y : Fin 4) : DecideOK (.rel false x y) := by
  intro F G w hb kb n S R p e hB hT he
  have hb0 := DBox.new (p := p) (e := e) hB
  have hTW : Tree F _ (.rel false x y) p := hT.ever hB.memo hb0.ever
  obtain ⟨x4, hx4⟩ : ∃ x, w.heap.size = x := ⟨_, rfl⟩
  obtain ⟨x5, hx5⟩ : ∃ x, w.heap.size + 1 = x := ⟨_, rfl⟩
  rw [hx5, hx4] at hb0
  unfold envC ptrV at hb0 hTW
  obtain ⟨W, hW⟩ : ∃ W, (w.alloc (.cells #[.pointer (some ⟨p, 0, none⟩)] 51)).alloc (.cells #[.int .i64 ((e 0 : Nat) : Int), .int .i64 ((e 1 : Nat) : Int), .int .i64 ((e 2 : Nat) : Int), .int .i64 ((e 3 : Nat) : Int)] 77) = W := ⟨_, rfl⟩
  rw [hW] at hb0 hTW
  obtain ⟨v, u, nd⟩ := hTW
  have HW := Lib.hid hW; have HB0 := Lib.hid hb0; have HX4 := Lib.hid hx4; have HX5 := Lib.hid hx5; have HN := Lib.hid nd; have HE := Lib.hid he
  clear hW hb0 hT nd hx4 hx5 hB he
  unfold envV ptrV
  go_enter Tryz.func128, Tryz.ntmps128
  go_upto_region 2 with fail
  rw [HW.out, HX5.out, HX4.out]
  have c0 : W.cell? ⟨p, 0, none⟩ = some (.int .u8 61) := HN.out.cells.1
  have c4 := HB0.out.c4
  unfold ptrV at c4
  obtain ⟨a, cap, rfl, hle, hcap, hne⟩ := HN.out.vars.view
  obtain ⟨g, rfl, hFg, hgl, hgc⟩ := hne (by simp)
  have hM := HB0.out.base.memo
  have hF4 := HB0.out.g4; have hF5 := HB0.out.g5
  have k0 := HB0.out.base.hold.cells
  have f0 := fun s => Ever.cell (s := s) (F := F) (G := G) (kb := kb) (a := stOf n S R) k0.1 (hM.apart _ HB0.out.base.foot)
  have f1 := fun s => Ever.cell (s := s) (F := F) (G := G) (kb := kb) (a := stOf n S R) k0.2.1 (hM.apart _ HB0.out.base.foot)
  have f2 := fun s => Ever.cell (s := s) (F := F) (G := G) (kb := kb) (a := stOf n S R) k0.2.2.1 (hM.apart _ HB0.out.base.foot)
  have hNE : Nonempty (Ever F G kb (stOf n S R) W) := ⟨⟨W, EverP.refl hM⟩⟩
  have HAT0 : Hid (∀ s : Ever F G kb (stOf n S R) W, Calls Tryz.prog 193 #[.int .i64 0, .pointer (some ⟨x5, 0, none⟩), .pointer (some ⟨x4, 0, none⟩)] s.w fun en w' => en = .returned (.int .i64 ((e x : Nat) : Int)) ∧ w' = s.w) := fun s =>
    at_any s.w x4 x5 p g 2 cap 0 e x (Ever.cell c4 hF4 s) (Ever.cell HN.out.cells.2.1 (hM.apart _ HN.out.foot) s) (Ever.cell ((hgc 0 (by simp)).trans rfl) (hM.apart _ hFg) s) (by omega) hle hcap
      (Ever.cell HB0.out.cells.1 hF5 s) (Ever.cell HB0.out.cells.2.1 hF5 s) (Ever.cell HB0.out.cells.2.2.1 hF5 s) (Ever.cell HB0.out.cells.2.2.2 hF5 s)
  have HAT1 : Hid (∀ s : Ever F G kb (stOf n S R) W, Calls Tryz.prog 193 #[.int .i64 1, .pointer (some ⟨x5, 0, none⟩), .pointer (some ⟨x4, 0, none⟩)] s.w fun en w' => en = .returned (.int .i64 ((e y : Nat) : Int)) ∧ w' = s.w) := fun s =>
    at_any s.w x4 x5 p g 2 cap 1 e y (Ever.cell c4 hF4 s) (Ever.cell HN.out.cells.2.1 (hM.apart _ HN.out.foot) s) (Ever.cell ((hgc 1 (by simp)).trans rfl) (hM.apart _ hFg) s) (by omega) hle hcap
      (Ever.cell HB0.out.cells.1 hF5 s) (Ever.cell HB0.out.cells.2.1 hF5 s) (Ever.cell HB0.out.cells.2.2.1 hF5 s) (Ever.cell HB0.out.cells.2.2.2 hF5 s)
  have s0 : Ever F G kb (stOf n S R) W := ⟨W, EverP.refl hM⟩
  have HA0 := HAT0.out ⟨W, EverP.refl hM⟩
  have HA1 := HAT1.out ⟨W, EverP.refl hM⟩
  unfold Ever.w at HA0 HA1
  replace HA0 := Lib.hid HA0
  replace HA1 := Lib.hid HA1
  clear f0 f1 f2
  go_wp2_with fail
  refine HA0.out.mono ?_
  rintro _ _ ⟨rfl, rfl⟩
  go_wp2_with fail
  refine HA1.out.mono ?_
  rintro _ _ ⟨rfl, rfl⟩
  go_wp2_with fail
  go_ret
  refine ⟨ret_bool ?_, HB0.out.ever⟩
  rw [Bool.eq_iff_iff, beq_iff_eq]
  show _ ↔ decide (e x = e y) = true
  rw [decide_eq_true_eq]; omega
theorem dec_rel (x y : Fin 4) : DecideOK (.rel true x y) := by
  intro F G w hb kb n S R p e hB hT he
  have hb0 := DBox.new (p := p) (e := e) hB
  have hTW : Tree F _ (.rel true x y) p := hT.ever hB.memo hb0.ever
  obtain ⟨x4, hx4⟩ : ∃ x, w.heap.size = x := ⟨_, rfl⟩
  obtain ⟨x5, hx5⟩ : ∃ x, w.heap.size + 1 = x := ⟨_, rfl⟩
  rw [hx5, hx4] at hb0
  unfold envC ptrV at hb0 hTW
  obtain ⟨W, hW⟩ : ∃ W, (w.alloc (.cells #[.pointer (some ⟨p, 0, none⟩)] 51)).alloc (.cells #[.int .i64 ((e 0 : Nat) : Int), .int .i64 ((e 1 : Nat) : Int), .int .i64 ((e 2 : Nat) : Int), .int .i64 ((e 3 : Nat) : Int)] 77) = W := ⟨_, rfl⟩
  rw [hW] at hb0 hTW
  obtain ⟨v, u, nd⟩ := hTW
  have HW := Lib.hid hW; have HB0 := Lib.hid hb0; have HX4 := Lib.hid hx4; have HX5 := Lib.hid hx5; have HN := Lib.hid nd; have HE := Lib.hid he
  clear hW hb0 hT nd hx4 hx5 hB he
  unfold envV ptrV
  go_enter Tryz.func128, Tryz.ntmps128
  go_upto_region 2 with fail
  rw [HW.out, HX5.out, HX4.out]
  have c0 : W.cell? ⟨p, 0, none⟩ = some (.int .u8 69) := HN.out.cells.1
  have c4 := HB0.out.c4
  unfold ptrV at c4
  go_upto_region 12 with fail
  obtain ⟨a, cap, rfl, hle, hcap, hne⟩ := HN.out.vars.view
  obtain ⟨g, rfl, hFg, hgl, hgc⟩ := hne (by simp)
  have hM := HB0.out.base.memo
  have hF4 := HB0.out.g4; have hF5 := HB0.out.g5
  have k0 := HB0.out.base.hold.cells
  have f0 := fun s => Ever.cell (s := s) (F := F) (G := G) (kb := kb) (a := stOf n S R) k0.1 (hM.apart _ HB0.out.base.foot)
  have f1 := fun s => Ever.cell (s := s) (F := F) (G := G) (kb := kb) (a := stOf n S R) k0.2.1 (hM.apart _ HB0.out.base.foot)
  have f2 := fun s => Ever.cell (s := s) (F := F) (G := G) (kb := kb) (a := stOf n S R) k0.2.2.1 (hM.apart _ HB0.out.base.foot)
  have hNE : Nonempty (Ever F G kb (stOf n S R) W) := ⟨⟨W, EverP.refl hM⟩⟩
  have HAT0 : Hid (∀ s : Ever F G kb (stOf n S R) W, Calls Tryz.prog 193 #[.int .i64 0, .pointer (some ⟨x5, 0, none⟩), .pointer (some ⟨x4, 0, none⟩)] s.w fun en w' => en = .returned (.int .i64 ((e x : Nat) : Int)) ∧ w' = s.w) := fun s =>
    at_any s.w x4 x5 p g 2 cap 0 e x (Ever.cell c4 hF4 s) (Ever.cell HN.out.cells.2.1 (hM.apart _ HN.out.foot) s) (Ever.cell ((hgc 0 (by simp)).trans rfl) (hM.apart _ hFg) s) (by omega) hle hcap
      (Ever.cell HB0.out.cells.1 hF5 s) (Ever.cell HB0.out.cells.2.1 hF5 s) (Ever.cell HB0.out.cells.2.2.1 hF5 s) (Ever.cell HB0.out.cells.2.2.2 hF5 s)
  have HAT1 : Hid (∀ s : Ever F G kb (stOf n S R) W, Calls Tryz.prog 193 #[.int .i64 1, .pointer (some ⟨x5, 0, none⟩), .pointer (some ⟨x4, 0, none⟩)] s.w fun en w' => en = .returned (.int .i64 ((e y : Nat) : Int)) ∧ w' = s.w) := fun s =>
    at_any s.w x4 x5 p g 2 cap 1 e y (Ever.cell c4 hF4 s) (Ever.cell HN.out.cells.2.1 (hM.apart _ HN.out.foot) s) (Ever.cell ((hgc 1 (by simp)).trans rfl) (hM.apart _ hFg) s) (by omega) hle hcap
      (Ever.cell HB0.out.cells.1 hF5 s) (Ever.cell HB0.out.cells.2.1 hF5 s) (Ever.cell HB0.out.cells.2.2.1 hF5 s) (Ever.cell HB0.out.cells.2.2.2 hF5 s)
  have HIN : Hid (∀ w, Calls Tryz.prog 34 #[strV n S R, .int .i64 ((e x : Nat) : Int), .int .i64 ((e y : Nat) : Int)] w fun en w' => en = .returned (.bool (relAt n R (e x) (e y))) ∧ Below w.heap.size w w') := fun w => inRel_b n S R (e x) (e y) w (HE.out x) (HE.out y) HB0.out.base.n8 HB0.out.base.hR
  unfold strV at HIN
  refine wp_region_ever hM (by kernel_rfl) (by kernel_rfl) ?_
  repeat (go_big_quiet_step (first | (with_reducible exact Ever.call_below ((HAT0.out _).mono fun _ _ h => ⟨h.1, by rw [h.2]; exact Below.refl _ _⟩)) | (with_reducible exact Ever.call_below ((HAT1.out _).mono fun _ _ h => ⟨h.1, by rw [h.2]; exact Below.refl _ _⟩)) | (with_reducible exact Ever.call_below (HIN.out _))))
  refine wpQuiet_nil ?_
  intro w1 hev
  go_wp2_with fail
  go_ret
  exact ⟨rfl, HB0.out.ever.then (fun b hb => .inl hb) hev⟩
theorem dec_neg (f : Fm.T) (HD : Hid (TrueOK f)) : DecideOK (.neg f) := by
  intro F G w hb kb n S R p e hB hT he
  have hb0 := DBox.new (p := p) (e := e) hB
  have hTW : Tree F _ (.neg f) p := hT.ever hB.memo hb0.ever
  obtain ⟨x4, hx4⟩ : ∃ x, w.heap.size = x := ⟨_, rfl⟩
  obtain ⟨x5, hx5⟩ : ∃ x, w.heap.size + 1 = x := ⟨_, rfl⟩
  rw [hx5, hx4] at hb0
  unfold envC ptrV at hb0 hTW
  obtain ⟨W, hW⟩ : ∃ W, (w.alloc (.cells #[.pointer (some ⟨p, 0, none⟩)] 51)).alloc (.cells #[.int .i64 ((e 0 : Nat) : Int), .int .i64 ((e 1 : Nat) : Int), .int .i64 ((e 2 : Nat) : Int), .int .i64 ((e 3 : Nat) : Int)] 77) = W := ⟨_, rfl⟩
  rw [hW] at hb0 hTW
  obtain ⟨v, u, q, nd, ht⟩ := hTW
  have HW := Lib.hid hW; have HB0 := Lib.hid hb0; have HX4 := Lib.hid hx4; have HX5 := Lib.hid hx5; have HN := Lib.hid nd; have HT := Lib.hid ht; have HE := Lib.hid he
  clear hW hb0 hT nd ht hx4 hx5 hB he
  unfold envV ptrV
  go_enter Tryz.func128, Tryz.ntmps128
  go_upto_region 2 with fail
  rw [HW.out, HX5.out, HX4.out]
  have c0 : W.cell? ⟨p, 0, none⟩ = some (.int .u8 33) := HN.out.cells.1
  have c4 := HB0.out.c4
  unfold ptrV at c4
  go_upto_region 14 with fail
  have hM := HB0.out.base.memo
  have hF4 := HB0.out.g4; have hF5 := HB0.out.g5
  have k0 := HB0.out.base.hold.cells
  have f0 := fun s => Ever.cell (s := s) (F := F) (G := G) (kb := kb) (a := stOf n S R) k0.1 (hM.apart _ HB0.out.base.foot)
  have f1 := fun s => Ever.cell (s := s) (F := F) (G := G) (kb := kb) (a := stOf n S R) k0.2.1 (hM.apart _ HB0.out.base.foot)
  have f2 := fun s => Ever.cell (s := s) (F := F) (G := G) (kb := kb) (a := stOf n S R) k0.2.2.1 (hM.apart _ HB0.out.base.foot)
  have hNE : Nonempty (Ever F G kb (stOf n S R) W) := ⟨⟨W, EverP.refl hM⟩⟩
  obtain ⟨a, cap, rfl, hle, hcap, hne⟩ := HN.out.parts.view
  obtain ⟨g, rfl, hFg, hgl, hgc⟩ := hne (by simp)
  replace hle : 1 ≤ cap := hle
  have hNP := hM.apart _ HN.out.foot
  have f3 := fun s => Ever.cell (s := s) (F := F) (G := G) (kb := kb) (a := stOf n S R) c4 hF4
  have f4 := fun s => Ever.cell (s := s) (F := F) (G := G) (kb := kb) (a := stOf n S R) HN.out.cells.2.2.1 hNP
  have f5 := fun s => Ever.cell (s := s) (F := F) (G := G) (kb := kb) (a := stOf n S R) HB0.out.cells.1 hF5
  have f6 := fun s => Ever.cell (s := s) (F := F) (G := G) (kb := kb) (a := stOf n S R) HB0.out.cells.2.1 hF5
  have f7 := fun s => Ever.cell (s := s) (F := F) (G := G) (kb := kb) (a := stOf n S R) HB0.out.cells.2.2.1 hF5
  have f8 := fun s => Ever.cell (s := s) (F := F) (G := G) (kb := kb) (a := stOf n S R) HB0.out.cells.2.2.2 hF5
  have p0 : W.cell? ⟨g, 0, none⟩ = some (.pointer (some ⟨q, 0, none⟩)) := (hgc 0 (by simp)).trans rfl
  have g0 := fun s => Ever.cell (s := s) (F := F) (G := G) (kb := kb) (a := stOf n S R) p0 (hM.apart _ hFg)
  have HTR : Hid (∀ (s : Ever F G kb (stOf n S R) W) G', Memo F G' s.w kb (stOf n S R) → Calls Tryz.prog 87 #[ptrV hb, ptrV q, envV e] s.w fun en w' => en = .returned (.bool (Fm.holds (stOf n S R) f e)) ∧ EverP F G' kb (stOf n S R) s.w w') := fun s G' m =>
    HD.out F G' s.w hb kb n S R q e (HB0.out.base.ever s.p m) (HT.out.ever hM s.p) HE.out
  unfold ptrV envV at HTR
  refine wp_region_ever hM (by kernel_rfl) (by kernel_rfl) ?_
  repeat (go_big_quiet_step (first | (with_reducible exact Ever.call (HTR.out _))))
  refine wpQuiet_nil ?_
  intro w1 hev
  go_wp2_with fail
  go_ret
  exact ⟨rfl, HB0.out.ever.then (fun b hb => .inl hb) hev⟩
theorem dec_and (f ff : Fm.T) (HD : Hid (TrueOK f)) (HD2 : Hid (TrueOK ff)) : DecideOK (.bin false f ff) := by
  intro F G w hb kb n S R p e hB hT he
  have hb0 := DBox.new (p := p) (e := e) hB
  have hTW : Tree F _ (.bin false f ff) p := hT.ever hB.memo hb0.ever
  obtain ⟨x4, hx4⟩ : ∃ x, w.heap.size = x := ⟨_, rfl⟩
  obtain ⟨x5, hx5⟩ : ∃ x, w.heap.size + 1 = x := ⟨_, rfl⟩
  rw [hx5, hx4] at hb0
  unfold envC ptrV at hb0 hTW
  obtain ⟨W, hW⟩ : ∃ W, (w.alloc (.cells #[.pointer (some ⟨p, 0, none⟩)] 51)).alloc (.cells #[.int .i64 ((e 0 : Nat) : Int), .int .i64 ((e 1 : Nat) : Int), .int .i64 ((e 2 : Nat) : Int), .int .i64 ((e 3 : Nat) : Int)] 77) = W := ⟨_, rfl⟩
  rw [hW] at hb0 hTW
  obtain ⟨v, u, q, q2, nd, ht, ht2⟩ := hTW
  have HW := Lib.hid hW; have HB0 := Lib.hid hb0; have HX4 := Lib.hid hx4; have HX5 := Lib.hid hx5; have HN := Lib.hid nd; have HT := Lib.hid ht; have HT2 := Lib.hid ht2; have HE := Lib.hid he
  clear hW hb0 hT nd ht ht2 hx4 hx5 hB he
  unfold envV ptrV
  go_enter Tryz.func128, Tryz.ntmps128
  go_upto_region 2 with fail
  rw [HW.out, HX5.out, HX4.out]
  have c0 : W.cell? ⟨p, 0, none⟩ = some (.int .u8 38) := HN.out.cells.1
  have c4 := HB0.out.c4
  unfold ptrV at c4
  go_upto_region 16 with fail
  have hM := HB0.out.base.memo
  have hF4 := HB0.out.g4; have hF5 := HB0.out.g5
  have k0 := HB0.out.base.hold.cells
  have f0 := fun s => Ever.cell (s := s) (F := F) (G := G) (kb := kb) (a := stOf n S R) k0.1 (hM.apart _ HB0.out.base.foot)
  have f1 := fun s => Ever.cell (s := s) (F := F) (G := G) (kb := kb) (a := stOf n S R) k0.2.1 (hM.apart _ HB0.out.base.foot)
  have f2 := fun s => Ever.cell (s := s) (F := F) (G := G) (kb := kb) (a := stOf n S R) k0.2.2.1 (hM.apart _ HB0.out.base.foot)
  have hNE : Nonempty (Ever F G kb (stOf n S R) W) := ⟨⟨W, EverP.refl hM⟩⟩
  obtain ⟨a, cap, rfl, hle, hcap, hne⟩ := HN.out.parts.view
  obtain ⟨g, rfl, hFg, hgl, hgc⟩ := hne (by simp)
  replace hle : 2 ≤ cap := hle
  have hNP := hM.apart _ HN.out.foot
  have f3 := fun s => Ever.cell (s := s) (F := F) (G := G) (kb := kb) (a := stOf n S R) c4 hF4
  have f4 := fun s => Ever.cell (s := s) (F := F) (G := G) (kb := kb) (a := stOf n S R) HN.out.cells.2.2.1 hNP
  have f5 := fun s => Ever.cell (s := s) (F := F) (G := G) (kb := kb) (a := stOf n S R) HB0.out.cells.1 hF5
  have f6 := fun s => Ever.cell (s := s) (F := F) (G := G) (kb := kb) (a := stOf n S R) HB0.out.cells.2.1 hF5
  have f7 := fun s => Ever.cell (s := s) (F := F) (G := G) (kb := kb) (a := stOf n S R) HB0.out.cells.2.2.1 hF5
  have f8 := fun s => Ever.cell (s := s) (F := F) (G := G) (kb := kb) (a := stOf n S R) HB0.out.cells.2.2.2 hF5
  have p0 : W.cell? ⟨g, 0, none⟩ = some (.pointer (some ⟨q, 0, none⟩)) := (hgc 0 (by simp)).trans rfl
  have g0 := fun s => Ever.cell (s := s) (F := F) (G := G) (kb := kb) (a := stOf n S R) p0 (hM.apart _ hFg)
  have p1 : W.cell? ⟨g, 1, none⟩ = some (.pointer (some ⟨q2, 0, none⟩)) := (hgc 1 (by simp)).trans rfl
  have g1 := fun s => Ever.cell (s := s) (F := F) (G := G) (kb := kb) (a := stOf n S R) p1 (hM.apart _ hFg)
  have HTR : Hid (∀ (s : Ever F G kb (stOf n S R) W) G', Memo F G' s.w kb (stOf n S R) → Calls Tryz.prog 87 #[ptrV hb, ptrV q, envV e] s.w fun en w' => en = .returned (.bool (Fm.holds (stOf n S R) f e)) ∧ EverP F G' kb (stOf n S R) s.w w') := fun s G' m =>
    HD.out F G' s.w hb kb n S R q e (HB0.out.base.ever s.p m) (HT.out.ever hM s.p) HE.out
  unfold ptrV envV at HTR
  have HTR2 : Hid (∀ (s : Ever F G kb (stOf n S R) W) G', Memo F G' s.w kb (stOf n S R) → Calls Tryz.prog 87 #[ptrV hb, ptrV q2, envV e] s.w fun en w' => en = .returned (.bool (Fm.holds (stOf n S R) ff e)) ∧ EverP F G' kb (stOf n S R) s.w w') := fun s G' m =>
    HD2.out F G' s.w hb kb n S R q2 e (HB0.out.base.ever s.p m) (HT2.out.ever hM s.p) HE.out
  unfold ptrV envV at HTR2
  have hh : ∀ b, Fm.holds (stOf n S R) f e = b → Fm.holds (stOf n S R) (.bin false f ff) e = (b && Fm.holds (stOf n S R) ff e) := fun b hb => by rw [← hb]; rfl
  have HH := Lib.hid hh
  clear hh
  cases hfe : Fm.holds (stOf n S R) f e
  · have HQ := HH.out _ hfe
    rw [hfe] at HTR
    have HQ' := Lib.hid HQ
    clear HQ hfe
    refine wp_region_ever hM (by kernel_rfl) (by kernel_rfl) ?_
    iterate 9 (go_big_quiet_step (with_reducible exact Ever.call (HTR.out _)))
    repeat (go_big_quiet_step (first | (with_reducible exact Ever.call (HTR2.out _))))
    refine wpQuiet_nil ?_
    intro w1 hev
    go_wp2_with fail
    go_ret
    exact ⟨ret_bool HQ'.out.symm, HB0.out.ever.then (fun b hb => .inl hb) hev⟩
  · have HQ := HH.out _ hfe
    rw [hfe] at HTR
    have HQ' := Lib.hid HQ
    clear HQ hfe
    refine wp_region_ever hM (by kernel_rfl) (by kernel_rfl) ?_
    iterate 9 (go_big_quiet_step (with_reducible exact Ever.call (HTR.out _)))
    repeat (go_big_quiet_step (first | (with_reducible exact Ever.call (HTR2.out _))))
    refine wpQuiet_nil ?_
    intro w1 hev
    go_wp2_with fail
    go_ret
    exact ⟨ret_bool HQ'.out.symm, HB0.out.ever.then (fun b hb => .inl hb) hev⟩
theorem dec_or (f ff : Fm.T) (HD : Hid (TrueOK f)) (HD2 : Hid (TrueOK ff)) : DecideOK (.bin true f ff) := by
  intro F G w hb kb n S R p e hB hT he
  have hb0 := DBox.new (p := p) (e := e) hB
  have hTW : Tree F _ (.bin true f ff) p := hT.ever hB.memo hb0.ever
  obtain ⟨x4, hx4⟩ : ∃ x, w.heap.size = x := ⟨_, rfl⟩
  obtain ⟨x5, hx5⟩ : ∃ x, w.heap.size + 1 = x := ⟨_, rfl⟩
  rw [hx5, hx4] at hb0
  unfold envC ptrV at hb0 hTW
  obtain ⟨W, hW⟩ : ∃ W, (w.alloc (.cells #[.pointer (some ⟨p, 0, none⟩)] 51)).alloc (.cells #[.int .i64 ((e 0 : Nat) : Int), .int .i64 ((e 1 : Nat) : Int), .int .i64 ((e 2 : Nat) : Int), .int .i64 ((e 3 : Nat) : Int)] 77) = W := ⟨_, rfl⟩
  rw [hW] at hb0 hTW
  obtain ⟨v, u, q, q2, nd, ht, ht2⟩ := hTW
  have HW := Lib.hid hW; have HB0 := Lib.hid hb0; have HX4 := Lib.hid hx4; have HX5 := Lib.hid hx5; have HN := Lib.hid nd; have HT := Lib.hid ht; have HT2 := Lib.hid ht2; have HE := Lib.hid he
  clear hW hb0 hT nd ht ht2 hx4 hx5 hB he
  unfold envV ptrV
  go_enter Tryz.func128, Tryz.ntmps128
  go_upto_region 2 with fail
  rw [HW.out, HX5.out, HX4.out]
  have c0 : W.cell? ⟨p, 0, none⟩ = some (.int .u8 124) := HN.out.cells.1
  have c4 := HB0.out.c4
  unfold ptrV at c4
  go_upto_region 18 with fail
  have hM := HB0.out.base.memo
  have hF4 := HB0.out.g4; have hF5 := HB0.out.g5
  have k0 := HB0.out.base.hold.cells
  have f0 := fun s => Ever.cell (s := s) (F := F) (G := G) (kb := kb) (a := stOf n S R) k0.1 (hM.apart _ HB0.out.base.foot)
  have f1 := fun s => Ever.cell (s := s) (F := F) (G := G) (kb := kb) (a := stOf n S R) k0.2.1 (hM.apart _ HB0.out.base.foot)
  have f2 := fun s => Ever.cell (s := s) (F := F) (G := G) (kb := kb) (a := stOf n S R) k0.2.2.1 (hM.apart _ HB0.out.base.foot)
  have hNE : Nonempty (Ever F G kb (stOf n S R) W) := ⟨⟨W, EverP.refl hM⟩⟩
  obtain ⟨a, cap, rfl, hle, hcap, hne⟩ := HN.out.parts.view
  obtain ⟨g, rfl, hFg, hgl, hgc⟩ := hne (by simp)
  replace hle : 2 ≤ cap := hle
  have hNP := hM.apart _ HN.out.foot
  have f3 := fun s => Ever.cell (s := s) (F := F) (G := G) (kb := kb) (a := stOf n S R) c4 hF4
  have f4 := fun s => Ever.cell (s := s) (F := F) (G := G) (kb := kb) (a := stOf n S R) HN.out.cells.2.2.1 hNP
  have f5 := fun s => Ever.cell (s := s) (F := F) (G := G) (kb := kb) (a := stOf n S R) HB0.out.cells.1 hF5
  have f6 := fun s => Ever.cell (s := s) (F := F) (G := G) (kb := kb) (a := stOf n S R) HB0.out.cells.2.1 hF5
  have f7 := fun s => Ever.cell (s := s) (F := F) (G := G) (kb := kb) (a := stOf n S R) HB0.out.cells.2.2.1 hF5
  have f8 := fun s => Ever.cell (s := s) (F := F) (G := G) (kb := kb) (a := stOf n S R) HB0.out.cells.2.2.2 hF5
  have p0 : W.cell? ⟨g, 0, none⟩ = some (.pointer (some ⟨q, 0, none⟩)) := (hgc 0 (by simp)).trans rfl
  have g0 := fun s => Ever.cell (s := s) (F := F) (G := G) (kb := kb) (a := stOf n S R) p0 (hM.apart _ hFg)
  have p1 : W.cell? ⟨g, 1, none⟩ = some (.pointer (some ⟨q2, 0, none⟩)) := (hgc 1 (by simp)).trans rfl
  have g1 := fun s => Ever.cell (s := s) (F := F) (G := G) (kb := kb) (a := stOf n S R) p1 (hM.apart _ hFg)
  have HTR : Hid (∀ (s : Ever F G kb (stOf n S R) W) G', Memo F G' s.w kb (stOf n S R) → Calls Tryz.prog 87 #[ptrV hb, ptrV q, envV e] s.w fun en w' => en = .returned (.bool (Fm.holds (stOf n S R) f e)) ∧ EverP F G' kb (stOf n S R) s.w w') := fun s G' m =>
    HD.out F G' s.w hb kb n S R q e (HB0.out.base.ever s.p m) (HT.out.ever hM s.p) HE.out
  unfold ptrV envV at HTR
  have HTR2 : Hid (∀ (s : Ever F G kb (stOf n S R) W) G', Memo F G' s.w kb (stOf n S R) → Calls Tryz.prog 87 #[ptrV hb, ptrV q2, envV e] s.w fun en w' => en = .returned (.bool (Fm.holds (stOf n S R) ff e)) ∧ EverP F G' kb (stOf n S R) s.w w') := fun s G' m =>
    HD2.out F G' s.w hb kb n S R q2 e (HB0.out.base.ever s.p m) (HT2.out.ever hM s.p) HE.out
  unfold ptrV envV at HTR2
  have hh : ∀ b, Fm.holds (stOf n S R) f e = b → Fm.holds (stOf n S R) (.bin true f ff) e = (b || Fm.holds (stOf n S R) ff e) := fun b hb => by rw [← hb]; rfl
  have HH := Lib.hid hh
  clear hh
  cases hfe : Fm.holds (stOf n S R) f e
  · have HQ := HH.out _ hfe
    rw [hfe] at HTR
    have HQ' := Lib.hid HQ
    clear HQ hfe
    refine wp_region_ever hM (by kernel_rfl) (by kernel_rfl) ?_
    iterate 9 (go_big_quiet_step (with_reducible exact Ever.call (HTR.out _)))
    repeat (go_big_quiet_step (first | (with_reducible exact Ever.call (HTR2.out _))))
    refine wpQuiet_nil ?_
    intro w1 hev
    go_wp2_with fail
    go_ret
    exact ⟨ret_bool HQ'.out.symm, HB0.out.ever.then (fun b hb => .inl hb) hev⟩
  · have HQ := HH.out _ hfe
    rw [hfe] at HTR
    have HQ' := Lib.hid HQ
    clear HQ hfe
    refine wp_region_ever hM (by kernel_rfl) (by kernel_rfl) ?_
    iterate 9 (go_big_quiet_step (with_reducible exact Ever.call (HTR.out _)))
    repeat (go_big_quiet_step (first | (with_reducible exact Ever.call (HTR2.out _))))
    refine wpQuiet_nil ?_
    intro w1 hev
    go_wp2_with fail
    go_ret
    exact ⟨ret_bool HQ'.out.symm, HB0.out.ever.then (fun b hb => .inl hb) hev⟩
end Go.Proofs.YtihomcedaaiidaaGreatDoor

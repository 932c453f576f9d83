/- The program's decide: whether a formula is true of elements, by its kind. Conditions: the structure is valid, the elements are its own. -/
import Derived.Test.YtadgiknnejjplaaDoorHold
namespace Go.Proofs.YtadgiknnejjplaaDoor
open Go.RowKit
set_option linter.unusedVariables false

/-- The element of a formula's variable. -/
theorem at_any (w : World) (x4 x5 p g n cap i : Nat) (e : Fm.Env) (u : Fin 4) (c0 : w.cell? ⟨x4, 0, none⟩ = some (ptrV p)) (c1 : w.cell? ⟨p, 1, none⟩ = some (.slice (some ⟨g, 0, none⟩) n cap))
    (c2 : w.cell? ⟨g, i, none⟩ = some (vbV u)) (hi : i < n) (hn : n ≤ cap) (hc : cap ≤ maxLen)
    (d0 : w.cell? ⟨x5, 0, none⟩ = some (.int .i64 ((e 0 : Nat) : Int))) (d1 : w.cell? ⟨x5, 1, none⟩ = some (.int .i64 ((e 1 : Nat) : Int))) (d2 : w.cell? ⟨x5, 2, none⟩ = some (.int .i64 ((e 2 : Nat) : Int))) (d3 : w.cell? ⟨x5, 3, none⟩ = some (.int .i64 ((e 3 : Nat) : Int))) :
    Calls Tryd.prog 200 #[.int .i64 (i : Int), .pointer (some ⟨x5, 0, none⟩), .pointer (some ⟨x4, 0, none⟩)] w fun en w' => en = .returned (.int .i64 ((e u : Nat) : Int)) ∧ w' = w := by
  unfold maxLen at hc
  unfold ptrV at c0
  unfold vbV at c2
  rcases (show u = 0 ∨ u = 1 ∨ u = 2 ∨ u = 3 by clear c2; revert u; decide) with rfl | rfl | rfl | rfl
  · replace c2 : w.cell? ⟨g, i, none⟩ = some (.int .u8 97) := c2
    go_enter Tryd.func200, Tryd.ntmps200
    go_wp2_with fail
    go_ret
    exact ⟨rfl, rfl⟩
  · replace c2 : w.cell? ⟨g, i, none⟩ = some (.int .u8 98) := c2
    go_enter Tryd.func200, Tryd.ntmps200
    go_wp2_with fail
    go_ret
    exact ⟨rfl, rfl⟩
  · replace c2 : w.cell? ⟨g, i, none⟩ = some (.int .u8 99) := c2
    go_enter Tryd.func200, Tryd.ntmps200
    go_wp2_with fail
    go_ret
    exact ⟨rfl, rfl⟩
  · replace c2 : w.cell? ⟨g, i, none⟩ = some (.int .u8 100) := c2
    go_enter Tryd.func200, Tryd.ntmps200
    go_wp2_with fail
    go_ret
    exact ⟨rfl, rfl⟩
/-- What decide has laid down at its start. -/
structure DBox (F G : Nat → Prop) (w W : World) (hb kb n : Nat) (S R : ByteArray) (p : Nat) (e : Fm.Env) (x4 x5 : Nat) : Prop where
  base : Base F G W hb kb n S R
  ever : EverP F G kb (stOf n S R) w W
  c4 : W.cell? ⟨x4, 0, none⟩ = some (ptrV p)
  c5 : W.heap[x5]? = some (.cells (envC e) 80 (0, 0))
  g4 : ¬ G x4
  g5 : ¬ G x5
  ne : x4 ≠ x5
  h4 : x4 = w.heap.size
  h5 : x5 = w.heap.size + 1
theorem DBox.new {F G : Nat → Prop} {w : World} {hb kb n : Nat} {S R : ByteArray} {p : Nat} {e : Fm.Env} (hB : Base F G w hb kb n S R) :
    DBox F G w ((w.alloc (.cells #[ptrV p] 82)).alloc (.cells (envC e) 80)) hb kb n S R p e w.heap.size (w.heap.size + 1) := by
  have b1 : Below w.heap.size w ((w.alloc (.cells #[ptrV p] 82)).alloc (.cells (envC e) 80)) := ((Below.refl w.heap.size w).alloc (Nat.le_refl _) _).alloc (by simp) _
  refine ⟨hB.below b1, EverP.of_below hB.memo b1, ?_, ?_, ?_, ?_, by omega, rfl, rfl⟩
  · have h0 : (w.alloc (.cells #[ptrV p] 82)).cell? ⟨w.heap.size, 0, none⟩ = some (ptrV p) := by unfold World.cell?; rw [heap_alloc_new]; rfl
    exact (Below.cell (((Below.refl _ _).alloc (Nat.le_refl _) _)) (by simp)).trans h0
  · have := heap_alloc_new (w.alloc (.cells #[ptrV p] 82)) (.cells (envC e) 80)
    simpa using this
  · intro hg; have := hB.memo.lt _ hg; omega
  · intro hg; have := hB.memo.lt _ hg; omega
theorem DBox.cells {F G : Nat → Prop} {w W : World} {hb kb n : Nat} {S R : ByteArray} {p : Nat} {e : Fm.Env} {x4 x5 : Nat} (h : DBox F G w W hb kb n S R p e x4 x5) :
    W.cell? ⟨x5, 0, none⟩ = some (.int .i64 ((e 0 : Nat) : Int)) ∧ W.cell? ⟨x5, 1, none⟩ = some (.int .i64 ((e 1 : Nat) : Int)) ∧ W.cell? ⟨x5, 2, none⟩ = some (.int .i64 ((e 2 : Nat) : Int)) ∧ W.cell? ⟨x5, 3, none⟩ = some (.int .i64 ((e 3 : Nat) : Int)) := by
  have h5 := h.c5
  unfold envC at h5
  refine ⟨?_, ?_, ?_, ?_⟩ <;> simp [World.cell?, h5]
theorem dec_set (x : Fin 4) : DecideOK (.set x) := by
  intro F G w hb kb n S R p e hB hT he
  have hb0 := DBox.new (p := p) (e := e) hB
  have hTW : Tree F _ _ p := hT.ever hB.memo hb0.ever
  obtain ⟨x4, hx4⟩ : ∃ x, w.heap.size = x := ⟨_, rfl⟩
  obtain ⟨x5, hx5⟩ : ∃ x, w.heap.size + 1 = x := ⟨_, rfl⟩
  rw [hx5, hx4] at hb0
  unfold envC ptrV at hb0 hTW
  obtain ⟨W, hW⟩ : ∃ W, (w.alloc (.cells #[.pointer (some ⟨p, 0, none⟩)] 82)).alloc (.cells #[.int .i64 ((e 0 : Nat) : Int), .int .i64 ((e 1 : Nat) : Int), .int .i64 ((e 2 : Nat) : Int), .int .i64 ((e 3 : Nat) : Int)] 80) = W := ⟨_, rfl⟩
  rw [hW] at hb0 hTW
  obtain ⟨v, u, nd⟩ := hTW
  have HW := Lib.hid hW; have HB0 := Lib.hid hb0; have HX4 := Lib.hid hx4; have HX5 := Lib.hid hx5; have HN := Lib.hid nd; have HE := Lib.hid he
  clear hW hb0 hT nd hx4 hx5 hB he
  unfold envV ptrV
  go_enter Tryd.func175, Tryd.ntmps175
  go_upto_region 2 with fail
  rw [HW.out, HX5.out, HX4.out]
  have c0 : W.cell? ⟨p, 0, none⟩ = some (.int .u8 80) := HN.out.cells.1
  have c4 := HB0.out.c4
  unfold ptrV at c4
  go_upto_region 8 with fail
  obtain ⟨a, cap, rfl, hle, hcap, hne⟩ := HN.out.vars.view
  obtain ⟨g, rfl, hFg, hgl, hgc⟩ := hne (by simp)
  have hM := HB0.out.base.memo
  have hF4 := HB0.out.g4; have hF5 := HB0.out.g5
  have k0 := HB0.out.base.hold.cells
  have f0 := fun s => Ever.cell (s := s) (F := F) (G := G) (kb := kb) (a := stOf n S R) k0.1 (hM.apart _ HB0.out.base.foot)
  have f1 := fun s => Ever.cell (s := s) (F := F) (G := G) (kb := kb) (a := stOf n S R) k0.2.1 (hM.apart _ HB0.out.base.foot)
  have f2 := fun s => Ever.cell (s := s) (F := F) (G := G) (kb := kb) (a := stOf n S R) k0.2.2.1 (hM.apart _ HB0.out.base.foot)
  have HAT : Hid (∀ s : Ever F G kb (stOf n S R) W, Calls Tryd.prog 200 #[.int .i64 0, .pointer (some ⟨x5, 0, none⟩), .pointer (some ⟨x4, 0, none⟩)] s.w fun en w' => en = .returned (.int .i64 ((e x : Nat) : Int)) ∧ w' = s.w) := fun s =>
    at_any s.w x4 x5 p g 1 cap 0 e x (Ever.cell c4 hF4 s) (Ever.cell HN.out.cells.2.1 (hM.apart _ HN.out.foot) s) (Ever.cell ((hgc 0 (by simp)).trans rfl) (hM.apart _ hFg) s) (by omega) hle hcap
      (Ever.cell HB0.out.cells.1 hF5 s) (Ever.cell HB0.out.cells.2.1 hF5 s) (Ever.cell HB0.out.cells.2.2.1 hF5 s) (Ever.cell HB0.out.cells.2.2.2 hF5 s)
  have HIN : Hid (∀ w, Calls Tryd.prog 90 #[strV n S R, .int .i64 ((e x : Nat) : Int)] w fun en w' => en = .returned (.bool (oneAt S (e x))) ∧ Below w.heap.size w w') := fun w => inSet_b n S R (e x) w (by rw [HB0.out.base.hS]; exact HE.out x) (by rw [HB0.out.base.hS]; have := HB0.out.base.n8; omega)
  unfold strV at HIN
  have hNE : Nonempty (Ever F G kb (stOf n S R) W) := ⟨⟨W, EverP.refl hM⟩⟩
  refine wp_region_ever hM (by kernel_rfl) (by kernel_rfl) ?_
  repeat (go_big_quiet_step (first | (with_reducible exact Ever.call_below ((HAT.out _).mono fun _ _ h => ⟨h.1, by rw [h.2]; exact Below.refl _ _⟩)) | (with_reducible exact Ever.call_below (HIN.out _))))
  refine wpQuiet_nil ?_
  intro w1 hev
  go_wp2_with fail
  go_ret
  exact ⟨rfl, HB0.out.ever.then (fun b hb => .inl hb) hev⟩
end Go.Proofs.YtadgiknnejjplaaDoor

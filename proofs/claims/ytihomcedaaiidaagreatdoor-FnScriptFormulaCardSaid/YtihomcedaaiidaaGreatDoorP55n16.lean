/- Contracts of the program's functions and what they compute: part 16. Conditions: those that each theorem states. -/
import Derived.Test.YtihomcedaaiidaaGreatDoorP55n15
namespace Go.Proofs.YtihomcedaaiidaaGreatDoor
open Go.RowKit
set_option linter.unusedVariables false
set_option maxHeartbeats 2000000
set_option maxRecDepth 100000
/-- The state of the quantifier's loop. -/
structure QInv (F G : Nat → Prop) (w wr : World) (kb : Nat) (a : Gs.St) (p : Nat) (e : Fm.Env) (x : Fin 4) (x4 x5 : Nat) : Prop where
  ever : EverP F G kb a w wr
  c4 : wr.cell? ⟨x4, 0, none⟩ = some (ptrV p)
  c5 : ∃ e' : Fm.Env, wr.heap[x5]? = some (.cells (envC e') 77 (0, 0)) ∧ ∀ y, y ≠ x → e' y = e y
  memo : ∃ G', Memo F G' wr kb a ∧ (∀ b, G' b → G b ∨ w.heap.size ≤ b) ∧ ¬ G' x4 ∧ ¬ G' x5
  h4 : w.heap.size ≤ x4
  h5 : w.heap.size ≤ x5
  ne : x4 ≠ x5
theorem QInv.put {F G G' : Nat → Prop} {w wr : World} {kb : Nat} {a : Gs.St} {p : Nat} {e : Fm.Env} {x : Fin 4} {x4 x5 : Nat} (h : QInv F G w wr kb a p e x x4 x5) (h0 : Memo F G w kb a) (m : Memo F G' wr kb a) (hG : ∀ b, G' b → G b ∨ w.heap.size ≤ b) (g4 : ¬ G' x4) (g5 : ¬ G' x5) (k : Nat) :
    QInv F G w (wr.setCell ⟨x5, x.val, none⟩ (.int .i64 (k : Int))) kb a p e x x4 x5 ∧ Memo F G' (wr.setCell ⟨x5, x.val, none⟩ (.int .i64 (k : Int))) kb a ∧ (wr.setCell ⟨x5, x.val, none⟩ (.int .i64 (k : Int))).heap[x5]? = some (.cells (envC (Fm.upd e x k)) 77 (0, 0)) := by
  have hoff : Off (fun b => b = x5) wr (wr.setCell ⟨x5, x.val, none⟩ (.int .i64 (k : Int))) := ⟨rfl, rfl, rfl, by simp [World.setCell], fun b _ hb => Below.heap_setCell _ _ _ _ hb⟩
  have hF5 : ∀ b, F b → ¬ b = x5 := fun b hb e => by have := h0.flt b hb; have := h.h5; omega
  have hm : Memo F G' (wr.setCell ⟨x5, x.val, none⟩ (.int .i64 (k : Int))) kb a := m.off hoff hF5 (fun b hb e => g5 (e ▸ hb))
  obtain ⟨e', h5, he⟩ := h.c5
  have hc : (wr.setCell ⟨x5, x.val, none⟩ (.int .i64 (k : Int))).heap[x5]? = some (.cells (envC (Fm.upd e x k)) 77 (0, 0)) := by
    simp only [World.setCell, Array.getElem?_modify, h5]
    have he0 := he 0; have he1 := he 1; have he2 := he 2; have he3 := he 3
    rcases (show x = 0 ∨ x = 1 ∨ x = 2 ∨ x = 3 by clear he h5 hm hF5 hoff h he0 he1 he2 he3; revert x; decide) with rfl | rfl | rfl | rfl
    all_goals simp_all [envC, Fm.upd]
    all_goals rfl
  refine ⟨⟨?_, ?_, ⟨_, hc, ?_⟩, ⟨G', hm, hG, g4, g5⟩, h.h4, h.h5, h.ne⟩, hm, hc⟩
  · refine ⟨h.ever.off.trans hoff (fun b hb => .inr (by have := h.h5; omega)), G', hm, hG⟩
  · exact (hoff.cell (World.block_lt_of_cell? _ _ h.c4) h.ne).trans h.c4
  · intro y hy; simp [Fm.upd, hy]
theorem QInv.after {F G G' : Nat → Prop} {w wr w1 : World} {kb : Nat} {a : Gs.St} {p : Nat} {e : Fm.Env} {x : Fin 4} {x4 x5 : Nat} (h : QInv F G w wr kb a p e x x4 x5) (m : Memo F G' wr kb a) (hG : ∀ b, G' b → G b ∨ w.heap.size ≤ b) (g4 : ¬ G' x4) (g5 : ¬ G' x5)
    (hev : EverP F G' kb a wr w1) : QInv F G w w1 kb a p e x x4 x5 := by
  have b4 := World.block_lt_of_cell? _ _ h.c4
  have b5 : x5 < wr.heap.size := by
    obtain ⟨e', h5, _⟩ := h.c5
    exact (Array.getElem?_eq_some_iff.1 h5).1
  obtain ⟨G2, m2, hG2⟩ := hev.memo
  refine ⟨h.ever.then hG hev, hev.cell h.c4 g4, ?_, ⟨G2, m2, ?_, ?_, ?_⟩, h.h4, h.h5, h.ne⟩
  · obtain ⟨e', h5, he⟩ := h.c5
    exact ⟨e', (hev.heap b5 g5).trans h5, he⟩
  · intro b hb
    rcases hG2 b hb with h3 | h3
    · exact hG b h3
    · exact .inr (Nat.le_trans h.ever.off.size h3)
  · intro hb
    rcases hG2 _ hb with h3 | h3
    · exact g4 h3
    · have : x4 < wr.heap.size := b4
      omega
  · intro hb
    rcases hG2 _ hb with h3 | h3
    · exact g5 h3
    · omega
theorem fin_four : ∀ x : Fin 4, x = 0 ∨ x = 1 ∨ x = 2 ∨ x = 3 := by decide
theorem byte_tests (q : Fm.Q) : ((q.byte.toNat : Int) == 116) = false ∧ ((q.byte.toNat : Int) == 102) = false ∧ ((q.byte.toNat : Int) == 80) = false ∧ ((q.byte.toNat : Int) == 61) = false ∧ ((q.byte.toNat : Int) == 69) = false ∧ ((q.byte.toNat : Int) == 33) = false ∧ ((q.byte.toNat : Int) == 38) = false ∧ ((q.byte.toNat : Int) == 124) = false := by
  cases q <;> refine ⟨?_, ?_, ?_, ?_, ?_, ?_, ?_, ?_⟩ <;> rfl
theorem dec_qu (q : Fm.Q) (x : Fin 4) (f : Fm.T) (HD : Hid (TrueOK f)) : DecideOK (.qu q x f) := by
  intro F G w hb kb n S R p e hB hT he
  have hb0 := DBox.new (p := p) (e := e) hB
  have hTW : Tree F _ (.qu q x f) p := hT.ever hB.memo hb0.ever
  obtain ⟨x4, hx4⟩ : ∃ x, w.heap.size = x := ⟨_, rfl⟩
  obtain ⟨x5, hx5⟩ : ∃ x, w.heap.size + 1 = x := ⟨_, rfl⟩
  rw [hx5, hx4] at hb0
  unfold envC ptrV at hb0 hTW
  obtain ⟨W, hW⟩ : ∃ W, (w.alloc (.cells #[.pointer (some ⟨p, 0, none⟩)] 51)).alloc (.cells #[.int .i64 ((e 0 : Nat) : Int), .int .i64 ((e 1 : Nat) : Int), .int .i64 ((e 2 : Nat) : Int), .int .i64 ((e 3 : Nat) : Int)] 77) = W := ⟨_, rfl⟩
  rw [hW] at hb0 hTW
  obtain ⟨v, u, r, nd, ht⟩ := hTW
  have HW := Lib.hid hW; have HB0 := Lib.hid hb0; have HX4 := Lib.hid hx4; have HX5 := Lib.hid hx5; have HN := Lib.hid nd; have HT := Lib.hid ht; have HB := Lib.hid hB; have HTO := Lib.hid hT; have HE := Lib.hid he
  clear hW hb0 hT nd ht hx4 hx5 hB he
  unfold envV ptrV
  go_enter Tryz.func128, Tryz.ntmps128
  go_upto_region 2 with fail
  rw [HW.out, HX5.out, HX4.out]
  have c0 : W.cell? ⟨p, 0, none⟩ = some (.int .u8 (q.byte.toNat : Int)) := HN.out.cells.1
  have c4 := HB0.out.c4
  unfold ptrV at c4
  obtain ⟨t1, t2, t3, t4, t5, t6, t7, t8⟩ := byte_tests q
  have k0 := HB0.out.base.hold.cells.1
  have hn8 := HB0.out.base.n8
  have h0M := HB.out.memo
  have HM0 := Lib.hid h0M
  clear h0M
  go_wp2_with fail
  go_loopw [107, 8, 9] (fun i c _ wr => ∃ k : Nat, k ≤ n ∧ i = .int .i64 (k : Int) ∧ ∃ cc : Nat, cc ≤ k ∧ c = .int .i64 (cc : Int) ∧ Hid (cc = Fm.cnt (fun y => Fm.holds (stOf n S R) f (Fm.upd e x y)) k) ∧ Hid (QInv F G w wr kb (stOf n S R) p e x x4 x5)) (fun i _ _ _ => n - (intOf i).toNat)
  case atStart => exact ⟨0, by omega, rfl, 0, by omega, rfl, rfl, HB0.out.ever, HB0.out.c4, ⟨e, HB0.out.c5, fun _ _ => rfl⟩, ⟨G, HB0.out.base.memo, fun b hb => .inl hb, HB0.out.g4, HB0.out.g5⟩, by rw [HB0.out.h4]; omega, by rw [HB0.out.h5]; omega, HB0.out.ne⟩
  case round =>
    obtain ⟨k, hk, rfl, cc, hcc, rfl, HC, HQ⟩ := hrel
    obtain ⟨G', hm, hG', g4, g5⟩ := HQ.out.memo
    have HG' := Lib.hid hG'
    have hbr : Base F G' wr hb kb n S R := HB.out.ever HQ.out.ever hm
    have htr : Tree F wr (.qu q x f) p := HTO.out.ever HM0.out HQ.out.ever
    obtain ⟨v2, u2, r2, nd2, ht2⟩ := htr
    have HBR := Lib.hid hbr; have HN2 := Lib.hid nd2; have HT2 := Lib.hid ht2; have HMR := Lib.hid hm; have HG4 := Lib.hid g4; have HG5 := Lib.hid g5
    clear hbr nd2 ht2 hm hG' g4 g5
    have q4 := HQ.out.c4
    unfold ptrV at q4
    by_cases hlt : k < n
    · obtain ⟨a2, cap2, rfl, hle2, hcap2, hne2⟩ := HN2.out.vars.view
      obtain ⟨g2, rfl, hFg2, hgl2, hgc2⟩ := hne2 (by simp)
      replace hle2 : 1 ≤ cap2 := hle2
      have y1 := HN2.out.cells.2.1
      have y2 : wr.cell? ⟨g2, 0, none⟩ = some (vbV x) := (hgc2 0 (by simp)).trans rfl
      obtain ⟨hq1, hm1, hc1⟩ := HQ.out.put HM0.out HMR.out HG'.out HG4.out HG5.out k
      have HQ1 := Lib.hid hq1; have HM1 := Lib.hid hm1; have HC1 := Lib.hid hc1
      clear hgc2 hne2 hq1 hm1 hc1 hFg2 hgl2
      have hEx : ∀ y, Fm.upd e x k y < n := fun y => by
        unfold Fm.upd
        split
        · exact hlt
        · exact HE.out y
      have HEX := Lib.hid hEx
      have HCS := Lib.hid (show Fm.cnt (fun y => Fm.holds (stOf n S R) f (Fm.upd e x y)) (k + 1) = Fm.cnt (fun y => Fm.holds (stOf n S R) f (Fm.upd e x y)) k + (if Fm.holds (stOf n S R) f (Fm.upd e x k) then 1 else 0) from rfl)
      rw [← HC.out] at HCS
      clear hEx
      obtain ⟨e', h5, he'⟩ := HQ.out.c5
      unfold envC at h5
      clear he'
      have HXS : Hid (x = 0 ∨ x = 1 ∨ x = 2 ∨ x = 3) := fin_four x
      rcases HXS.out with hx | hx | hx | hx
      · replace y2 : wr.cell? ⟨g2, 0, none⟩ = some (.int .u8 97) := by rw [hx] at y2; exact y2
        have o5 : wr.cell? ⟨x5, 0, none⟩ = some (.int .i64 ((e' 0 : Nat) : Int)) := by simp [World.cell?, h5]
        have z5 : wr.frozen? ⟨x5, 0, none⟩ = false := by simp [World.frozen?, h5]
        obtain ⟨W1, hW1⟩ : ∃ W1, wr.setCell ⟨x5, 0, none⟩ (.int .i64 (k : Int)) = W1 := ⟨_, rfl⟩
        have HW1 := Lib.hid hW1
        have hW2 : wr.setCell ⟨x5, x.val, none⟩ (.int .i64 (k : Int)) = W1 := by rw [hx]; exact hW1
        rw [hW2] at HQ1 HM1 HC1
        clear hW1 hW2 h5 hx
        go_upto_region 24 with fail
        rw [HW1.out]
        clear o5 z5 y1 y2 q4
        obtain ⟨E, hE⟩ : ∃ E, Fm.upd e x k = E := ⟨_, rfl⟩
        rw [hE] at HC1 HEX HCS
        have hM := HM1.out
        have b1 : Base F G' W1 hb kb n S R := HB.out.ever HQ1.out.ever hM
        have tr1 : Tree F W1 (.qu q x f) p := HTO.out.ever HM0.out HQ1.out.ever
        obtain ⟨v3, u3, r3, nd3, ht3⟩ := tr1
        have HN3 := Lib.hid nd3; have HT3 := Lib.hid ht3; have HB1 := Lib.hid b1
        clear nd3 ht3 b1 hE
        obtain ⟨a3, cap3, rfl, hle3, hcap3, hne3⟩ := HN3.out.parts.view
        obtain ⟨g3, rfl, hFg3, hgl3, hgc3⟩ := hne3 (by simp)
        replace hle3 : 1 ≤ cap3 := hle3
        have hc1 := HC1.out
        unfold envC at hc1
        have d0 : W1.cell? ⟨x5, 0, none⟩ = some (.int .i64 ((E 0 : Nat) : Int)) := by simp [World.cell?, hc1]
        have d1 : W1.cell? ⟨x5, 1, none⟩ = some (.int .i64 ((E 1 : Nat) : Int)) := by simp [World.cell?, hc1]
        have d2 : W1.cell? ⟨x5, 2, none⟩ = some (.int .i64 ((E 2 : Nat) : Int)) := by simp [World.cell?, hc1]
        have d3 : W1.cell? ⟨x5, 3, none⟩ = some (.int .i64 ((E 3 : Nat) : Int)) := by simp [World.cell?, hc1]
        have d4 := HQ1.out.c4
        unfold ptrV at d4
        have d5 : W1.cell? ⟨g3, 0, none⟩ = some (.pointer (some ⟨r3, 0, none⟩)) := (hgc3 0 (by simp)).trans rfl
        have f0 := fun s => Ever.cell (s := s) (F := F) (G := G') (kb := kb) (a := stOf n S R) d0 HG5.out
        have f1 := fun s => Ever.cell (s := s) (F := F) (G := G') (kb := kb) (a := stOf n S R) d1 HG5.out
        have f2 := fun s => Ever.cell (s := s) (F := F) (G := G') (kb := kb) (a := stOf n S R) d2 HG5.out
        have f3 := fun s => Ever.cell (s := s) (F := F) (G := G') (kb := kb) (a := stOf n S R) d3 HG5.out
        have f4 := fun s => Ever.cell (s := s) (F := F) (G := G') (kb := kb) (a := stOf n S R) d4 HG4.out
        have f5 := fun s => Ever.cell (s := s) (F := F) (G := G') (kb := kb) (a := stOf n S R) d5 (hM.apart _ hFg3)
        have f6 := fun s => Ever.cell (s := s) (F := F) (G := G') (kb := kb) (a := stOf n S R) HN3.out.cells.2.2.1 (hM.apart _ HN3.out.foot)
        have HTR : Hid (∀ (s : Ever F G' kb (stOf n S R) W1) G2, Memo F G2 s.w kb (stOf n S R) → Calls Tryz.prog 87 #[ptrV hb, ptrV r3, envV E] s.w fun en w' => en = .returned (.bool (Fm.holds (stOf n S R) f E)) ∧ EverP F G2 kb (stOf n S R) s.w w') := fun s G2 m =>
          HD.out F G2 s.w hb kb n S R r3 E (HB1.out.ever s.p m) (HT3.out.ever hM s.p) HEX.out
        unfold ptrV envV at HTR
        have hNE : Nonempty (Ever F G' kb (stOf n S R) W1) := ⟨⟨W1, EverP.refl hM⟩⟩
        clear d0 d1 d2 d3 d4 d5 hc1 hgc3 hne3
        refine wp_region_ever hM (by kernel_rfl) (by kernel_rfl) ?_
        repeat (go_big_quiet_step (first | (with_reducible exact Ever.call (HTR.out _))))
        refine wpQuiet_nil ?_
        intro w3 hev
        have HQ3 := Lib.hid (HQ1.out.after hM HG'.out HG4.out HG5.out hev)
        clear f0 f1 f2 f3 f4 f5 f6 HTR hev hM hNE
        generalize Fm.holds (stOf n S R) f E = tr at *
        cases tr
        · have HC3 := Lib.hid (HCS.out.trans (show cc + (if false = true then 1 else 0) = cc from rfl))
          go_wp2_with fail
          go_roundw
          case rel => exact ⟨k + 1, by omega, by go_num, cc, by omega, rfl, HC3.out.symm, HQ3.out⟩
          case measure => simp [intOf]; omega
        · have HC3 := Lib.hid (HCS.out.trans (show cc + (if true = true then 1 else 0) = cc + 1 from rfl))
          go_wp2_with fail
          go_roundw
          case rel => exact ⟨k + 1, by omega, by go_num, cc + 1, by omega, by go_num, HC3.out.symm, HQ3.out⟩
          case measure => simp [intOf]; omega
      · replace y2 : wr.cell? ⟨g2, 0, none⟩ = some (.int .u8 98) := by rw [hx] at y2; exact y2
        have o5 : wr.cell? ⟨x5, 1, none⟩ = some (.int .i64 ((e' 1 : Nat) : Int)) := by simp [World.cell?, h5]
        have z5 : wr.frozen? ⟨x5, 1, none⟩ = false := by simp [World.frozen?, h5]
        obtain ⟨W1, hW1⟩ : ∃ W1, wr.setCell ⟨x5, 1, none⟩ (.int .i64 (k : Int)) = W1 := ⟨_, rfl⟩
        have HW1 := Lib.hid hW1
        have hW2 : wr.setCell ⟨x5, x.val, none⟩ (.int .i64 (k : Int)) = W1 := by rw [hx]; exact hW1
        rw [hW2] at HQ1 HM1 HC1
        clear hW1 hW2 h5 hx
        go_upto_region 24 with fail
        rw [HW1.out]
        clear o5 z5 y1 y2 q4
        obtain ⟨E, hE⟩ : ∃ E, Fm.upd e x k = E := ⟨_, rfl⟩
        rw [hE] at HC1 HEX HCS
        have hM := HM1.out
        have b1 : Base F G' W1 hb kb n S R := HB.out.ever HQ1.out.ever hM
        have tr1 : Tree F W1 (.qu q x f) p := HTO.out.ever HM0.out HQ1.out.ever
        obtain ⟨v3, u3, r3, nd3, ht3⟩ := tr1
        have HN3 := Lib.hid nd3; have HT3 := Lib.hid ht3; have HB1 := Lib.hid b1
        clear nd3 ht3 b1 hE
        obtain ⟨a3, cap3, rfl, hle3, hcap3, hne3⟩ := HN3.out.parts.view
        obtain ⟨g3, rfl, hFg3, hgl3, hgc3⟩ := hne3 (by simp)
        replace hle3 : 1 ≤ cap3 := hle3
        have hc1 := HC1.out
        unfold envC at hc1
        have d0 : W1.cell? ⟨x5, 0, none⟩ = some (.int .i64 ((E 0 : Nat) : Int)) := by simp [World.cell?, hc1]
        have d1 : W1.cell? ⟨x5, 1, none⟩ = some (.int .i64 ((E 1 : Nat) : Int)) := by simp [World.cell?, hc1]
        have d2 : W1.cell? ⟨x5, 2, none⟩ = some (.int .i64 ((E 2 : Nat) : Int)) := by simp [World.cell?, hc1]
        have d3 : W1.cell? ⟨x5, 3, none⟩ = some (.int .i64 ((E 3 : Nat) : Int)) := by simp [World.cell?, hc1]
        have d4 := HQ1.out.c4
        unfold ptrV at d4
        have d5 : W1.cell? ⟨g3, 0, none⟩ = some (.pointer (some ⟨r3, 0, none⟩)) := (hgc3 0 (by simp)).trans rfl
        have f0 := fun s => Ever.cell (s := s) (F := F) (G := G') (kb := kb) (a := stOf n S R) d0 HG5.out
        have f1 := fun s => Ever.cell (s := s) (F := F) (G := G') (kb := kb) (a := stOf n S R) d1 HG5.out
        have f2 := fun s => Ever.cell (s := s) (F := F) (G := G') (kb := kb) (a := stOf n S R) d2 HG5.out
        have f3 := fun s => Ever.cell (s := s) (F := F) (G := G') (kb := kb) (a := stOf n S R) d3 HG5.out
        have f4 := fun s => Ever.cell (s := s) (F := F) (G := G') (kb := kb) (a := stOf n S R) d4 HG4.out
        have f5 := fun s => Ever.cell (s := s) (F := F) (G := G') (kb := kb) (a := stOf n S R) d5 (hM.apart _ hFg3)
        have f6 := fun s => Ever.cell (s := s) (F := F) (G := G') (kb := kb) (a := stOf n S R) HN3.out.cells.2.2.1 (hM.apart _ HN3.out.foot)
        have HTR : Hid (∀ (s : Ever F G' kb (stOf n S R) W1) G2, Memo F G2 s.w kb (stOf n S R) → Calls Tryz.prog 87 #[ptrV hb, ptrV r3, envV E] s.w fun en w' => en = .returned (.bool (Fm.holds (stOf n S R) f E)) ∧ EverP F G2 kb (stOf n S R) s.w w') := fun s G2 m =>
          HD.out F G2 s.w hb kb n S R r3 E (HB1.out.ever s.p m) (HT3.out.ever hM s.p) HEX.out
        unfold ptrV envV at HTR
        have hNE : Nonempty (Ever F G' kb (stOf n S R) W1) := ⟨⟨W1, EverP.refl hM⟩⟩
        clear d0 d1 d2 d3 d4 d5 hc1 hgc3 hne3
        refine wp_region_ever hM (by kernel_rfl) (by kernel_rfl) ?_
        repeat (go_big_quiet_step (first | (with_reducible exact Ever.call (HTR.out _))))
        refine wpQuiet_nil ?_
        intro w3 hev
        have HQ3 := Lib.hid (HQ1.out.after hM HG'.out HG4.out HG5.out hev)
        clear f0 f1 f2 f3 f4 f5 f6 HTR hev hM hNE
        generalize Fm.holds (stOf n S R) f E = tr at *
        cases tr
        · have HC3 := Lib.hid (HCS.out.trans (show cc + (if false = true then 1 else 0) = cc from rfl))
          go_wp2_with fail
          go_roundw
          case rel => exact ⟨k + 1, by omega, by go_num, cc, by omega, rfl, HC3.out.symm, HQ3.out⟩
          case measure => simp [intOf]; omega
        · have HC3 := Lib.hid (HCS.out.trans (show cc + (if true = true then 1 else 0) = cc + 1 from rfl))
          go_wp2_with fail
          go_roundw
          case rel => exact ⟨k + 1, by omega, by go_num, cc + 1, by omega, by go_num, HC3.out.symm, HQ3.out⟩
          case measure => simp [intOf]; omega
      · replace y2 : wr.cell? ⟨g2, 0, none⟩ = some (.int .u8 99) := by rw [hx] at y2; exact y2
        have o5 : wr.cell? ⟨x5, 2, none⟩ = some (.int .i64 ((e' 2 : Nat) : Int)) := by simp [World.cell?, h5]
        have z5 : wr.frozen? ⟨x5, 2, none⟩ = false := by simp [World.frozen?, h5]
        obtain ⟨W1, hW1⟩ : ∃ W1, wr.setCell ⟨x5, 2, none⟩ (.int .i64 (k : Int)) = W1 := ⟨_, rfl⟩
        have HW1 := Lib.hid hW1
        have hW2 : wr.setCell ⟨x5, x.val, none⟩ (.int .i64 (k : Int)) = W1 := by rw [hx]; exact hW1
        rw [hW2] at HQ1 HM1 HC1
        clear hW1 hW2 h5 hx
        go_upto_region 24 with fail
        rw [HW1.out]
        clear o5 z5 y1 y2 q4
        obtain ⟨E, hE⟩ : ∃ E, Fm.upd e x k = E := ⟨_, rfl⟩
        rw [hE] at HC1 HEX HCS
        have hM := HM1.out
        have b1 : Base F G' W1 hb kb n S R := HB.out.ever HQ1.out.ever hM
        have tr1 : Tree F W1 (.qu q x f) p := HTO.out.ever HM0.out HQ1.out.ever
        obtain ⟨v3, u3, r3, nd3, ht3⟩ := tr1
        have HN3 := Lib.hid nd3; have HT3 := Lib.hid ht3; have HB1 := Lib.hid b1
        clear nd3 ht3 b1 hE
        obtain ⟨a3, cap3, rfl, hle3, hcap3, hne3⟩ := HN3.out.parts.view
        obtain ⟨g3, rfl, hFg3, hgl3, hgc3⟩ := hne3 (by simp)
        replace hle3 : 1 ≤ cap3 := hle3
        have hc1 := HC1.out
        unfold envC at hc1
        have d0 : W1.cell? ⟨x5, 0, none⟩ = some (.int .i64 ((E 0 : Nat) : Int)) := by simp [World.cell?, hc1]
        have d1 : W1.cell? ⟨x5, 1, none⟩ = some (.int .i64 ((E 1 : Nat) : Int)) := by simp [World.cell?, hc1]
        have d2 : W1.cell? ⟨x5, 2, none⟩ = some (.int .i64 ((E 2 : Nat) : Int)) := by simp [World.cell?, hc1]
        have d3 : W1.cell? ⟨x5, 3, none⟩ = some (.int .i64 ((E 3 : Nat) : Int)) := by simp [World.cell?, hc1]
        have d4 := HQ1.out.c4
        unfold ptrV at d4
        have d5 : W1.cell? ⟨g3, 0, none⟩ = some (.pointer (some ⟨r3, 0, none⟩)) := (hgc3 0 (by simp)).trans rfl
        have f0 := fun s => Ever.cell (s := s) (F := F) (G := G') (kb := kb) (a := stOf n S R) d0 HG5.out
        have f1 := fun s => Ever.cell (s := s) (F := F) (G := G') (kb := kb) (a := stOf n S R) d1 HG5.out
        have f2 := fun s => Ever.cell (s := s) (F := F) (G := G') (kb := kb) (a := stOf n S R) d2 HG5.out
        have f3 := fun s => Ever.cell (s := s) (F := F) (G := G') (kb := kb) (a := stOf n S R) d3 HG5.out
        have f4 := fun s => Ever.cell (s := s) (F := F) (G := G') (kb := kb) (a := stOf n S R) d4 HG4.out
        have f5 := fun s => Ever.cell (s := s) (F := F) (G := G') (kb := kb) (a := stOf n S R) d5 (hM.apart _ hFg3)
        have f6 := fun s => Ever.cell (s := s) (F := F) (G := G') (kb := kb) (a := stOf n S R) HN3.out.cells.2.2.1 (hM.apart _ HN3.out.foot)
        have HTR : Hid (∀ (s : Ever F G' kb (stOf n S R) W1) G2, Memo F G2 s.w kb (stOf n S R) → Calls Tryz.prog 87 #[ptrV hb, ptrV r3, envV E] s.w fun en w' => en = .returned (.bool (Fm.holds (stOf n S R) f E)) ∧ EverP F G2 kb (stOf n S R) s.w w') := fun s G2 m =>
          HD.out F G2 s.w hb kb n S R r3 E (HB1.out.ever s.p m) (HT3.out.ever hM s.p) HEX.out
        unfold ptrV envV at HTR
        have hNE : Nonempty (Ever F G' kb (stOf n S R) W1) := ⟨⟨W1, EverP.refl hM⟩⟩
        clear d0 d1 d2 d3 d4 d5 hc1 hgc3 hne3
        refine wp_region_ever hM (by kernel_rfl) (by kernel_rfl) ?_
        repeat (go_big_quiet_step (first | (with_reducible exact Ever.call (HTR.out _))))
        refine wpQuiet_nil ?_
        intro w3 hev
        have HQ3 := Lib.hid (HQ1.out.after hM HG'.out HG4.out HG5.out hev)
        clear f0 f1 f2 f3 f4 f5 f6 HTR hev hM hNE
        generalize Fm.holds (stOf n S R) f E = tr at *
        cases tr
        · have HC3 := Lib.hid (HCS.out.trans (show cc + (if false = true then 1 else 0) = cc from rfl))
          go_wp2_with fail
          go_roundw
          case rel => exact ⟨k + 1, by omega, by go_num, cc, by omega, rfl, HC3.out.symm, HQ3.out⟩
          case measure => simp [intOf]; omega
        · have HC3 := Lib.hid (HCS.out.trans (show cc + (if true = true then 1 else 0) = cc + 1 from rfl))
          go_wp2_with fail
          go_roundw
          case rel => exact ⟨k + 1, by omega, by go_num, cc + 1, by omega, by go_num, HC3.out.symm, HQ3.out⟩
          case measure => simp [intOf]; omega
      · replace y2 : wr.cell? ⟨g2, 0, none⟩ = some (.int .u8 100) := by rw [hx] at y2; exact y2
        have o5 : wr.cell? ⟨x5, 3, none⟩ = some (.int .i64 ((e' 3 : Nat) : Int)) := by simp [World.cell?, h5]
        have z5 : wr.frozen? ⟨x5, 3, none⟩ = false := by simp [World.frozen?, h5]
        obtain ⟨W1, hW1⟩ : ∃ W1, wr.setCell ⟨x5, 3, none⟩ (.int .i64 (k : Int)) = W1 := ⟨_, rfl⟩
        have HW1 := Lib.hid hW1
        have hW2 : wr.setCell ⟨x5, x.val, none⟩ (.int .i64 (k : Int)) = W1 := by rw [hx]; exact hW1
        rw [hW2] at HQ1 HM1 HC1
        clear hW1 hW2 h5 hx
        go_upto_region 24 with fail
        rw [HW1.out]
        clear o5 z5 y1 y2 q4
        obtain ⟨E, hE⟩ : ∃ E, Fm.upd e x k = E := ⟨_, rfl⟩
        rw [hE] at HC1 HEX HCS
        have hM := HM1.out
        have b1 : Base F G' W1 hb kb n S R := HB.out.ever HQ1.out.ever hM
        have tr1 : Tree F W1 (.qu q x f) p := HTO.out.ever HM0.out HQ1.out.ever
        obtain ⟨v3, u3, r3, nd3, ht3⟩ := tr1
        have HN3 := Lib.hid nd3; have HT3 := Lib.hid ht3; have HB1 := Lib.hid b1
        clear nd3 ht3 b1 hE
        obtain ⟨a3, cap3, rfl, hle3, hcap3, hne3⟩ := HN3.out.parts.view
        obtain ⟨g3, rfl, hFg3, hgl3, hgc3⟩ := hne3 (by simp)
        replace hle3 : 1 ≤ cap3 := hle3
        have hc1 := HC1.out
        unfold envC at hc1
        have d0 : W1.cell? ⟨x5, 0, none⟩ = some (.int .i64 ((E 0 : Nat) : Int)) := by simp [World.cell?, hc1]
        have d1 : W1.cell? ⟨x5, 1, none⟩ = some (.int .i64 ((E 1 : Nat) : Int)) := by simp [World.cell?, hc1]
        have d2 : W1.cell? ⟨x5, 2, none⟩ = some (.int .i64 ((E 2 : Nat) : Int)) := by simp [World.cell?, hc1]
        have d3 : W1.cell? ⟨x5, 3, none⟩ = some (.int .i64 ((E 3 : Nat) : Int)) := by simp [World.cell?, hc1]
        have d4 := HQ1.out.c4
        unfold ptrV at d4
        have d5 : W1.cell? ⟨g3, 0, none⟩ = some (.pointer (some ⟨r3, 0, none⟩)) := (hgc3 0 (by simp)).trans rfl
        have f0 := fun s => Ever.cell (s := s) (F := F) (G := G') (kb := kb) (a := stOf n S R) d0 HG5.out
        have f1 := fun s => Ever.cell (s := s) (F := F) (G := G') (kb := kb) (a := stOf n S R) d1 HG5.out
        have f2 := fun s => Ever.cell (s := s) (F := F) (G := G') (kb := kb) (a := stOf n S R) d2 HG5.out
        have f3 := fun s => Ever.cell (s := s) (F := F) (G := G') (kb := kb) (a := stOf n S R) d3 HG5.out
        have f4 := fun s => Ever.cell (s := s) (F := F) (G := G') (kb := kb) (a := stOf n S R) d4 HG4.out
        have f5 := fun s => Ever.cell (s := s) (F := F) (G := G') (kb := kb) (a := stOf n S R) d5 (hM.apart _ hFg3)
        have f6 := fun s => Ever.cell (s := s) (F := F) (G := G') (kb := kb) (a := stOf n S R) HN3.out.cells.2.2.1 (hM.apart _ HN3.out.foot)
        have HTR : Hid (∀ (s : Ever F G' kb (stOf n S R) W1) G2, Memo F G2 s.w kb (stOf n S R) → Calls Tryz.prog 87 #[ptrV hb, ptrV r3, envV E] s.w fun en w' => en = .returned (.bool (Fm.holds (stOf n S R) f E)) ∧ EverP F G2 kb (stOf n S R) s.w w') := fun s G2 m =>
          HD.out F G2 s.w hb kb n S R r3 E (HB1.out.ever s.p m) (HT3.out.ever hM s.p) HEX.out
        unfold ptrV envV at HTR
        have hNE : Nonempty (Ever F G' kb (stOf n S R) W1) := ⟨⟨W1, EverP.refl hM⟩⟩
        clear d0 d1 d2 d3 d4 d5 hc1 hgc3 hne3
        refine wp_region_ever hM (by kernel_rfl) (by kernel_rfl) ?_
        repeat (go_big_quiet_step (first | (with_reducible exact Ever.call (HTR.out _))))
        refine wpQuiet_nil ?_
        intro w3 hev
        have HQ3 := Lib.hid (HQ1.out.after hM HG'.out HG4.out HG5.out hev)
        clear f0 f1 f2 f3 f4 f5 f6 HTR hev hM hNE
        generalize Fm.holds (stOf n S R) f E = tr at *
        cases tr
        · have HC3 := Lib.hid (HCS.out.trans (show cc + (if false = true then 1 else 0) = cc from rfl))
          go_wp2_with fail
          go_roundw
          case rel => exact ⟨k + 1, by omega, by go_num, cc, by omega, rfl, HC3.out.symm, HQ3.out⟩
          case measure => simp [intOf]; omega
        · have HC3 := Lib.hid (HCS.out.trans (show cc + (if true = true then 1 else 0) = cc + 1 from rfl))
          go_wp2_with fail
          go_roundw
          case rel => exact ⟨k + 1, by omega, by go_num, cc + 1, by omega, by go_num, HC3.out.symm, HQ3.out⟩
          case measure => simp [intOf]; omega
    · have hkn : k = n := by omega
      have HCN : Hid (cc = Fm.cnt (fun y => Fm.holds (stOf n S R) f (Fm.upd e x y)) (stOf n S R).n) := by
        show _ = _
        rw [HC.out, hkn]; rfl
      have HHQ : ∀ q, Fm.holds (stOf n S R) (.qu q x f) e = decide (q.need (stOf n S R).n ≤ Fm.cnt (fun y => Fm.holds (stOf n S R) f (Fm.upd e x y)) (stOf n S R).n) := fun q => rfl
      rw [← HCN.out] at HHQ
      have HHQ' := Lib.hid HHQ
      have HNN : Hid ((stOf n S R).n = n) := rfl
      have r0 := HN2.out.cells.1
      have r1 := HBR.out.hold.cells.1
      clear HHQ HCN
      cases q
      · replace r0 : wr.cell? ⟨p, 0, none⟩ = some (.int .u8 65) := r0
        go_wp2_with fail
        go_ret
        refine ⟨ret_bool ?_, HQ.out.ever⟩
        rw [HHQ'.out, HNN.out, Bool.eq_iff_iff, beq_iff_eq, decide_eq_true_eq]; simp only [Fm.Q.need]; omega
      · replace r0 : wr.cell? ⟨p, 0, none⟩ = some (.int .u8 83) := r0
        go_wp2_with fail
        go_ret
        refine ⟨ret_bool ?_, HQ.out.ever⟩
        rw [HHQ'.out, Bool.eq_iff_iff, decide_eq_true_eq, decide_eq_true_eq]; simp only [Fm.Q.need]; omega
      · replace r0 : wr.cell? ⟨p, 0, none⟩ = some (.int .u8 50) := r0
        go_wp2_with fail
        go_ret
        refine ⟨ret_bool ?_, HQ.out.ever⟩
        rw [HHQ'.out, Bool.eq_iff_iff, decide_eq_true_eq, decide_eq_true_eq]; simp only [Fm.Q.need]; omega
      · replace r0 : wr.cell? ⟨p, 0, none⟩ = some (.int .u8 51) := r0
        go_wp2_with fail
        go_ret
        refine ⟨ret_bool ?_, HQ.out.ever⟩
        rw [HHQ'.out, Bool.eq_iff_iff, decide_eq_true_eq, decide_eq_true_eq]; simp only [Fm.Q.need]; omega
      · replace r0 : wr.cell? ⟨p, 0, none⟩ = some (.int .u8 52) := r0
        go_wp2_with fail
        go_ret
        refine ⟨ret_bool ?_, HQ.out.ever⟩
        rw [HHQ'.out, Bool.eq_iff_iff, decide_eq_true_eq, decide_eq_true_eq]; simp only [Fm.Q.need]; omega
theorem true_any : ∀ φ : Fm.T, TrueOK φ
  | .lit true => isTrue_of _ (Lib.hid dec_lit_true)
  | .lit false => isTrue_of _ (Lib.hid dec_lit_false)
  | .set x => isTrue_of _ (Lib.hid (dec_set x))
  | .rel false x y => isTrue_of _ (Lib.hid (dec_eq x y))
  | .rel true x y => isTrue_of _ (Lib.hid (dec_rel x y))
  | .neg f => isTrue_of _ (Lib.hid (dec_neg f (Lib.hid (true_any f))))
  | .bin false f g => isTrue_of _ (Lib.hid (dec_and f g (Lib.hid (true_any f)) (Lib.hid (true_any g))))
  | .bin true f g => isTrue_of _ (Lib.hid (dec_or f g (Lib.hid (true_any f)) (Lib.hid (true_any g))))
  | .qu q x f => isTrue_of _ (Lib.hid (dec_qu q x f (Lib.hid (true_any f))))
end Go.Proofs.YtihomcedaaiidaaGreatDoor

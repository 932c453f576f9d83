/- Contracts of the program's functions and what they compute: part 29. Conditions: those that each theorem states. -/
import Derived.Test.YtnhlhjehocngcaaGreatDoorP50n28
import Derived.Deep.RegionHeld3
namespace Go.Proofs.YtnhlhjehocngcaaGreatDoor
open Go.RowKit
set_option linter.unusedVariables false
set_option maxRecDepth 100000
theorem mvO_yes {t : Nat} {a b : Gs.St} {L M : List Int} {i x : Nat} (h : beatA a b t L M i x = true) : mvO t a b L M i x = some (quB ⟨#[83]⟩ i ((List.range b.n).map fun y : Nat => pebF t a b (L.set i (x : Int)) (M.set i (y : Int)))) := by unfold mvO; rw [if_pos h]
theorem mvO_no {t : Nat} {a b : Gs.St} {L M : List Int} {i x : Nat} (h : beatA a b t L M i x = false) : mvO t a b L M i x = none := by unfold mvO; rw [if_neg (by rw [h]; decide)]
theorem mvN_yes {t : Nat} {a b : Gs.St} {L M : List Int} {i x : Nat} (h : beatA a b t L M i x = true) : mvN t a b L M i x = some (quB ⟨#[33, 83]⟩ i ((List.range b.n).map fun y : Nat => pebF t a b (L.set i (x : Int)) (M.set i (y : Int)))) := by unfold mvN; rw [if_pos h]
theorem mvN_no {t : Nat} {a b : Gs.St} {L M : List Int} {i x : Nat} (h : beatA a b t L M i x = false) : mvN t a b L M i x = none := by unfold mvN; rw [if_neg (by rw [h]; decide)]
theorem plO_one {t : Nat} {a b : Gs.St} {L M : List Int} {i : Nat} {s : ByteArray} (h : fsO (mvO t a b L M i) a.n = some s) : plO t a b L M i = some s := by unfold plO; rw [h]
theorem plO_two {t : Nat} {a b : Gs.St} {L M : List Int} {i : Nat} (h : fsO (mvO t a b L M i) a.n = none) : plO t a b L M i = fsO (mvN t b a M L i) b.n := by unfold plO; rw [h]
/-- Two boxes of structures. -/
structure Fb (w : World) (bA bB n : Nat) (S R : ByteArray) (m : Nat) (S2 R2 : ByteArray) (wr : World) : Prop where
  a : SBlk wr bA n S R
  b : SBlk wr bB m S2 R2
  old : Below w.heap.size w wr
theorem Fb.below {w wr w' : World} {bA bB n m : Nat} {S R S2 R2 : ByteArray} (h : Fb w bA bB n S R m S2 R2 wr) (hb : Below wr.heap.size wr w') : Fb w bA bB n S R m S2 R2 w' :=
  ⟨h.a.below hb h.a.cells.2.2.2.2.2.2, h.b.below hb h.b.cells.2.2.2.2.2.2, h.old.trans (hb.mono h.old.size)⟩
theorem PebG.strs {w : World} {p n m k : Nat} {S R S2 R2 : ByteArray} {fv wv : Value} (h : PebG w p n S R m S2 R2 k fv wv) : w.cell? ⟨p, 0, none⟩ = some (.int .i64 (n : Int)) ∧ w.cell? ⟨p, 1, none⟩ = some (.string S) ∧ w.cell? ⟨p, 2, none⟩ = some (.string R) ∧ w.cell? ⟨p, 3, none⟩ = some (.int .i64 (m : Int)) ∧ w.cell? ⟨p, 4, none⟩ = some (.string S2) ∧ w.cell? ⟨p, 5, none⟩ = some (.string R2) := by
  have hb := h.blk
  refine ⟨?_, ?_, ?_, ?_, ?_, ?_⟩
  all_goals (unfold World.cell?; rw [hb]; rfl)
theorem form_fb0 (w : World) (n : Nat) (S R : ByteArray) (m : Nat) (S2 R2 : ByteArray) : Fb w w.heap.size (w.heap.size + 1) n S R m S2 R2 ((w.alloc (.cells #[.int .i64 (n : Int), .string S, .string R] 24)).alloc (.cells #[.int .i64 (m : Int), .string S2, .string R2] 24)).drew := by
  have h := Two.new w n S R m S2 R2
  have h2 := h.below (Below.refl _ _).drew
  exact ⟨h2.a, h2.b, h2.old⟩
theorem Fb.swap {w wr : World} {bA bB n m : Nat} {S R S2 R2 : ByteArray} (h : Fb w bA bB n S R m S2 R2 wr) : Fb w bB bA m S2 R2 n S R wr := ⟨h.b, h.a, h.old⟩
theorem Fb.set {w wr : World} {bA bB n m : Nat} {S R S2 R2 : ByteArray} (h : Fb w bA bB n S R m S2 R2 wr) (hne : bA ≠ bB) (hA : w.heap.size ≤ bA) (n' : Nat) (S' R' : ByteArray) : Fb w bA bB n' S' R' m S2 R2 (((wr.setCell ⟨bA, 0, none⟩ (.int .i64 (n' : Int))).setCell ⟨bA, 1, none⟩ (.string S')).setCell ⟨bA, 2, none⟩ (.string R')) := by
  refine ⟨h.a.set3, ?_, ((h.old.setCell hA _).setCell hA _).setCell hA _⟩
  exact (((h.b.far (by simp; omega) _).far (by simp; omega) _).far (by simp; omega) _)
theorem ret_t2 {s u : ByteArray} (h : s = u) : Ending.returned (.tuple #[.string s, .bool true]) = .returned (.tuple #[.string u, .bool true]) := by rw [h]
set_option maxHeartbeats 8000000 in
theorem formula_zero : FormOK 0 := by
  intro tp n m k cnt S R S2 R2 L M v u w tu hT hr hk hk1 hk3 hs1 hs2 ht ht3 hw
  have HWN : Hid (∀ w t', t' < cnt → TkR w tp tu n S R m S2 R2 k cnt v u L M → Calls Tryz.prog 64 #[.pointer (some ⟨tp, 0, none⟩), v, u, .int .i64 ((t' : Nat) : Int), .bool tu] w fun e w' => e = .returned (.bool (pwB (stOf n S R) (stOf m S2 R2) n m t' L M)) ∧ Below w.heap.size w w') :=
    fun w t' ht' h => won_any tp n m k cnt t' S R S2 R2 L M v u w tu h.t h.v h.u hr hk hk3 hs1.n8 hs2.n8 hs1.n1 hs2.n1 ht'
  have HFS : Hid (∀ w, TkR w tp tu n S R m S2 R2 k cnt v u L M → Calls Tryz.prog 65 #[strV n S R, v, strV m S2 R2, u] w fun e w' => e = .returned (.string (firstA (stOf n S R) (stOf m S2 R2) L M)) ∧ Below w.heap.size w w') :=
    fun w h => firstAtom_any n m S R S2 R2 L M v u w hs1.s hs1.r hs1.n8 hs2.s hs2.r hs2.n8 h.v h.u hr (by omega)
  have HW0 : Hid (pwB (stOf n S R) (stOf m S2 R2) n m 0 L M = false) := hw
  obtain ⟨RES, hres⟩ : ∃ r, pebF 0 (stOf n S R) (stOf m S2 R2) L M = r := ⟨_, rfl⟩
  have HRES : Hid (firstA (stOf n S R) (stOf m S2 R2) L M = RES) := hres
  rw [hres]
  have HT := Lib.hid hT
  obtain ⟨a1, ca, rfl, la1, la2, _⟩ := hT.v.view
  obtain ⟨b1, cb, rfl, lb1, lb2, _⟩ := hT.u.view
  unfold maxLen at la2
  obtain ⟨p, hTk⟩ := hT.t
  unfold strV at HFS
  clear hT hr hk hs1 hs2 hw hres
  cases tu
  · have hTk : Talk w tp p n S R m S2 R2 k cnt := hTk
    obtain ⟨⟨fv, wv, hG⟩, wg, cap, h2, h3, h4, h5, h6⟩ := hTk
    obtain ⟨p0, p1, p2, p3, p4, p5⟩ := hG.strs
    have t0 : w.cell? ⟨tp, 0, none⟩ = some (.pointer (some ⟨p, 0, none⟩)) := by unfold World.cell?; rw [h2]; rfl
    have hplt := hG.lt
    have htp : tp < w.heap.size := (Array.getElem?_eq_some_iff.1 h2).1
    clear h2 h3 h4 h5 h6 hG
    go_enter Tryz.func29, Tryz.ntmps29
    go_wp2_with fail
    go_region_held3 (fun w' => w'.cell? ⟨tp, 0, none⟩ = some (.pointer (some ⟨p, 0, none⟩)) ∧ w'.cell? ⟨p, 0, none⟩ = some (.int .i64 (n : Int)) ∧ w'.cell? ⟨p, 1, none⟩ = some (.string S) ∧ w'.cell? ⟨p, 2, none⟩ = some (.string R) ∧ w'.cell? ⟨p, 3, none⟩ = some (.int .i64 (m : Int)) ∧ w'.cell? ⟨p, 4, none⟩ = some (.string S2) ∧ w'.cell? ⟨p, 5, none⟩ = some (.string R2))
      (go_keep)
      (first | (fail))
    all_goals
      clear p0 p1 p2 p3 p4 p5 t0
      first
        | (obtain ⟨bA, bB, W, e1, e2, e3, HF, HNE⟩ : ∃ bA bB W, w.heap.size = bA ∧ w.heap.size + 1 = bB ∧ ((w.alloc (.cells #[.int .i64 (n : Int), .string S, .string R] 24)).alloc (.cells #[.int .i64 (m : Int), .string S2, .string R2] 24)).drew = W ∧ Hid (Fb w bA bB n S R m S2 R2 W) ∧ Hid (bA ≠ bB ∧ w.heap.size ≤ bA ∧ w.heap.size ≤ bB) := ⟨_, _, _, rfl, rfl, rfl, form_fb0 w n S R m S2 R2, by omega, by omega, by omega⟩; rw [e3, e2, e1])
        | (obtain ⟨bA, bB, W, e1, e2, e3, HF, HNE⟩ : ∃ bA bB W, w.heap.size + 1 = bA ∧ w.heap.size = bB ∧ ((w.alloc (.cells #[.int .i64 (m : Int), .string S2, .string R2] 24)).alloc (.cells #[.int .i64 (n : Int), .string S, .string R] 24)).drew = W ∧ Hid (Fb w bA bB n S R m S2 R2 W) ∧ Hid (bA ≠ bB ∧ w.heap.size ≤ bA ∧ w.heap.size ≤ bB) := ⟨_, _, _, rfl, rfl, rfl, (form_fb0 w m S2 R2 n S R).swap, by omega, by omega, by omega⟩; rw [e3, e1, e2])
      clear e1 e2 e3
      obtain ⟨c0, c1, c2, f0, f1, f2, hl1⟩ := HF.out.a.cells
      obtain ⟨d0, d1, d2, i0, i1, i2, hl2⟩ := HF.out.b.cells
      have HW1 := Lib.hid (HWN.out W 0 ht (HT.out.below HF.out.old))
      rw [HW0.out] at HW1
      go_wp2_with fail
      refine HW1.out.mono ?_; rintro e w1 ⟨rfl, hb1⟩
      have HF1 := Lib.hid (HF.out.below hb1)
      clear c0 c1 c2 f0 f1 f2 hl1 d0 d1 d2 i0 i1 i2 hl2 hb1 HF
      obtain ⟨c0, c1, c2, f0, f1, f2, hl1⟩ := HF1.out.a.cells
      obtain ⟨d0, d1, d2, i0, i1, i2, hl2⟩ := HF1.out.b.cells
      have HS1 := Lib.hid (HFS.out w1 (HT.out.below HF1.out.old))
      go_wp2_with fail
      refine HS1.out.mono ?_; rintro e w2 ⟨rfl, hb2⟩
      have HF2 := Lib.hid (HF1.out.below hb2)
      clear hb2
      go_wp2_with fail
      go_ret2
      exact ⟨ret_t2 HRES.out, HF2.out.old⟩
  · have hTk : Talk w tp p m S2 R2 n S R k cnt := hTk
    obtain ⟨⟨fv, wv, hG⟩, wg, cap, h2, h3, h4, h5, h6⟩ := hTk
    obtain ⟨p0, p1, p2, p3, p4, p5⟩ := hG.strs
    have t0 : w.cell? ⟨tp, 0, none⟩ = some (.pointer (some ⟨p, 0, none⟩)) := by unfold World.cell?; rw [h2]; rfl
    have hplt := hG.lt
    have htp : tp < w.heap.size := (Array.getElem?_eq_some_iff.1 h2).1
    clear h2 h3 h4 h5 h6 hG
    go_enter Tryz.func29, Tryz.ntmps29
    go_wp2_with fail
    go_region_held3 (fun w' => w'.cell? ⟨tp, 0, none⟩ = some (.pointer (some ⟨p, 0, none⟩)) ∧ w'.cell? ⟨p, 0, none⟩ = some (.int .i64 (m : Int)) ∧ w'.cell? ⟨p, 1, none⟩ = some (.string S2) ∧ w'.cell? ⟨p, 2, none⟩ = some (.string R2) ∧ w'.cell? ⟨p, 3, none⟩ = some (.int .i64 (n : Int)) ∧ w'.cell? ⟨p, 4, none⟩ = some (.string S) ∧ w'.cell? ⟨p, 5, none⟩ = some (.string R))
      (go_keep)
      (first | (fail))
    all_goals
      clear p0 p1 p2 p3 p4 p5 t0
      first
        | (obtain ⟨bA, bB, W, e1, e2, e3, HF, HNE⟩ : ∃ bA bB W, w.heap.size = bA ∧ w.heap.size + 1 = bB ∧ ((w.alloc (.cells #[.int .i64 (m : Int), .string S2, .string R2] 24)).alloc (.cells #[.int .i64 (n : Int), .string S, .string R] 24)).drew = W ∧ Hid (Fb w bA bB m S2 R2 n S R W) ∧ Hid (bA ≠ bB ∧ w.heap.size ≤ bA ∧ w.heap.size ≤ bB) := ⟨_, _, _, rfl, rfl, rfl, form_fb0 w m S2 R2 n S R, by omega, by omega, by omega⟩; rw [e3, e2, e1])
        | (obtain ⟨bA, bB, W, e1, e2, e3, HF, HNE⟩ : ∃ bA bB W, w.heap.size + 1 = bA ∧ w.heap.size = bB ∧ ((w.alloc (.cells #[.int .i64 (n : Int), .string S, .string R] 24)).alloc (.cells #[.int .i64 (m : Int), .string S2, .string R2] 24)).drew = W ∧ Hid (Fb w bA bB m S2 R2 n S R W) ∧ Hid (bA ≠ bB ∧ w.heap.size ≤ bA ∧ w.heap.size ≤ bB) := ⟨_, _, _, rfl, rfl, rfl, (form_fb0 w n S R m S2 R2).swap, by omega, by omega, by omega⟩; rw [e3, e1, e2])
      clear e1 e2 e3
      obtain ⟨c0, c1, c2, f0, f1, f2, hl1⟩ := HF.out.a.cells
      obtain ⟨d0, d1, d2, i0, i1, i2, hl2⟩ := HF.out.b.cells
      have hne1 := HNE.out.1
      have hne2 : bB ≠ bA := fun e => HNE.out.1 e.symm
      have HF9 : Hid (Fb w bA bB n S R m S2 R2 ((((((W.setCell ⟨bA, 0, none⟩ (.int .i64 (n : Int))).setCell ⟨bA, 1, none⟩ (.string S)).setCell ⟨bA, 2, none⟩ (.string R)).setCell ⟨bB, 0, none⟩ (.int .i64 (m : Int))).setCell ⟨bB, 1, none⟩ (.string S2)).setCell ⟨bB, 2, none⟩ (.string R2))) :=
        ((HF.out.set HNE.out.1 HNE.out.2.1 n S R).swap.set hne2 HNE.out.2.2 m S2 R2).swap
      obtain ⟨W9, hW9⟩ : ∃ W9, (((((W.setCell ⟨bA, 0, none⟩ (.int .i64 (n : Int))).setCell ⟨bA, 1, none⟩ (.string S)).setCell ⟨bA, 2, none⟩ (.string R)).setCell ⟨bB, 0, none⟩ (.int .i64 (m : Int))).setCell ⟨bB, 1, none⟩ (.string S2)).setCell ⟨bB, 2, none⟩ (.string R2) = W9 := ⟨_, rfl⟩
      rw [hW9] at HF9
      have HW9 := Lib.hid hW9
      clear hW9
      go_upto_region 4 with fail
      rw [HW9.out]
      clear c0 c1 c2 f0 f1 f2 hl1 d0 d1 d2 i0 i1 i2 hl2 HF HW9 hne1 hne2
      have HF := Lib.hid HF9.out
      clear HF9
      obtain ⟨c0, c1, c2, f0, f1, f2, hl1⟩ := HF.out.a.cells
      obtain ⟨d0, d1, d2, i0, i1, i2, hl2⟩ := HF.out.b.cells
      have HW1 := Lib.hid (HWN.out W9 0 ht (HT.out.below HF.out.old))
      rw [HW0.out] at HW1
      go_wp2_with fail
      refine HW1.out.mono ?_; rintro e w1 ⟨rfl, hb1⟩
      have HF1 := Lib.hid (HF.out.below hb1)
      clear c0 c1 c2 f0 f1 f2 hl1 d0 d1 d2 i0 i1 i2 hl2 hb1 HF
      obtain ⟨c0, c1, c2, f0, f1, f2, hl1⟩ := HF1.out.a.cells
      obtain ⟨d0, d1, d2, i0, i1, i2, hl2⟩ := HF1.out.b.cells
      have HS1 := Lib.hid (HFS.out w1 (HT.out.below HF1.out.old))
      go_wp2_with fail
      refine HS1.out.mono ?_; rintro e w2 ⟨rfl, hb2⟩
      have HF2 := Lib.hid (HF1.out.below hb2)
      clear hb2
      go_wp2_with fail
      go_ret2
      exact ⟨ret_t2 HRES.out, HF2.out.old⟩
set_option maxHeartbeats 16000000 in
theorem formula_step (t : Nat) (HFO : FormOK t) : FormOK (t + 1) := by
  intro tp n m k cnt S R S2 R2 L M v u w tu hT hr hk hk1 hk3 hs1 hs2 ht ht3 hw
  have HWN : Hid (∀ w t', t' < cnt → TkR w tp tu n S R m S2 R2 k cnt v u L M → Calls Tryz.prog 64 #[.pointer (some ⟨tp, 0, none⟩), v, u, .int .i64 ((t' : Nat) : Int), .bool tu] w fun e w' => e = .returned (.bool (pwB (stOf n S R) (stOf m S2 R2) n m t' L M)) ∧ Below w.heap.size w w') :=
    fun w t' ht' h => won_any tp n m k cnt t' S R S2 R2 L M v u w tu h.t h.v h.u hr hk hk3 hs1.n8 hs2.n8 hs1.n1 hs2.n1 ht'
  have HFS : Hid (∀ w, TkR w tp tu n S R m S2 R2 k cnt v u L M → Calls Tryz.prog 65 #[strV n S R, v, strV m S2 R2, u] w fun e w' => e = .returned (.string (firstA (stOf n S R) (stOf m S2 R2) L M)) ∧ Below w.heap.size w w') :=
    fun w h => firstAtom_any n m S R S2 R2 L M v u w hs1.s hs1.r hs1.n8 hs2.s hs2.r hs2.n8 h.v h.u hr (by omega)
  have HSAME : Hid (pwB (stOf n S R) (stOf m S2 R2) n m 0 L M = Gs.same (stOf n S R) (layN L) (stOf m S2 R2) (layN M)) := rfl
  obtain ⟨RES, hres⟩ : ∃ r, pebF (t + 1) (stOf n S R) (stOf m S2 R2) L M = r := ⟨_, rfl⟩
  have HR1 : Hid (Gs.same (stOf n S R) (layN L) (stOf m S2 R2) (layN M) = false → firstA (stOf n S R) (stOf m S2 R2) L M = RES) := fun h => by rw [← hres, pebF_succ, if_pos h]
  have HR2 : Hid (Gs.same (stOf n S R) (layN L) (stOf m S2 R2) (layN M) = true → pwB (stOf n S R) (stOf m S2 R2) n m t L M = false → pebF t (stOf n S R) (stOf m S2 R2) L M = RES) := fun h h2 => by rw [← hres, pebF_succ, if_neg (by rw [h]; decide), if_pos (show pwB (stOf n S R) (stOf m S2 R2) (stOf n S R).n (stOf m S2 R2).n t L M = false from h2)]
  have HR3 : Hid (Gs.same (stOf n S R) (layN L) (stOf m S2 R2) (layN M) = true → pwB (stOf n S R) (stOf m S2 R2) n m t L M = true → (fsO (plO t (stOf n S R) (stOf m S2 R2) L M) k).getD ByteArray.empty = RES ∧ ∃ s, fsO (plO t (stOf n S R) (stOf m S2 R2) L M) k = some s) := fun h h2 => by
    refine ⟨by rw [← hres, pebF_succ, if_neg (by rw [h]; decide), if_neg (by rw [show pwB (stOf n S R) (stOf m S2 R2) (stOf n S R).n (stOf m S2 R2).n t L M = true from h2]; decide), hk], ?_⟩
    have := plO_some (a := stOf n S R) (b := stOf m S2 R2) (t := t) (L := L) (M := M) hr hw h
    rw [hk] at this
    exact this
  have HFM : Hid (∀ w, pwB (stOf n S R) (stOf m S2 R2) n m t L M = false → TkR w tp tu n S R m S2 R2 k cnt v u L M → Calls Tryz.prog 29 #[.pointer (some ⟨tp, 0, none⟩), v, u, .int .i64 (t : Int), .bool tu] w fun e w' => e = .returned (.tuple #[.string (pebF t (stOf n S R) (stOf m S2 R2) L M), .bool true]) ∧ Below w.heap.size w w') :=
    fun w h1 h => HFO tp n m k cnt S R S2 R2 L M v u w tu h hr hk hk1 hk3 hs1 hs2 (by omega) (by omega) h1
  have HB1 : Hid (∀ w i x, i < k → x < n → TkR w tp tu n S R m S2 R2 k cnt v u L M → Calls Tryz.prog 66 #[.pointer (some ⟨tp, 0, none⟩), v, u, .int .i64 ((t : Int) + 1), .bool tu, .int .i64 ((i : Nat) : Int), .int .i64 ((x : Nat) : Int), .int .i64 (m : Int)] w fun e w' => e = .returned (.bool (beatA (stOf n S R) (stOf m S2 R2) t L M i x)) ∧ Below w.heap.size w w') :=
    fun w i x hi hx h => beats_any tp n m k cnt t i x S R S2 R2 L M v u w tu h hr hk hk3 hs1.n8 hs2.n8 hs1.n1 hs2.n1 (by omega) (by omega) hi hx
  have HB2 : Hid (∀ w i x, i < k → x < m → TkR w tp tu n S R m S2 R2 k cnt v u L M → Calls Tryz.prog 66 #[.pointer (some ⟨tp, 0, none⟩), u, v, .int .i64 ((t : Int) + 1), .bool (!tu), .int .i64 ((i : Nat) : Int), .int .i64 ((x : Nat) : Int), .int .i64 (n : Int)] w fun e w' => e = .returned (.bool (beatA (stOf m S2 R2) (stOf n S R) t M L i x)) ∧ Below w.heap.size w w') :=
    fun w i x hi hx h => beats_any tp m n k cnt t i x S2 R2 S R M L u v w (!tu) h.flip hr.symm (by rw [← hr.len]; exact hk) hk3 hs2.n8 hs1.n8 hs2.n1 hs1.n1 (by omega) (by omega) hi hx
  have HQ1 : Hid (∀ w i x, i < k → x < n → beatA (stOf n S R) (stOf m S2 R2) t L M i x = true → TkR w tp tu n S R m S2 R2 k cnt v u L M → Calls Tryz.prog 67 #[.pointer (some ⟨tp, 0, none⟩), .string ⟨#[83]⟩, v, u, .int .i64 ((t : Int) + 1), .bool tu, .int .i64 ((i : Nat) : Int), .int .i64 ((x : Nat) : Int), .int .i64 (m : Int)] w fun e w' => e = .returned (.tuple #[.string (quB ⟨#[83]⟩ i ((List.range m).map fun y : Nat => pebF t (stOf n S R) (stOf m S2 R2) (L.set i (x : Int)) (M.set i (y : Int)))), .bool true]) ∧ Below w.heap.size w w') :=
    fun w i x hi hx hb h => quantified_any t HFO tp n m k cnt i x S R S2 R2 ⟨#[83]⟩ L M v u w tu h hr hk hk1 hk3 hs1 hs2 (by omega) (by omega) hi hx hb (by decide)
  have HQ2 : Hid (∀ w i x, i < k → x < m → beatA (stOf m S2 R2) (stOf n S R) t M L i x = true → TkR w tp tu n S R m S2 R2 k cnt v u L M → Calls Tryz.prog 67 #[.pointer (some ⟨tp, 0, none⟩), .string ⟨#[33, 83]⟩, u, v, .int .i64 ((t : Int) + 1), .bool (!tu), .int .i64 ((i : Nat) : Int), .int .i64 ((x : Nat) : Int), .int .i64 (n : Int)] w fun e w' => e = .returned (.tuple #[.string (quB ⟨#[33, 83]⟩ i ((List.range n).map fun y : Nat => pebF t (stOf m S2 R2) (stOf n S R) (M.set i (x : Int)) (L.set i (y : Int)))), .bool true]) ∧ Below w.heap.size w w') :=
    fun w i x hi hx hb h => quantified_any t HFO tp m n k cnt i x S2 R2 S R ⟨#[33, 83]⟩ M L u v w (!tu) h.flip hr.symm (by rw [← hr.len]; exact hk) hk1 hk3 hs2 hs1 (by omega) (by omega) hi hx hb (by decide)
  rw [hres]
  have hml : M.length = k := by rw [← hr.len]; exact hk
  have HT := Lib.hid hT
  obtain ⟨a1, ca, rfl, la1, la2, _⟩ := hT.v.view
  obtain ⟨b1, cb, rfl, lb1, lb2, _⟩ := hT.u.view
  unfold maxLen at la2
  obtain ⟨p, hTk⟩ := hT.t
  unfold strV at HFS
  have hn8 := hs1.n8
  have hm8 := hs2.n8
  rw [hk] at la1
  rw [hk, hml] at HT HWN HFS HFM HB1 HB2 HQ1 HQ2 ⊢
  rw [show ((t + 1 : Nat) : Int) = (t : Int) + 1 from by omega]
  clear hT hr hk hs1 hs2 hw hres hml
  cases tu
  · have hTk : Talk w tp p n S R m S2 R2 k cnt := hTk
    obtain ⟨⟨fv, wv, hG⟩, wg, cap, h2, h3, h4, h5, h6⟩ := hTk
    obtain ⟨p0, p1, p2, p3, p4, p5⟩ := hG.strs
    have t0 : w.cell? ⟨tp, 0, none⟩ = some (.pointer (some ⟨p, 0, none⟩)) := by unfold World.cell?; rw [h2]; rfl
    have hplt := hG.lt
    have htp : tp < w.heap.size := (Array.getElem?_eq_some_iff.1 h2).1
    clear h2 h3 h4 h5 h6 hG
    go_enter Tryz.func29, Tryz.ntmps29
    go_wp2_with fail
    go_region_held3 (fun w' => w'.cell? ⟨tp, 0, none⟩ = some (.pointer (some ⟨p, 0, none⟩)) ∧ w'.cell? ⟨p, 0, none⟩ = some (.int .i64 (n : Int)) ∧ w'.cell? ⟨p, 1, none⟩ = some (.string S) ∧ w'.cell? ⟨p, 2, none⟩ = some (.string R) ∧ w'.cell? ⟨p, 3, none⟩ = some (.int .i64 (m : Int)) ∧ w'.cell? ⟨p, 4, none⟩ = some (.string S2) ∧ w'.cell? ⟨p, 5, none⟩ = some (.string R2))
      (go_keep)
      (first | (fail))
    all_goals
      clear p0 p1 p2 p3 p4 p5 t0
      first
        | (obtain ⟨bA, bB, W, e1, e2, e3, HF, HNE⟩ : ∃ bA bB W, w.heap.size = bA ∧ w.heap.size + 1 = bB ∧ ((w.alloc (.cells #[.int .i64 (n : Int), .string S, .string R] 24)).alloc (.cells #[.int .i64 (m : Int), .string S2, .string R2] 24)).drew = W ∧ Hid (Fb w bA bB n S R m S2 R2 W) ∧ Hid (bA ≠ bB ∧ w.heap.size ≤ bA ∧ w.heap.size ≤ bB) := ⟨_, _, _, rfl, rfl, rfl, form_fb0 w n S R m S2 R2, by omega, by omega, by omega⟩; rw [e3, e2, e1])
        | (obtain ⟨bA, bB, W, e1, e2, e3, HF, HNE⟩ : ∃ bA bB W, w.heap.size + 1 = bA ∧ w.heap.size = bB ∧ ((w.alloc (.cells #[.int .i64 (m : Int), .string S2, .string R2] 24)).alloc (.cells #[.int .i64 (n : Int), .string S, .string R] 24)).drew = W ∧ Hid (Fb w bA bB n S R m S2 R2 W) ∧ Hid (bA ≠ bB ∧ w.heap.size ≤ bA ∧ w.heap.size ≤ bB) := ⟨_, _, _, rfl, rfl, rfl, (form_fb0 w m S2 R2 n S R).swap, by omega, by omega, by omega⟩; rw [e3, e1, e2])
      clear e1 e2 e3
      obtain ⟨c0, c1, c2, f0, f1, f2, hl1⟩ := HF.out.a.cells
      obtain ⟨d0, d1, d2, i0, i1, i2, hl2⟩ := HF.out.b.cells
      have HW1 := Lib.hid (HWN.out W 0 (by omega) (HT.out.below HF.out.old))
      rw [HSAME.out] at HW1
      clear HNE
      go_wp2_with fail
      refine HW1.out.mono ?_; rintro e w1 ⟨rfl, hb1⟩
      have HF1 := Lib.hid (HF.out.below hb1)
      clear c0 c1 c2 f0 f1 f2 hl1 d0 d1 d2 i0 i1 i2 hl2 hb1 HF HW1
      obtain ⟨c0, c1, c2, f0, f1, f2, hl1⟩ := HF1.out.a.cells
      obtain ⟨d0, d1, d2, i0, i1, i2, hl2⟩ := HF1.out.b.cells
      have HS1 := Lib.hid (HFS.out w1 (HT.out.below HF1.out.old))
      generalize Gs.same (stOf n S R) (layN L) (stOf m S2 R2) (layN M) = sm at *
      cases sm
      · have HE := Lib.hid (HR1.out rfl)
        go_wp2_with fail
        refine HS1.out.mono ?_; rintro e w2 ⟨rfl, hb2⟩
        have HF2 := Lib.hid (HF1.out.below hb2)
        clear hb2
        go_wp2_with fail
        go_ret2
        exact ⟨ret_t2 HE.out, HF2.out.old⟩
      · have HW2 := Lib.hid (HWN.out w1 t (by omega) (HT.out.below HF1.out.old))
        have HM2 := Lib.hid (HFM.out)
        have htt : (t : Int) + 1 - 1 = (t : Int) := by omega
        have HR2' := Lib.hid (HR2.out rfl)
        have HR3' := Lib.hid (HR3.out rfl)
        clear HS1 HR1 HR2 HR3 HFM
        generalize pwB (stOf n S R) (stOf m S2 R2) n m t L M = wn at *
        go_wp2_with fail
        refine HW2.out.mono ?_; rintro e w2 ⟨rfl, hb2⟩
        have HF2 := Lib.hid (HF1.out.below hb2)
        clear c0 c1 c2 f0 f1 f2 hl1 d0 d1 d2 i0 i1 i2 hl2 hb2 HF1 HW2
        obtain ⟨c0, c1, c2, f0, f1, f2, hl1⟩ := HF2.out.a.cells
        obtain ⟨d0, d1, d2, i0, i1, i2, hl2⟩ := HF2.out.b.cells
        cases wn
        · have HE := Lib.hid (HR2'.out rfl)
          have HM3 := Lib.hid (HM2.out w2 rfl (HT.out.below HF2.out.old))
          go_wp2_with fail
          refine HM3.out.mono ?_; rintro e w3 ⟨rfl, hb3⟩
          have HF3 := Lib.hid (HF2.out.below hb3)
          clear hb3
          go_wp2_with fail
          go_ret2
          exact ⟨ret_t2 HE.out, HF3.out.old⟩
        · obtain ⟨hr4, sv, hsv⟩ := HR3'.out rfl
          have HRE := Lib.hid hr4
          have HSV := Lib.hid hsv
          clear hr4 hsv HR3' HR2' HM2
          obtain ⟨PL, hPL⟩ : ∃ f, plO t (stOf n S R) (stOf m S2 R2) L M = f := ⟨_, rfl⟩
          have HPL1 : Hid (∀ i s, fsO (mvO t (stOf n S R) (stOf m S2 R2) L M i) n = some s → PL i = some s) := fun i s h => by rw [← hPL]; exact plO_one h
          have HPL2 : Hid (∀ i, fsO (mvO t (stOf n S R) (stOf m S2 R2) L M i) n = none → PL i = fsO (mvN t (stOf m S2 R2) (stOf n S R) M L i) m) := fun i h => by rw [← hPL]; exact plO_two h
          rw [hPL] at HRE HSV
          clear hPL
          go_wp2_with fail
          go_loopw [64, 14, 15, 16] (fun q _ _ _ wr => ∃ i : Nat, i ≤ k ∧ q = .int .i64 (i : Int) ∧ Hid (fsO PL i = none) ∧ Hid (Fb w bA bB n S R m S2 R2 wr)) (fun q _ _ _ _ => k - (intOf q).toNat)
          case atStart => exact ⟨0, by omega, rfl, rfl, HF2⟩
          case round =>
            clear HF2 c0 c1 c2 f0 f1 f2 hl1 d0 d1 d2 i0 i1 i2 hl2
            obtain ⟨i, hi, rfl, HN, HF⟩ := hrel
            by_cases hlt : i < k
            · have hiI : (i : Int) < (k : Int) := by omega
              have HNY := Lib.hid (fun s (h : PL i = some s) => fsO_yes HN.out h hlt)
              have HNN := Lib.hid (fun (h : PL i = none) => fsO_no HN.out h)
              have HP1 := Lib.hid (HPL1.out i)
              have HP2 := Lib.hid (HPL2.out i)
              have HB1i := Lib.hid (fun w x hx h => HB1.out w i x hlt hx h)
              have HB2i := Lib.hid (fun w x hx h => HB2.out w i x hlt hx h)
              have HQ1i := Lib.hid (fun w x hx hb h => HQ1.out w i x hlt hx hb h)
              have HQ2i := Lib.hid (fun w x hx hb h => HQ2.out w i x hlt hx hb h)
              obtain ⟨c0, c1, c2, f0, f1, f2, hl1⟩ := HF.out.a.cells
              obtain ⟨d0, d1, d2, i0, i1, i2, hl2⟩ := HF.out.b.cells
              go_wp2_with fail
              obtain ⟨wo, hwo⟩ : ∃ wo, wo = wr := ⟨_, rfl⟩
              subst hwo
              go_loopw [69, 15] (fun q _ wr => ∃ x : Nat, x ≤ n ∧ q = .int .i64 (x : Int) ∧ Hid (fsO (mvO t (stOf n S R) (stOf m S2 R2) L M i) x = none) ∧ Hid (Fb w bA bB n S R m S2 R2 wr)) (fun q _ _ => n - (intOf q).toNat)
              case atStart => exact ⟨0, by omega, rfl, rfl, HF⟩
              case round =>
                clear HF c0 c1 c2 f0 f1 f2 hl1 d0 d1 d2 i0 i1 i2 hl2
                obtain ⟨x, hx, rfl, HNx, HF⟩ := hrel
                by_cases hlt2 : x < n
                · have hxI : (x : Int) < (n : Int) := by omega
                  obtain ⟨c0, c1, c2, f0, f1, f2, hl1⟩ := HF.out.a.cells
                  obtain ⟨d0, d1, d2, i0, i1, i2, hl2⟩ := HF.out.b.cells
                  have HBx := Lib.hid (HB1i.out wr x hlt2 (HT.out.below HF.out.old))
                  have HYx := Lib.hid (fun (h : beatA (stOf n S R) (stOf m S2 R2) t L M i x = true) => HNY.out _ (HP1.out _ (fsO_yes HNx.out (mvO_yes h) hlt2)))
                  have HNx2 := Lib.hid (fun (h : beatA (stOf n S R) (stOf m S2 R2) t L M i x = false) => fsO_no HNx.out (mvO_no h))
                  have HQx := Lib.hid (fun w hb h => HQ1i.out w x hlt2 hb h)
                  generalize beatA (stOf n S R) (stOf m S2 R2) t L M i x = bt at *
                  go_wp2_with fail
                  refine HBx.out.mono ?_; rintro e w3 ⟨rfl, hb3⟩
                  have HF3 := Lib.hid (HF.out.below hb3)
                  clear c0 c1 c2 f0 f1 f2 hl1 d0 d1 d2 i0 i1 i2 hl2 hb3 HF HBx
                  obtain ⟨c0, c1, c2, f0, f1, f2, hl1⟩ := HF3.out.a.cells
                  obtain ⟨d0, d1, d2, i0, i1, i2, hl2⟩ := HF3.out.b.cells
                  cases bt
                  · have HN3 := Lib.hid (HNx2.out rfl)
                    go_wp2_with fail
                    go_roundw
                    case rel => exact ⟨x + 1, by omega, by go_num, HN3, HF3⟩
                    case measure => simp [intOf]; omega
                  · have HY3 := Lib.hid (HYx.out rfl)
                    have HQ3 := Lib.hid (HQx.out w3 rfl (HT.out.below HF3.out.old))
                    have HE : Hid (quB ⟨#[83]⟩ i ((List.range m).map fun y : Nat => pebF t (stOf n S R) (stOf m S2 R2) (L.set i (x : Int)) (M.set i (y : Int))) = RES) := by
                      have h5 := HRE.out
                      have h6 : fsO PL k = some (quB ⟨#[83]⟩ i ((List.range m).map fun y : Nat => pebF t (stOf n S R) (stOf m S2 R2) (L.set i (x : Int)) (M.set i (y : Int)))) := HY3.out
                      rw [h6] at h5
                      exact h5
                    rw [HE.out] at HQ3
                    go_wp2_with fail
                    refine HQ3.out.mono ?_; rintro e w4 ⟨rfl, hb4⟩
                    have HF4 := Lib.hid (HF3.out.below hb4)
                    clear hb4
                    go_wp2_with fail
                    go_ret2
                    exact ⟨rfl, HF4.out.old⟩
                · obtain rfl : x = n := by omega
                  have HP2x := Lib.hid (HP2.out HNx.out)
                  obtain ⟨c0, c1, c2, f0, f1, f2, hl1⟩ := HF.out.a.cells
                  obtain ⟨d0, d1, d2, i0, i1, i2, hl2⟩ := HF.out.b.cells
                  go_wp2_with fail
                  obtain ⟨wo2, hwo2⟩ : ∃ wo, wo = wr := ⟨_, rfl⟩
                  subst hwo2
                  go_loopw [97, 16] (fun q _ wr => ∃ z : Nat, z ≤ m ∧ q = .int .i64 (z : Int) ∧ Hid (fsO (mvN t (stOf m S2 R2) (stOf x S R) M L i) z = none) ∧ Hid (Fb w bA bB x S R m S2 R2 wr)) (fun q _ _ => m - (intOf q).toNat)
                  case atStart => exact ⟨0, by omega, rfl, rfl, HF⟩
                  case round =>
                    clear HF c0 c1 c2 f0 f1 f2 hl1 d0 d1 d2 i0 i1 i2 hl2
                    obtain ⟨z, hz, rfl, HNz, HF⟩ := hrel
                    by_cases hlt3 : z < m
                    · have hzI : (z : Int) < (m : Int) := by omega
                      obtain ⟨c0, c1, c2, f0, f1, f2, hl1⟩ := HF.out.a.cells
                      obtain ⟨d0, d1, d2, i0, i1, i2, hl2⟩ := HF.out.b.cells
                      have HBz := Lib.hid (HB2i.out wr z hlt3 (HT.out.below HF.out.old))
                      have HYz := Lib.hid (fun (h : beatA (stOf m S2 R2) (stOf x S R) t M L i z = true) => HNY.out _ (HP2x.out.trans (fsO_yes HNz.out (mvN_yes h) hlt3)))
                      have HNz2 := Lib.hid (fun (h : beatA (stOf m S2 R2) (stOf x S R) t M L i z = false) => fsO_no HNz.out (mvN_no h))
                      have HQz := Lib.hid (fun w hb h => HQ2i.out w z hlt3 hb h)
                      generalize beatA (stOf m S2 R2) (stOf x S R) t M L i z = bt at *
                      go_wp2_with fail
                      refine HBz.out.mono ?_; rintro e w3 ⟨rfl, hb3⟩
                      have HF3 := Lib.hid (HF.out.below hb3)
                      clear c0 c1 c2 f0 f1 f2 hl1 d0 d1 d2 i0 i1 i2 hl2 hb3 HF HBz
                      obtain ⟨c0, c1, c2, f0, f1, f2, hl1⟩ := HF3.out.a.cells
                      obtain ⟨d0, d1, d2, i0, i1, i2, hl2⟩ := HF3.out.b.cells
                      cases bt
                      · have HN3 := Lib.hid (HNz2.out rfl)
                        go_wp2_with fail
                        go_roundw
                        case rel => exact ⟨z + 1, by omega, by go_num, HN3, HF3⟩
                        case measure => simp [intOf]; omega
                      · have HY3 := Lib.hid (HYz.out rfl)
                        have HQ3 := Lib.hid (HQz.out w3 rfl (HT.out.below HF3.out.old))
                        have HE : Hid (quB ⟨#[33, 83]⟩ i ((List.range x).map fun y : Nat => pebF t (stOf m S2 R2) (stOf x S R) (M.set i (z : Int)) (L.set i (y : Int))) = RES) := by
                          have h5 := HRE.out
                          have h6 : fsO PL k = some (quB ⟨#[33, 83]⟩ i ((List.range x).map fun y : Nat => pebF t (stOf m S2 R2) (stOf x S R) (M.set i (z : Int)) (L.set i (y : Int)))) := HY3.out
                          rw [h6] at h5
                          exact h5
                        rw [HE.out] at HQ3
                        go_wp2_with fail
                        refine HQ3.out.mono ?_; rintro e w4 ⟨rfl, hb4⟩
                        have HF4 := Lib.hid (HF3.out.below hb4)
                        clear hb4
                        go_wp2_with fail
                        go_ret2
                        exact ⟨rfl, HF4.out.old⟩
                    · obtain rfl : z = m := by omega
                      have HN3 := Lib.hid (HNN.out (HP2x.out.trans HNz.out))
                      go_wp2_with fail
                      go_roundw
                      case rel => exact ⟨i + 1, by omega, by go_num, HN3, HF⟩
                      case measure => simp [intOf]; omega
            · obtain rfl : i = k := by omega
              exfalso
              have h7 := HN.out
              rw [HSV.out] at h7
              cases h7
  · have hTk : Talk w tp p m S2 R2 n S R k cnt := hTk
    obtain ⟨⟨fv, wv, hG⟩, wg, cap, h2, h3, h4, h5, h6⟩ := hTk
    obtain ⟨p0, p1, p2, p3, p4, p5⟩ := hG.strs
    have t0 : w.cell? ⟨tp, 0, none⟩ = some (.pointer (some ⟨p, 0, none⟩)) := by unfold World.cell?; rw [h2]; rfl
    have hplt := hG.lt
    have htp : tp < w.heap.size := (Array.getElem?_eq_some_iff.1 h2).1
    clear h2 h3 h4 h5 h6 hG
    go_enter Tryz.func29, Tryz.ntmps29
    go_wp2_with fail
    go_region_held3 (fun w' => w'.cell? ⟨tp, 0, none⟩ = some (.pointer (some ⟨p, 0, none⟩)) ∧ w'.cell? ⟨p, 0, none⟩ = some (.int .i64 (m : Int)) ∧ w'.cell? ⟨p, 1, none⟩ = some (.string S2) ∧ w'.cell? ⟨p, 2, none⟩ = some (.string R2) ∧ w'.cell? ⟨p, 3, none⟩ = some (.int .i64 (n : Int)) ∧ w'.cell? ⟨p, 4, none⟩ = some (.string S) ∧ w'.cell? ⟨p, 5, none⟩ = some (.string R))
      (go_keep)
      (first | (fail))
    all_goals
      clear p0 p1 p2 p3 p4 p5 t0
      first
        | (obtain ⟨bA, bB, W, e1, e2, e3, HF, HNE⟩ : ∃ bA bB W, w.heap.size = bA ∧ w.heap.size + 1 = bB ∧ ((w.alloc (.cells #[.int .i64 (m : Int), .string S2, .string R2] 24)).alloc (.cells #[.int .i64 (n : Int), .string S, .string R] 24)).drew = W ∧ Hid (Fb w bA bB m S2 R2 n S R W) ∧ Hid (bA ≠ bB ∧ w.heap.size ≤ bA ∧ w.heap.size ≤ bB) := ⟨_, _, _, rfl, rfl, rfl, form_fb0 w m S2 R2 n S R, by omega, by omega, by omega⟩; rw [e3, e2, e1])
        | (obtain ⟨bA, bB, W, e1, e2, e3, HF, HNE⟩ : ∃ bA bB W, w.heap.size + 1 = bA ∧ w.heap.size = bB ∧ ((w.alloc (.cells #[.int .i64 (n : Int), .string S, .string R] 24)).alloc (.cells #[.int .i64 (m : Int), .string S2, .string R2] 24)).drew = W ∧ Hid (Fb w bA bB m S2 R2 n S R W) ∧ Hid (bA ≠ bB ∧ w.heap.size ≤ bA ∧ w.heap.size ≤ bB) := ⟨_, _, _, rfl, rfl, rfl, (form_fb0 w n S R m S2 R2).swap, by omega, by omega, by omega⟩; rw [e3, e1, e2])
      clear e1 e2 e3
      obtain ⟨c0, c1, c2, f0, f1, f2, hl1⟩ := HF.out.a.cells
      obtain ⟨d0, d1, d2, i0, i1, i2, hl2⟩ := HF.out.b.cells
      have hne1 := HNE.out.1
      have hne2 : bB ≠ bA := fun e => HNE.out.1 e.symm
      have HF9 : Hid (Fb w bA bB n S R m S2 R2 ((((((W.setCell ⟨bA, 0, none⟩ (.int .i64 (n : Int))).setCell ⟨bA, 1, none⟩ (.string S)).setCell ⟨bA, 2, none⟩ (.string R)).setCell ⟨bB, 0, none⟩ (.int .i64 (m : Int))).setCell ⟨bB, 1, none⟩ (.string S2)).setCell ⟨bB, 2, none⟩ (.string R2))) :=
        ((HF.out.set HNE.out.1 HNE.out.2.1 n S R).swap.set hne2 HNE.out.2.2 m S2 R2).swap
      obtain ⟨W9, hW9⟩ : ∃ W9, (((((W.setCell ⟨bA, 0, none⟩ (.int .i64 (n : Int))).setCell ⟨bA, 1, none⟩ (.string S)).setCell ⟨bA, 2, none⟩ (.string R)).setCell ⟨bB, 0, none⟩ (.int .i64 (m : Int))).setCell ⟨bB, 1, none⟩ (.string S2)).setCell ⟨bB, 2, none⟩ (.string R2) = W9 := ⟨_, rfl⟩
      rw [hW9] at HF9
      have HW9 := Lib.hid hW9
      clear hW9
      go_upto_region 4 with fail
      rw [HW9.out]
      clear c0 c1 c2 f0 f1 f2 hl1 d0 d1 d2 i0 i1 i2 hl2 HF HW9 hne1 hne2
      have HF := Lib.hid HF9.out
      clear HF9
      obtain ⟨c0, c1, c2, f0, f1, f2, hl1⟩ := HF.out.a.cells
      obtain ⟨d0, d1, d2, i0, i1, i2, hl2⟩ := HF.out.b.cells
      have HW1 := Lib.hid (HWN.out W9 0 (by omega) (HT.out.below HF.out.old))
      rw [HSAME.out] at HW1
      clear HNE
      go_wp2_with fail
      refine HW1.out.mono ?_; rintro e w1 ⟨rfl, hb1⟩
      have HF1 := Lib.hid (HF.out.below hb1)
      clear c0 c1 c2 f0 f1 f2 hl1 d0 d1 d2 i0 i1 i2 hl2 hb1 HF HW1
      obtain ⟨c0, c1, c2, f0, f1, f2, hl1⟩ := HF1.out.a.cells
      obtain ⟨d0, d1, d2, i0, i1, i2, hl2⟩ := HF1.out.b.cells
      have HS1 := Lib.hid (HFS.out w1 (HT.out.below HF1.out.old))
      generalize Gs.same (stOf n S R) (layN L) (stOf m S2 R2) (layN M) = sm at *
      cases sm
      · have HE := Lib.hid (HR1.out rfl)
        go_wp2_with fail
        refine HS1.out.mono ?_; rintro e w2 ⟨rfl, hb2⟩
        have HF2 := Lib.hid (HF1.out.below hb2)
        clear hb2
        go_wp2_with fail
        go_ret2
        exact ⟨ret_t2 HE.out, HF2.out.old⟩
      · have HW2 := Lib.hid (HWN.out w1 t (by omega) (HT.out.below HF1.out.old))
        have HM2 := Lib.hid (HFM.out)
        have htt : (t : Int) + 1 - 1 = (t : Int) := by omega
        have HR2' := Lib.hid (HR2.out rfl)
        have HR3' := Lib.hid (HR3.out rfl)
        clear HS1 HR1 HR2 HR3 HFM
        generalize pwB (stOf n S R) (stOf m S2 R2) n m t L M = wn at *
        go_wp2_with fail
        refine HW2.out.mono ?_; rintro e w2 ⟨rfl, hb2⟩
        have HF2 := Lib.hid (HF1.out.below hb2)
        clear c0 c1 c2 f0 f1 f2 hl1 d0 d1 d2 i0 i1 i2 hl2 hb2 HF1 HW2
        obtain ⟨c0, c1, c2, f0, f1, f2, hl1⟩ := HF2.out.a.cells
        obtain ⟨d0, d1, d2, i0, i1, i2, hl2⟩ := HF2.out.b.cells
        cases wn
        · have HE := Lib.hid (HR2'.out rfl)
          have HM3 := Lib.hid (HM2.out w2 rfl (HT.out.below HF2.out.old))
          go_wp2_with fail
          refine HM3.out.mono ?_; rintro e w3 ⟨rfl, hb3⟩
          have HF3 := Lib.hid (HF2.out.below hb3)
          clear hb3
          go_wp2_with fail
          go_ret2
          exact ⟨ret_t2 HE.out, HF3.out.old⟩
        · obtain ⟨hr4, sv, hsv⟩ := HR3'.out rfl
          have HRE := Lib.hid hr4
          have HSV := Lib.hid hsv
          clear hr4 hsv HR3' HR2' HM2
          obtain ⟨PL, hPL⟩ : ∃ f, plO t (stOf n S R) (stOf m S2 R2) L M = f := ⟨_, rfl⟩
          have HPL1 : Hid (∀ i s, fsO (mvO t (stOf n S R) (stOf m S2 R2) L M i) n = some s → PL i = some s) := fun i s h => by rw [← hPL]; exact plO_one h
          have HPL2 : Hid (∀ i, fsO (mvO t (stOf n S R) (stOf m S2 R2) L M i) n = none → PL i = fsO (mvN t (stOf m S2 R2) (stOf n S R) M L i) m) := fun i h => by rw [← hPL]; exact plO_two h
          rw [hPL] at HRE HSV
          clear hPL
          go_wp2_with fail
          go_loopw [64, 14, 15, 16] (fun q _ _ _ wr => ∃ i : Nat, i ≤ k ∧ q = .int .i64 (i : Int) ∧ Hid (fsO PL i = none) ∧ Hid (Fb w bA bB n S R m S2 R2 wr)) (fun q _ _ _ _ => k - (intOf q).toNat)
          case atStart => exact ⟨0, by omega, rfl, rfl, HF2⟩
          case round =>
            clear HF2 c0 c1 c2 f0 f1 f2 hl1 d0 d1 d2 i0 i1 i2 hl2
            obtain ⟨i, hi, rfl, HN, HF⟩ := hrel
            by_cases hlt : i < k
            · have hiI : (i : Int) < (k : Int) := by omega
              have HNY := Lib.hid (fun s (h : PL i = some s) => fsO_yes HN.out h hlt)
              have HNN := Lib.hid (fun (h : PL i = none) => fsO_no HN.out h)
              have HP1 := Lib.hid (HPL1.out i)
              have HP2 := Lib.hid (HPL2.out i)
              have HB1i := Lib.hid (fun w x hx h => HB1.out w i x hlt hx h)
              have HB2i := Lib.hid (fun w x hx h => HB2.out w i x hlt hx h)
              have HQ1i := Lib.hid (fun w x hx hb h => HQ1.out w i x hlt hx hb h)
              have HQ2i := Lib.hid (fun w x hx hb h => HQ2.out w i x hlt hx hb h)
              obtain ⟨c0, c1, c2, f0, f1, f2, hl1⟩ := HF.out.a.cells
              obtain ⟨d0, d1, d2, i0, i1, i2, hl2⟩ := HF.out.b.cells
              go_wp2_with fail
              obtain ⟨wo, hwo⟩ : ∃ wo, wo = wr := ⟨_, rfl⟩
              subst hwo
              go_loopw [69, 15] (fun q _ wr => ∃ x : Nat, x ≤ n ∧ q = .int .i64 (x : Int) ∧ Hid (fsO (mvO t (stOf n S R) (stOf m S2 R2) L M i) x = none) ∧ Hid (Fb w bA bB n S R m S2 R2 wr)) (fun q _ _ => n - (intOf q).toNat)
              case atStart => exact ⟨0, by omega, rfl, rfl, HF⟩
              case round =>
                clear HF c0 c1 c2 f0 f1 f2 hl1 d0 d1 d2 i0 i1 i2 hl2
                obtain ⟨x, hx, rfl, HNx, HF⟩ := hrel
                by_cases hlt2 : x < n
                · have hxI : (x : Int) < (n : Int) := by omega
                  obtain ⟨c0, c1, c2, f0, f1, f2, hl1⟩ := HF.out.a.cells
                  obtain ⟨d0, d1, d2, i0, i1, i2, hl2⟩ := HF.out.b.cells
                  have HBx := Lib.hid (HB1i.out wr x hlt2 (HT.out.below HF.out.old))
                  have HYx := Lib.hid (fun (h : beatA (stOf n S R) (stOf m S2 R2) t L M i x = true) => HNY.out _ (HP1.out _ (fsO_yes HNx.out (mvO_yes h) hlt2)))
                  have HNx2 := Lib.hid (fun (h : beatA (stOf n S R) (stOf m S2 R2) t L M i x = false) => fsO_no HNx.out (mvO_no h))
                  have HQx := Lib.hid (fun w hb h => HQ1i.out w x hlt2 hb h)
                  generalize beatA (stOf n S R) (stOf m S2 R2) t L M i x = bt at *
                  go_wp2_with fail
                  refine HBx.out.mono ?_; rintro e w3 ⟨rfl, hb3⟩
                  have HF3 := Lib.hid (HF.out.below hb3)
                  clear c0 c1 c2 f0 f1 f2 hl1 d0 d1 d2 i0 i1 i2 hl2 hb3 HF HBx
                  obtain ⟨c0, c1, c2, f0, f1, f2, hl1⟩ := HF3.out.a.cells
                  obtain ⟨d0, d1, d2, i0, i1, i2, hl2⟩ := HF3.out.b.cells
                  cases bt
                  · have HN3 := Lib.hid (HNx2.out rfl)
                    go_wp2_with fail
                    go_roundw
                    case rel => exact ⟨x + 1, by omega, by go_num, HN3, HF3⟩
                    case measure => simp [intOf]; omega
                  · have HY3 := Lib.hid (HYx.out rfl)
                    have HQ3 := Lib.hid (HQx.out w3 rfl (HT.out.below HF3.out.old))
                    have HE : Hid (quB ⟨#[83]⟩ i ((List.range m).map fun y : Nat => pebF t (stOf n S R) (stOf m S2 R2) (L.set i (x : Int)) (M.set i (y : Int))) = RES) := by
                      have h5 := HRE.out
                      have h6 : fsO PL k = some (quB ⟨#[83]⟩ i ((List.range m).map fun y : Nat => pebF t (stOf n S R) (stOf m S2 R2) (L.set i (x : Int)) (M.set i (y : Int)))) := HY3.out
                      rw [h6] at h5
                      exact h5
                    rw [HE.out] at HQ3
                    go_wp2_with fail
                    refine HQ3.out.mono ?_; rintro e w4 ⟨rfl, hb4⟩
                    have HF4 := Lib.hid (HF3.out.below hb4)
                    clear hb4
                    go_wp2_with fail
                    go_ret2
                    exact ⟨rfl, HF4.out.old⟩
                · obtain rfl : x = n := by omega
                  have HP2x := Lib.hid (HP2.out HNx.out)
                  obtain ⟨c0, c1, c2, f0, f1, f2, hl1⟩ := HF.out.a.cells
                  obtain ⟨d0, d1, d2, i0, i1, i2, hl2⟩ := HF.out.b.cells
                  go_wp2_with fail
                  obtain ⟨wo2, hwo2⟩ : ∃ wo, wo = wr := ⟨_, rfl⟩
                  subst hwo2
                  go_loopw [97, 16] (fun q _ wr => ∃ z : Nat, z ≤ m ∧ q = .int .i64 (z : Int) ∧ Hid (fsO (mvN t (stOf m S2 R2) (stOf x S R) M L i) z = none) ∧ Hid (Fb w bA bB x S R m S2 R2 wr)) (fun q _ _ => m - (intOf q).toNat)
                  case atStart => exact ⟨0, by omega, rfl, rfl, HF⟩
                  case round =>
                    clear HF c0 c1 c2 f0 f1 f2 hl1 d0 d1 d2 i0 i1 i2 hl2
                    obtain ⟨z, hz, rfl, HNz, HF⟩ := hrel
                    by_cases hlt3 : z < m
                    · have hzI : (z : Int) < (m : Int) := by omega
                      obtain ⟨c0, c1, c2, f0, f1, f2, hl1⟩ := HF.out.a.cells
                      obtain ⟨d0, d1, d2, i0, i1, i2, hl2⟩ := HF.out.b.cells
                      have HBz := Lib.hid (HB2i.out wr z hlt3 (HT.out.below HF.out.old))
                      have HYz := Lib.hid (fun (h : beatA (stOf m S2 R2) (stOf x S R) t M L i z = true) => HNY.out _ (HP2x.out.trans (fsO_yes HNz.out (mvN_yes h) hlt3)))
                      have HNz2 := Lib.hid (fun (h : beatA (stOf m S2 R2) (stOf x S R) t M L i z = false) => fsO_no HNz.out (mvN_no h))
                      have HQz := Lib.hid (fun w hb h => HQ2i.out w z hlt3 hb h)
                      generalize beatA (stOf m S2 R2) (stOf x S R) t M L i z = bt at *
                      go_wp2_with fail
                      refine HBz.out.mono ?_; rintro e w3 ⟨rfl, hb3⟩
                      have HF3 := Lib.hid (HF.out.below hb3)
                      clear c0 c1 c2 f0 f1 f2 hl1 d0 d1 d2 i0 i1 i2 hl2 hb3 HF HBz
                      obtain ⟨c0, c1, c2, f0, f1, f2, hl1⟩ := HF3.out.a.cells
                      obtain ⟨d0, d1, d2, i0, i1, i2, hl2⟩ := HF3.out.b.cells
                      cases bt
                      · have HN3 := Lib.hid (HNz2.out rfl)
                        go_wp2_with fail
                        go_roundw
                        case rel => exact ⟨z + 1, by omega, by go_num, HN3, HF3⟩
                        case measure => simp [intOf]; omega
                      · have HY3 := Lib.hid (HYz.out rfl)
                        have HQ3 := Lib.hid (HQz.out w3 rfl (HT.out.below HF3.out.old))
                        have HE : Hid (quB ⟨#[33, 83]⟩ i ((List.range x).map fun y : Nat => pebF t (stOf m S2 R2) (stOf x S R) (M.set i (z : Int)) (L.set i (y : Int))) = RES) := by
                          have h5 := HRE.out
                          have h6 : fsO PL k = some (quB ⟨#[33, 83]⟩ i ((List.range x).map fun y : Nat => pebF t (stOf m S2 R2) (stOf x S R) (M.set i (z : Int)) (L.set i (y : Int)))) := HY3.out
                          rw [h6] at h5
                          exact h5
                        rw [HE.out] at HQ3
                        go_wp2_with fail
                        refine HQ3.out.mono ?_; rintro e w4 ⟨rfl, hb4⟩
                        have HF4 := Lib.hid (HF3.out.below hb4)
                        clear hb4
                        go_wp2_with fail
                        go_ret2
                        exact ⟨rfl, HF4.out.old⟩
                    · obtain rfl : z = m := by omega
                      have HN3 := Lib.hid (HNN.out (HP2x.out.trans HNz.out))
                      go_wp2_with fail
                      go_roundw
                      case rel => exact ⟨i + 1, by omega, by go_num, HN3, HF⟩
                      case measure => simp [intOf]; omega
            · obtain rfl : i = k := by omega
              exfalso
              have h7 := HN.out
              rw [HSV.out] at h7
              cases h7
theorem formula_any : ∀ t, t ≤ 3 → FormOK t
  | 0, _ => formula_zero
  | t + 1, h => formula_step t (formula_any t (by omega))
end Go.Proofs.YtnhlhjehocngcaaGreatDoor

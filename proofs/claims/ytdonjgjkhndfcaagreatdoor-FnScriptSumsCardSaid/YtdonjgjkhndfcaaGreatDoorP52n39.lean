/- Contracts of the program's functions and what they compute: part 39. Conditions: those that each theorem states. -/
import Derived.Test.YtdonjgjkhndfcaaGreatDoorP52n38
namespace Go.Proofs.YtdonjgjkhndfcaaGreatDoor
open Go.RowKit
set_option linter.unusedVariables false
set_option maxRecDepth 100000
set_option maxHeartbeats 4000000 in
theorem l10Small_any (b K : Nat) (w : World) (h : RdB w b K) (hk : K < 10000000000) :
    Calls Tryz.prog 40 #[.pointer (some ⟨b, 0, none⟩)] w fun e w' => ∃ n : Nat, 1 ≤ n ∧ n ≤ 5 ∧ StrD b (K + 61) (n : Int) n (n * n) w e w' := by
  have hb := h.block
  have HB0 : Hid (Below w.heap.size w (w.alloc (.cells #[.int .i64 0, .string ⟨#[]⟩, .string ⟨#[]⟩] 24))) := (Below.refl _ _).alloc (Nat.le_refl _) _
  have HB1 : Hid (SBlk (w.alloc (.cells #[.int .i64 0, .string ⟨#[]⟩, .string ⟨#[]⟩] 24)) w.heap.size 0 ⟨#[]⟩ ⟨#[]⟩) := SBlk.new w 0 ⟨#[]⟩ ⟨#[]⟩
  have HR := Lib.hid (rdB_bel h HB0.out)
  clear h
  obtain ⟨W, hW⟩ : ∃ W, w.alloc (.cells #[.int .i64 0, .string ⟨#[]⟩, .string ⟨#[]⟩] 24) = W := ⟨_, rfl⟩
  have HN := Lib.hid (fun T => num_list W b K [2, 3, 1, 2, 4] T (hW ▸ HR.out) (by omega) (by decide) (by decide))
  have hz : w.heap.size + 1 = W.heap.size := by rw [← hW]; simp
  rw [hW] at HB0 HB1 HR
  have HWW := Lib.hid hW
  have HZ := Lib.hid hz
  clear hW hz
  go_enter Tryz.func40, Tryz.ntmps40
  go_wp2_with fail
  rw [HWW.out, HZ.out]
  refine (HN.out _).mono ?_; rintro e w1 ⟨v, hv, rfl, hr, hg⟩
  have hv' : ∃ n : Nat, v = (n : Int) ∧ 1 ≤ n ∧ n ≤ 5 := by
    simp at hv
    rcases hv with rfl | rfl | rfl | rfl | rfl
    · exact ⟨2, rfl, by omega, by omega⟩
    · exact ⟨3, rfl, by omega, by omega⟩
    · exact ⟨1, rfl, by omega, by omega⟩
    · exact ⟨2, rfl, by omega, by omega⟩
    · exact ⟨4, rfl, by omega, by omega⟩
  obtain ⟨n, rfl, n1, n5⟩ := hv'
  clear hv
  have HR1 := Lib.hid hr
  have HG1 := Lib.hid hg
  clear hr hg
  go_wp2_with fail
  refine (l1Draw_any b (K + 1) n n1 n5 w1 HR1.out (by omega)).mono ?_; rintro e w2 ⟨S, R, hS, hR, rfl, hr, hg⟩
  have HR2 := Lib.hid hr
  have HG2 := Lib.hid (HG1.out.trans hg)
  have HX : Hid (SBlk w2 w.heap.size 0 ⟨#[]⟩ ⟨#[]⟩) := (HG2.out.block w.heap.size HB1.out.cells.2.2.2.2.2.2 (by intro e; injection e; omega)).trans HB1.out
  clear hr hg
  obtain ⟨d0, d1, d2, g0, g1, g2, hbc⟩ := HX.out.cells
  have HP : Hid (RdB (((w2.setCell ⟨w.heap.size, 0, none⟩ (.int .i64 (n : Int))).setCell ⟨w.heap.size, 1, none⟩ (.string S)).setCell ⟨w.heap.size, 2, none⟩ (.string R)) b (K + 61) ∧ w.grownBy (((w2.setCell ⟨w.heap.size, 0, none⟩ (.int .i64 (n : Int))).setCell ⟨w.heap.size, 1, none⟩ (.string S)).setCell ⟨w.heap.size, 2, none⟩ (.string R)) (some b)) :=
    ⟨rdB_set (rdB_set (rdB_set (HR2.out.mono (by omega)) hb) hb) hb, grown_setS (grown_setS (grown_setS ((grown_belowS HB0.out).trans HG2.out) (Nat.le_refl _)) (Nat.le_refl _)) (Nat.le_refl _)⟩
  unfold strV
  go_wp2_with fail
  refine bodyPost_ret (v := strV n S R) ?_ rfl ⟨n, n1, n5, S, R, hS, hR, rfl, HP.out.1, HP.out.2⟩
  exact results_str rfl rfl HX.out.set3
theorem results_two10 {fn : Func} {p q : Tmp} (h : fn.results = #[.cell p 24, .cell q 24]) {tmps : Array Value} {w : World} {b c : Nat} {n m : Int} {S R T U : ByteArray} (hp : tmps.getD p undef = .pointer (some ⟨b, 0, none⟩)) (hb : SBlk w b n S R) (hq : tmps.getD q undef = .pointer (some ⟨c, 0, none⟩)) (hc : SBlk w c m T U) :
    (results fn tmps).run Tryz.prog w = .ok (.tuple #[strV n S R, strV m T U]) w := by
  have hl := run_loadVar_row (P := Tryz.prog) w b 24 24 #[.int .i64 n, .string S, .string R] (0, 0) _ hb Tryz.underlying24 rfl strInfo
  have hl2 := run_loadVar_row (P := Tryz.prog) w c 24 24 #[.int .i64 m, .string T, .string U] (0, 0) _ hc Tryz.underlying24 rfl strInfo
  have hp' : tmps[p]?.getD undef = .pointer (some ⟨b, 0, none⟩) := by simpa using hp
  have hq' : tmps[q]?.getD undef = .pointer (some ⟨c, 0, none⟩) := by simpa using hq
  simp [results, h, hp', hq', asAddr, Sem.run_bind, Result.andThen, hl, hl2, strV]
/-- The reader, the results' boxes, and the drawn structures' boxes. -/
structure Lp (w : World) (b K x y : Nat) (n : Int) (S R : ByteArray) (m : Int) (T U : ByteArray) (wr : World) : Prop where
  rd : RdB wr b K
  r1 : SBlk wr w.heap.size 0 ⟨#[]⟩ ⟨#[]⟩
  r2 : SBlk wr (w.heap.size + 1) 0 ⟨#[]⟩ ⟨#[]⟩
  a : SBlk wr x n S R
  c : SBlk wr y m T U
  ne : b < w.heap.size ∧ w.heap.size + 1 < x ∧ x < y
  old : w.grownBy wr (some b)
section
variable {w wr w' : World} {b K K' x y : Nat} {n m : Int} {S R T U : ByteArray}
theorem SBlk.grow10 {w w' : World} {b g : Nat} {n : Int} {S R : ByteArray} (h : SBlk w g n S R) (hg : w.grownBy w' (some b)) (hne : g ≠ b) : SBlk w' g n S R :=
  (hg.block g h.cells.2.2.2.2.2.2 (by intro e; injection e with e; exact hne (by omega))).trans h
theorem Lp.pick (h : Lp w b K x y n S R m T U wr) (hr : RdB w' b K') (hg : wr.grownBy w' (some b)) : Lp w b K' x y n S R m T U w' := by
  have hne := h.ne
  exact ⟨hr, h.r1.grow10 hg (by omega), h.r2.grow10 hg (by omega), h.a.grow10 hg (by omega), h.c.grow10 hg (by omega), h.ne, h.old.trans hg⟩
theorem Lp.below (h : Lp w b K x y n S R m T U wr) (hb : Below wr.heap.size wr w') : Lp w b K x y n S R m T U w' := h.pick (rdB_bel h.rd hb) (grown_belowS hb)
theorem Lp.drew (h : Lp w b K x y n S R m T U wr) : Lp w b K x y n S R m T U wr.drew := h.below (Below.refl _ _).drew
theorem Lp.mono (h : Lp w b K x y n S R m T U wr) (hK : K ≤ K') : Lp w b K' x y n S R m T U wr := ⟨h.rd.mono hK, h.r1, h.r2, h.a, h.c, h.ne, h.old⟩
theorem Lp.setC (h : Lp w b K x y n S R m T U wr) (m' : Int) (T' U' : ByteArray) : Lp w b K x y n S R m' T' U' (((wr.setCell ⟨y, 0, none⟩ (.int .i64 m')).setCell ⟨y, 1, none⟩ (.string T')).setCell ⟨y, 2, none⟩ (.string U')) := by
  have hne := h.ne
  refine ⟨rdB_set (rdB_set (rdB_set h.rd (by omega)) (by omega)) (by omega), ((h.r1.far (by simp; omega) _).far (by simp; omega) _).far (by simp; omega) _, ((h.r2.far (by simp; omega) _).far (by simp; omega) _).far (by simp; omega) _, ((h.a.far (by simp; omega) _).far (by simp; omega) _).far (by simp; omega) _, h.c.set3, h.ne, grown_setS (grown_setS (grown_setS h.old (by omega)) (by omega)) (by omega)⟩
theorem Lp.fin (h : Lp w b K x y n S R m T U wr) (n1 : Int) (S1 R1 : ByteArray) (m1 : Int) (T1 U1 : ByteArray) :
    SBlk ((((((wr.setCell ⟨w.heap.size, 0, none⟩ (.int .i64 n1)).setCell ⟨w.heap.size, 1, none⟩ (.string S1)).setCell ⟨w.heap.size, 2, none⟩ (.string R1)).setCell ⟨w.heap.size + 1, 0, none⟩ (.int .i64 m1)).setCell ⟨w.heap.size + 1, 1, none⟩ (.string T1)).setCell ⟨w.heap.size + 1, 2, none⟩ (.string U1)) w.heap.size n1 S1 R1 ∧
    SBlk ((((((wr.setCell ⟨w.heap.size, 0, none⟩ (.int .i64 n1)).setCell ⟨w.heap.size, 1, none⟩ (.string S1)).setCell ⟨w.heap.size, 2, none⟩ (.string R1)).setCell ⟨w.heap.size + 1, 0, none⟩ (.int .i64 m1)).setCell ⟨w.heap.size + 1, 1, none⟩ (.string T1)).setCell ⟨w.heap.size + 1, 2, none⟩ (.string U1)) (w.heap.size + 1) m1 T1 U1 ∧
    RdB ((((((wr.setCell ⟨w.heap.size, 0, none⟩ (.int .i64 n1)).setCell ⟨w.heap.size, 1, none⟩ (.string S1)).setCell ⟨w.heap.size, 2, none⟩ (.string R1)).setCell ⟨w.heap.size + 1, 0, none⟩ (.int .i64 m1)).setCell ⟨w.heap.size + 1, 1, none⟩ (.string T1)).setCell ⟨w.heap.size + 1, 2, none⟩ (.string U1)) b K ∧
    w.grownBy ((((((wr.setCell ⟨w.heap.size, 0, none⟩ (.int .i64 n1)).setCell ⟨w.heap.size, 1, none⟩ (.string S1)).setCell ⟨w.heap.size, 2, none⟩ (.string R1)).setCell ⟨w.heap.size + 1, 0, none⟩ (.int .i64 m1)).setCell ⟨w.heap.size + 1, 1, none⟩ (.string T1)).setCell ⟨w.heap.size + 1, 2, none⟩ (.string U1)) (some b) := by
  have hne := h.ne
  refine ⟨((h.r1.set3.far (by simp) _).far (by simp) _).far (by simp) _, (((h.r2.far (by simp) _).far (by simp) _).far (by simp) _).set3, ?_, ?_⟩
  · exact rdB_set (rdB_set (rdB_set (rdB_set (rdB_set (rdB_set h.rd (by omega)) (by omega)) (by omega)) (by omega)) (by omega)) (by omega)
  · exact grown_setS (grown_setS (grown_setS (grown_setS (grown_setS (grown_setS h.old (Nat.le_refl _)) (Nat.le_refl _)) (Nat.le_refl _)) (Nat.le_succ _)) (Nat.le_succ _)) (Nat.le_succ _)
end
/-- Two structures that are drawn, sometimes not valid. -/
def PairD (b K : Nat) (w : World) (e : Ending) (w' : World) : Prop := ∃ (n : Int) (S R : ByteArray) (m : Int) (T U : ByteArray), (-1 ≤ n ∧ n ≤ 9223372036854775807) ∧ (S.size ≤ 10 ∧ R.size ≤ 100) ∧ (-1 ≤ m ∧ m ≤ 9223372036854775807) ∧ (T.size ≤ 10 ∧ U.size ≤ 100) ∧ e = .returned (.tuple #[strV n S R, strV m T U]) ∧ RdB w' b K ∧ w.grownBy w' (some b)
set_option maxHeartbeats 8000000 in
theorem l10Pair_any (b K : Nat) (w : World) (h : RdB w b K) (hk : K < 1000000) :
    Calls Tryz.prog 17 #[.pointer (some ⟨b, 0, none⟩)] w (PairD b (K + 300) w) := by
  have hb := h.block
  obtain ⟨W, hW⟩ : ∃ W, (w.alloc (.cells #[.int .i64 0, .string ⟨#[]⟩, .string ⟨#[]⟩] 24)).alloc (.cells #[.int .i64 0, .string ⟨#[]⟩, .string ⟨#[]⟩] 24) = W := ⟨_, rfl⟩
  have HB0 : Hid (Below w.heap.size w W ∧ SBlk W w.heap.size 0 ⟨#[]⟩ ⟨#[]⟩ ∧ SBlk W (w.heap.size + 1) 0 ⟨#[]⟩ ⟨#[]⟩ ∧ W.heap.size = w.heap.size + 2) := by
    subst hW
    have h1 : Below w.heap.size w (w.alloc (.cells #[.int .i64 0, .string ⟨#[]⟩, .string ⟨#[]⟩] 24)) := (Below.refl _ _).alloc (Nat.le_refl _) _
    have h2 := SBlk.new (w.alloc (.cells #[.int .i64 0, .string ⟨#[]⟩, .string ⟨#[]⟩] 24)) 0 ⟨#[]⟩ ⟨#[]⟩
    rw [World.size_alloc] at h2
    refine ⟨h1.alloc h1.size _, (SBlk.new w 0 ⟨#[]⟩ ⟨#[]⟩).below ((Below.refl _ _).alloc (Nat.le_refl _) _) (by simp), h2, by simp⟩
  have HR := Lib.hid (rdB_bel h HB0.out.1)
  have HW := Lib.hid hW
  clear h hW
  go_enter Tryz.func17, Tryz.ntmps17
  go_upto_region 1 with fail
  rw [HW.out]
  go_wp2_with fail
  refine (l10Small_any b K W HR.out (by omega)).mono ?_; rintro e w1 ⟨n, n1, n5, S, R, hS, hR, rfl, hr, hg⟩
  have hal : Below w1.heap.size w1 (w1.alloc (.cells #[.int .i64 (n : Int), .string S, .string R] 24)) := (Below.refl _ _).alloc (Nat.le_refl _) _
  obtain ⟨W2, hW2⟩ : ∃ W, w1.alloc (.cells #[.int .i64 (n : Int), .string S, .string R] 24) = W := ⟨_, rfl⟩
  have HP2 : Hid (RdB W2 b (K + 61) ∧ SBlk W2 w.heap.size 0 ⟨#[]⟩ ⟨#[]⟩ ∧ SBlk W2 (w.heap.size + 1) 0 ⟨#[]⟩ ⟨#[]⟩ ∧ SBlk W2 w1.heap.size (n : Int) S R ∧ w.grownBy W2 (some b) ∧ w.heap.size + 1 < w1.heap.size ∧ w1.heap.size < W2.heap.size) := by
    rw [← hW2]
    have hs := hg.size
    have h3 := HB0.out.2.2.2
    refine ⟨rdB_bel hr hal, (HB0.out.2.1.grow10 hg (by omega)).below hal (by omega), (HB0.out.2.2.1.grow10 hg (by omega)).below hal (by omega), SBlk.new w1 _ S R, ((grown_belowS (row := some b) HB0.out.1).trans hg).trans (grown_belowS hal), by omega, by simp⟩
  have HW2 := Lib.hid hW2
  clear hr hg hal hW2 HB0 HR HW
  unfold strV
  go_upto_region 2 with fail
  rw [HW2.out]
  generalize w1.heap.size = x4 at *
  clear HW2
  go_wp2_with fail
  refine (l10Small_any b (K + 61) W2 HP2.out.1 (by omega)).mono ?_; rintro e w3 ⟨m, m1, m5, T, U, hT, hU, rfl, hr, hg⟩
  have hal : Below w3.heap.size w3 (w3.alloc (.cells #[.int .i64 (m : Int), .string T, .string U] 24)) := (Below.refl _ _).alloc (Nat.le_refl _) _
  obtain ⟨W4, hW4⟩ : ∃ W, w3.alloc (.cells #[.int .i64 (m : Int), .string T, .string U] 24) = W := ⟨_, rfl⟩
  have HP4 : Hid (Lp w b (K + 122) x4 w3.heap.size (n : Int) S R (m : Int) T U W4) := by
    rw [← hW4]
    have hs := hg.size
    obtain ⟨p1, p2, p3, p4, p5, p6, p7⟩ := HP2.out
    have l2 := p2.cells.2.2.2.2.2.2
    have l3 := p3.cells.2.2.2.2.2.2
    exact ⟨rdB_bel hr hal, (p2.grow10 hg (by omega)).below hal (by omega), (p3.grow10 hg (by omega)).below hal (by omega), (p4.grow10 hg (by omega)).below hal (by omega), SBlk.new w3 _ T U, ⟨hb, p6, by omega⟩, (p5.trans hg).trans (grown_belowS hal)⟩
  have HW4 := Lib.hid hW4
  clear hr hg hal hW4 HP2
  unfold strV
  go_upto_region 3 with fail
  rw [HW4.out]
  generalize w3.heap.size = x5 at *
  clear HW4
  go_wp2_with fail
  refine (pickB _ b _ _ HP4.out.rd (by omega) (by omega) (by omega)).mono ?_; rintro e w5 ⟨v, rfl, v0, v1, hr, hg⟩
  have HP5 := Lib.hid (HP4.out.pick hr hg)
  clear hr hg HP4
  have hne := HP5.out.ne
  go_upto_if 12 with fail
  go_cut [4, 5] (fun p q wx => ∃ (k : Nat) (T U : ByteArray), p = .pointer (some ⟨x4, 0, none⟩) ∧ q = .pointer (some ⟨x5, 0, none⟩) ∧ 1 ≤ k ∧ k ≤ 5 ∧ T.size = k ∧ U.size = k * k ∧ Hid (Lp w b (K + 200) x4 x5 (n : Int) S R (k : Int) T U wx))
  case first =>
    by_cases hv0 : v = 0
    · subst hv0
      go_wp2_with fail
      refine (l1Some_any b _ _ HP5.out.rd (by omega)).mono ?_; rintro e w6 ⟨k, k1, k5, T2, U2, hT2, hU2, rfl, hr, hg⟩
      have HP6 := Lib.hid (HP5.out.pick hr hg)
      clear hr hg
      obtain ⟨e0, e1, e2, h0, h1, h2, hl⟩ := HP6.out.c.cells
      have HP7 := Lib.hid (HP6.out.setC (k : Int) T2 U2)
      unfold strV
      go_wp2_with fail
      go_meet
      exact ⟨k, T2, U2, rfl, rfl, k1, k5, hT2, hU2, HP7.out.mono (by omega)⟩
    · have hvB : (v == 0) = false := by simpa using hv0
      go_wp2_with fail
      go_meet
      exact ⟨m, T, U, rfl, rfl, m1, m5, hT, hU, HP5.out.mono (by omega)⟩
  case rest =>
    clear hT hU HP5
    obtain ⟨k, T2, U2, rfl, rfl, k1, k5, hT2, hU2, HP⟩ := hcut
    have HBA := Lib.hid (fun W hr => l1Bad_any b (K + 200) n S R n1 n5 hS hR W hr (by omega))
    have HBC := Lib.hid (fun W hr => l1Bad_any b (K + 200 + 2) k T2 U2 k1 k5 hT2 hU2 W hr (by omega))
    obtain ⟨c0, c1, c2, f0, f1, f2, hl⟩ := HP.out.a.cells
    obtain ⟨e0, e1, e2, h0, h1, h2, hl3⟩ := HP.out.c.cells
    obtain ⟨g0, g1, g2, i0, i1, i2, hl1⟩ := HP.out.r1.cells
    obtain ⟨k0, k1', k2, j0, j1, j2, hl2⟩ := HP.out.r2.cells
    have hx0 : w.heap.size ≠ x4 := by omega
    have hx1 : w.heap.size + 1 ≠ x4 := by omega
    have hx2 : w.heap.size ≠ x5 := by omega
    have hx3 : w.heap.size + 1 ≠ x5 := by omega
    clear hS hR hT2 hU2
    unfold strV at HBA HBC
    go_upto_region 5 with fail
    go_region_held3 (fun w' => (w'.cell? ⟨x4, 0, none⟩ = some (.int .i64 (n : Int)) ∧ w'.cell? ⟨x4, 1, none⟩ = some (.string S) ∧ w'.cell? ⟨x4, 2, none⟩ = some (.string R)) ∧ (w'.cell? ⟨x5, 0, none⟩ = some (.int .i64 (k : Int)) ∧ w'.cell? ⟨x5, 1, none⟩ = some (.string T2) ∧ w'.cell? ⟨x5, 2, none⟩ = some (.string U2)))
      (go_keep)
      (first
        | (go_at_call 43; with_reducible refine (HBA.out _ HP.out.drew.rd).mono ?_; rintro e w6 hpo; unfold StrO at hpo; obtain ⟨n', S', R', q0, q1, z1, z2, he, hr, hg⟩ := hpo; subst he; have HP6 := Lib.hid (HP.out.drew.pick hr hg); clear hr hg c0 c1 c2 f0 f1 f2 hl e0 e1 e2 h0 h1 h2 hl3 g0 g1 g2 i0 i1 i2 hl1 k0 k1' k2 j0 j1 j2 hl2; obtain ⟨c0, c1, c2, f0, f1, f2, hl⟩ := HP6.out.a.cells; obtain ⟨e0, e1, e2, h0, h1, h2, hl3⟩ := HP6.out.c.cells; obtain ⟨g0, g1, g2, i0, i1, i2, hl1⟩ := HP6.out.r1.cells; obtain ⟨k0, k1', k2, j0, j1, j2, hl2⟩ := HP6.out.r2.cells; unfold strV)
        | (go_at_call 43; with_reducible refine (HBC.out _ HP6.out.rd).mono ?_; rintro e w7 hpo; unfold StrO at hpo; obtain ⟨m', T', U', q2, q3, z3, z4, he, hr, hg⟩ := hpo; subst he; have HP7 := Lib.hid (HP6.out.pick hr hg); clear hr hg c0 c1 c2 f0 f1 f2 hl e0 e1 e2 h0 h1 h2 hl3 g0 g1 g2 i0 i1 i2 hl1 k0 k1' k2 j0 j1 j2 hl2; obtain ⟨c0, c1, c2, f0, f1, f2, hl⟩ := HP7.out.a.cells; obtain ⟨e0, e1, e2, h0, h1, h2, hl3⟩ := HP7.out.c.cells; obtain ⟨g0, g1, g2, i0, i1, i2, hl1⟩ := HP7.out.r1.cells; obtain ⟨k0, k1', k2, j0, j1, j2, hl2⟩ := HP7.out.r2.cells; unfold strV))
    all_goals
      have HF := Lib.hid ((HP7.out.mono (K' := K + 300) (by omega)).fin n' S' R' m' T' U')
      go_wp2_with fail
      refine bodyPost_ret (v := .tuple #[strV n' S' R', strV m' T' U']) ?_ rfl ⟨n', S', R', m', T', U', ⟨q0, q1⟩, ⟨z1, z2⟩, ⟨q2, q3⟩, ⟨z3, z4⟩, rfl, HF.out.2.2.1, HF.out.2.2.2⟩
      exact results_two10 rfl rfl HF.out.1 rfl HF.out.2.1
/-- Two structures that are drawn, for the law that opened the bytes. -/
def DrawSm (w : World) (e : Ending) (w' : World) : Prop := ∃ (n : Int) (S R : ByteArray) (m : Int) (T U : ByteArray), (-1 ≤ n ∧ n ≤ 9223372036854775807) ∧ (S.size ≤ 10 ∧ R.size ≤ 100) ∧ (-1 ≤ m ∧ m ≤ 9223372036854775807) ∧ (T.size ≤ 10 ∧ U.size ≤ 100) ∧ e = .returned (.tuple #[strV n S R, strV m T U]) ∧ Below w.heap.size w w'
set_option maxHeartbeats 4000000 in
theorem DrawDisjointSum_any (w : World) (a : Option Addr) (len cap : Nat) (zs : List Int) (h : IsRow .u8 w a len cap zs) :
    Calls Tryz.prog 4 #[.slice a len cap] w (DrawSm w) := by
  obtain ⟨W, hW⟩ : ∃ W, (w.alloc (.cells #[.int .i64 0, .string ⟨#[]⟩, .string ⟨#[]⟩] 24)).alloc (.cells #[.int .i64 0, .string ⟨#[]⟩, .string ⟨#[]⟩] 24) = W := ⟨_, rfl⟩
  have HB0 : Hid (Below w.heap.size w W ∧ SBlk W w.heap.size 0 ⟨#[]⟩ ⟨#[]⟩ ∧ SBlk W (w.heap.size + 1) 0 ⟨#[]⟩ ⟨#[]⟩ ∧ W.heap.size = w.heap.size + 2) := by
    subst hW
    have h1 : Below w.heap.size w (w.alloc (.cells #[.int .i64 0, .string ⟨#[]⟩, .string ⟨#[]⟩] 24)) := (Below.refl _ _).alloc (Nat.le_refl _) _
    have h2 := SBlk.new (w.alloc (.cells #[.int .i64 0, .string ⟨#[]⟩, .string ⟨#[]⟩] 24)) 0 ⟨#[]⟩ ⟨#[]⟩
    rw [World.size_alloc] at h2
    refine ⟨h1.alloc h1.size _, (SBlk.new w 0 ⟨#[]⟩ ⟨#[]⟩).below ((Below.refl _ _).alloc (Nat.le_refl _) _) (by simp), h2, by simp⟩
  have H := Lib.hid (h.below HB0.out.1)
  have HW := Lib.hid hW
  clear h hW
  go_enter Tryz.func4, Tryz.ntmps4
  go_upto_region 1 with fail
  rw [HW.out]
  go_wp2_with fail
  refine (l15Open_any _ _ _ _ _ H.out).mono ?_; rintro e w1 ⟨rfl, hr, hb, hs⟩
  have HR1 := Lib.hid hr
  have HB1 : Hid (Below w.heap.size w w1 ∧ SBlk w1 w.heap.size 0 ⟨#[]⟩ ⟨#[]⟩ ∧ SBlk w1 (w.heap.size + 1) 0 ⟨#[]⟩ ⟨#[]⟩ ∧ w.heap.size + 1 < W.heap.size) := by
    have h3 := HB0.out.2.2.2
    exact ⟨HB0.out.1.trans (hb.mono HB0.out.1.size), HB0.out.2.1.below hb (by omega), HB0.out.2.2.1.below hb (by omega), by omega⟩
  clear hr hb hs HB0 HW
  generalize W.heap.size = b at *
  go_wp2_with fail
  refine (l10Pair_any b _ w1 HR1.out (by omega)).mono ?_; rintro e w2 ⟨n, S, R, m, T, U, hn, hS, hm, hT, rfl, hr, hg⟩
  have HB2 : Hid (SBlk w2 w.heap.size 0 ⟨#[]⟩ ⟨#[]⟩ ∧ SBlk w2 (w.heap.size + 1) 0 ⟨#[]⟩ ⟨#[]⟩ ∧ Below w.heap.size w w2) := by
    obtain ⟨p1, p2, p3, p4⟩ := HB1.out
    exact ⟨p2.grow10 hg (by omega), p3.grow10 hg (by omega), p1.grown hg p1.size (fun k hk => by injection hk with hk; omega)⟩
  clear hr hg HB1 HR1 H
  obtain ⟨g0, g1, g2, i0, i1, i2, hl1⟩ := HB2.out.1.cells
  obtain ⟨k0, k1', k2, j0, j1, j2, hl2⟩ := HB2.out.2.1.cells
  unfold strV
  go_wp2_with fail
  refine bodyPost_ret (v := .tuple #[strV n S R, strV m T U]) ?_ rfl ⟨n, S, R, m, T, U, hn, hS, hm, hT, rfl, ?_⟩
  · exact results_two10 rfl rfl (((HB2.out.1.set3.far (by simp) _).far (by simp) _).far (by simp) _) rfl (((HB2.out.2.1.far (by simp) _).far (by simp) _).far (by simp) _).set3
  · exact (((((HB2.out.2.2.setCell (Nat.le_refl _) _).setCell (Nat.le_refl _) _).setCell (Nat.le_refl _) _).setCell (Nat.le_succ _) _).setCell (Nat.le_succ _) _).setCell (Nat.le_succ _) _
end Go.Proofs.YtdonjgjkhndfcaaGreatDoor

/- Contracts of the program's functions and what they compute: part 11. Conditions: those that each theorem states. -/
import Derived.Test.YtofmagiahmmmgaaGreatDoorP53n10
namespace Go.Proofs.YtofmagiahmmmgaaGreatDoor
open Go.RowKit
set_option linter.unusedVariables false
set_option maxRecDepth 100000
/-- The two slices of bools that answered fills. -/
structure Anw (w : World) (rg cg : Nat) (A B : List Bool) (wr : World) : Prop where
  r : wr.heap[rg]? = some (.cells (boolC A) 4 (0, 0))
  c : wr.heap[cg]? = some (.cells (boolC B) 4 (0, 0))
  ne : rg ≠ cg
  lr : w.heap.size ≤ rg
  lc : w.heap.size ≤ cg
  old : Below w.heap.size w wr
section
variable {w wr w' : World} {rg cg : Nat} {A B : List Bool}
theorem Anw.setR (h : Anw w rg cg A B wr) (k : Nat) (b : Bool) : Anw w rg cg (A.set k b) B (wr.setCell ⟨rg, k, none⟩ (.bool b)) :=
  ⟨boolC_set h.r k b, (Below.heap_setCell wr ⟨rg, k, none⟩ (.bool b) cg (by have := h.ne; simp; omega)).trans h.c, h.ne, h.lr, h.lc, h.old.setCell (by have := h.lr; simp; omega) _⟩
theorem Anw.swap (h : Anw w rg cg A B wr) : Anw w cg rg B A wr := ⟨h.c, h.r, fun e => h.ne e.symm, h.lc, h.lr, h.old⟩
theorem Anw.setC (h : Anw w rg cg A B wr) (k : Nat) (b : Bool) : Anw w rg cg A (B.set k b) (wr.setCell ⟨cg, k, none⟩ (.bool b)) := (h.swap.setR k b).swap
theorem Anw.drewN (h : Anw w rg cg A B wr) (n : Nat) : Anw w rg cg A B (wr.drewN n) := ⟨h.r, h.c, h.ne, h.lr, h.lc, below_drewQ h.old n⟩
theorem Anw.boolsR (h : Anw w rg cg A B wr) (n : Nat) (hm : n ≤ maxLen) (hn : A.length = n) : BoolsAt wr (.slice (some ⟨rg, 0, none⟩) n n) A := by
  subst hn
  exact ⟨rg, A.length, rfl, Nat.le_refl _, hm, (Array.getElem?_eq_some_iff.1 h.r).1, fun j hj => (boolC_cell h.r j hj).1⟩
end
set_option maxHeartbeats 4000000 in
theorem answered_any (p n m k : Nat) (S R S2 R2 : ByteArray) (fv wv : Value) (W : List Bool) (rest step : Nat) (w : World) (hG : PebG w p n S R m S2 R2 k fv wv) (hW : BoolsAt w wv W) (hn : n ≤ 8) (hm : m ≤ 8) (hn0 : 1 ≤ n) (hm0 : 1 ≤ m)
    (hi : rest + step * (n * m) < W.length) (hl : W.length ≤ 1000000) :
    Calls Tryz.prog 57 #[.pointer (some ⟨p, 0, none⟩), .int .i64 (rest : Int), .int .i64 (step : Int)] w fun e w' => e = .returned (.bool (ansB n m W rest step)) ∧ Below w.heap.size w w' := by
  have hplt := hG.lt
  obtain ⟨c0, c3, c6, c7, c8, c9, c10, c11, c12⟩ := hG.cells
  obtain ⟨wg, wc, rfl, hw1, hw2, hwg, hw3⟩ := hW
  unfold maxLen at hw2
  have HWC := Lib.hid hw3
  have HCF := Lib.hid (fun v L w hv => contains_false v L w hv)
  obtain ⟨RES, hres⟩ : ∃ r, ansB n m W rest step = r := ⟨_, rfl⟩
  have HRES := Lib.hid hres
  rw [hres]
  have HI : Hid (∀ x y, x < n → y < m → rest + step * (1 + x * m + y) < W.length ∧ x * m ≤ 64) := fun x y hx hy => by
    have h1 := pairs_lt hx hy
    have h2 : step * (1 + x * m + y) ≤ step * (n * m) := Nat.mul_le_mul_left _ (by omega)
    have h3 := Nat.mul_le_mul hn hm
    omega
  have hmkn : ∀ w, (Instr.makeSlice 54 (.int .i64 (n : Int)) (.int .i64 (n : Int))).run Tryz.prog w = .ok (.slice (some ⟨w.heap.size, 0, none⟩) n n) (w.alloc (.cells (boolC (List.replicate n false)) 4)) := fun w => make_bools n hn0 hn w
  have hmkm : ∀ w, (Instr.makeSlice 54 (.int .i64 (m : Int)) (.int .i64 (m : Int))).run Tryz.prog w = .ok (.slice (some ⟨w.heap.size, 0, none⟩) m m) (w.alloc (.cells (boolC (List.replicate m false)) 4)) := fun w => make_bools m hm0 hm w
  have HA1 : Hid (Anw w w.heap.size (w.heap.size + 1) (rowsL n m (fW m W rest step) 0 0) (colsL n m (fW m W rest step) 0 0) (((w.alloc (.cells (boolC (List.replicate n false)) 4)).alloc (.cells (boolC (List.replicate m false)) 4)).drew)) := by
    rw [rows_start, cols_start]
    refine ⟨(Below.heap_alloc _ _ _ (by simp)).trans (heap_alloc_new w _), ?_, by omega, by omega, by omega, (((Below.refl _ _).alloc (Nat.le_refl _) _).alloc (by simp) _).drew⟩
    have := heap_alloc_new (w.alloc (.cells (boolC (List.replicate n false)) 4)) (.cells (boolC (List.replicate m false)) 4)
    rw [show (w.alloc (.cells (boolC (List.replicate n false)) 4)).heap.size = w.heap.size + 1 by simp] at this
    exact this
  have HA2 : Hid (Anw w (w.heap.size + 1) w.heap.size (rowsL n m (fW m W rest step) 0 0) (colsL n m (fW m W rest step) 0 0) (((w.alloc (.cells (boolC (List.replicate m false)) 4)).alloc (.cells (boolC (List.replicate n false)) 4)).drew)) := by
    rw [rows_start, cols_start]
    refine ⟨?_, (Below.heap_alloc _ _ _ (by simp)).trans (heap_alloc_new w _), by omega, by omega, by omega, (((Below.refl _ _).alloc (Nat.le_refl _) _).alloc (by simp) _).drew⟩
    have := heap_alloc_new (w.alloc (.cells (boolC (List.replicate m false)) 4)) (.cells (boolC (List.replicate n false)) 4)
    rw [show (w.alloc (.cells (boolC (List.replicate m false)) 4)).heap.size = w.heap.size + 1 by simp] at this
    exact this
  have HEND : Hid (∀ A B, A = rowsL n m (fW m W rest step) n 0 → B = colsL n m (fW m W rest step) n 0 → (A.all id && B.all id) = RES) := fun A B hA hB => by
    rw [hA, hB, ans_end, ← HRES.out]
    rfl
  clear hres hw3 hG c6 c7 c8 c11 c12
  go_enter Tryz.func57, Tryz.ntmps57
  go_wp2_with fail
  go_region
  · obtain ⟨rg, cg, W0, e1, e2, e3, HP0⟩ : ∃ rg cg W0, rg = w.heap.size ∧ cg = w.heap.size + 1 ∧ W0 = ((w.alloc (.cells (boolC (List.replicate n false)) 4)).alloc (.cells (boolC (List.replicate m false)) 4)).drew ∧ Hid (Anw w rg cg (rowsL n m (fW m W rest step) 0 0) (colsL n m (fW m W rest step) 0 0) W0) := ⟨_, _, _, rfl, rfl, rfl, HA1⟩
    rw [← e2, ← e1, ← e3]
    clear e1 e2 e3 HA1 HA2
    go_wp2_with fail
    go_loopw [33, 9, 10] (fun q _ _ wr => ∃ (x : Nat), x ≤ n ∧ q = .int .i64 (x : Int) ∧ Hid (Anw w rg cg (rowsL n m (fW m W rest step) x 0) (colsL n m (fW m W rest step) x 0) wr)) (fun q _ _ _ => n - (intOf q).toNat)
    case atStart => exact ⟨0, by omega, rfl, HP0⟩
    case round =>
      clear HP0
      obtain ⟨x, hx, rfl, HP⟩ := hrel
      by_cases hlt : x < n
      · have hxI : (x : Int) < (n : Int) := by omega
        go_wp2_with fail
        obtain ⟨wo, hwo⟩ : ∃ wo, wo = wr := ⟨_, rfl⟩
        subst hwo
        go_loopw [38, 10] (fun q _ wr => ∃ y : Nat, y ≤ m ∧ q = .int .i64 (y : Int) ∧ Hid (Anw w rg cg (rowsL n m (fW m W rest step) x y) (colsL n m (fW m W rest step) x y) wr)) (fun q _ _ => m - (intOf q).toNat)
        case atStart => exact ⟨0, by omega, rfl, HP⟩
        case round =>
          clear HP
          obtain ⟨y, hy, rfl, HP⟩ := hrel
          by_cases hlt2 : y < m
          · have hyI : (y : Int) < (m : Int) := by omega
            have hc9 := (HP.out.old.cell (p := ⟨p, 9, none⟩) hplt).trans c9
            have hc3 := (HP.out.old.cell (p := ⟨p, 3, none⟩) hplt).trans c3
            have hix := (HI.out x y hlt hlt2).1
            have hxm64 := (HI.out x y hlt hlt2).2
            have HF : Hid (fW m W rest step x y = W.getD (rest + step * (1 + x * m + y)) false) := rfl
            have HR9 : Hid (rowsL n m (fW m W rest step) x (y + 1) = if fW m W rest step x y then (rowsL n m (fW m W rest step) x y).set x true else rowsL n m (fW m W rest step) x y) := rows_step hlt hlt2
            have HC9 : Hid (colsL n m (fW m W rest step) x (y + 1) = if fW m W rest step x y then (colsL n m (fW m W rest step) x y).set y true else colsL n m (fW m W rest step) x y) := cols_step hlt hlt2
            have hxm : (x : Int) * (m : Int) = ((x * m : Nat) : Int) := by rw [Int.natCast_mul]
            obtain ⟨xm, hxme⟩ : ∃ xm, x * m = xm := ⟨_, rfl⟩
            rw [hxme] at hxm hxm64 hix HF
            have hst : (step : Int) * (1 + (xm : Int) + (y : Int)) = ((step * (1 + xm + y) : Nat) : Int) := by rw [Int.natCast_mul]; rfl
            obtain ⟨st, hste⟩ : ∃ st, step * (1 + xm + y) = st := ⟨_, rfl⟩
            rw [hste] at hst hix HF
            have hwc := (HP.out.old.cell (p := ⟨wg, rest + st, none⟩) hwg).trans (HWC.out (rest + st) hix)
            obtain ⟨b, hb⟩ : ∃ b, W.getD (rest + st) false = b := ⟨_, rfl⟩
            rw [hb] at hwc HF
            rw [HF.out] at HR9 HC9
            have hixI : (rest : Int) + (st : Int) < (W.length : Int) := by omega
            clear hxme hste hb HF
            cases b
            · have HP2 : Hid (Anw w rg cg (rowsL n m (fW m W rest step) x (y + 1)) (colsL n m (fW m W rest step) x (y + 1)) wr) := by rw [HR9.out, HC9.out]; exact HP.out
              go_wp2_with fail
              go_quiet (fail)
              go_wp2_with fail
              go_roundw
              case rel => exact ⟨y + 1, by omega, by go_num, HP2.out.drewN _⟩
              case measure => simp [intOf]; omega
            · have HP2 : Hid (∀ N, Anw w rg cg (rowsL n m (fW m W rest step) x (y + 1)) (colsL n m (fW m W rest step) x (y + 1)) (((wr.drewN N).setCell ⟨rg, x, none⟩ (.bool true)).setCell ⟨cg, y, none⟩ (.bool true))) := fun N => by rw [HR9.out, HC9.out]; exact ((HP.out.drewN N).setR x true).setC y true
              have hr1 := fun N => boolC_cell (HP.out.drewN N).r x (by rw [rows_len]; exact hlt)
              have hr2 := fun N => boolC_cell ((HP.out.drewN N).setR x true).c y (by rw [cols_len]; exact hlt2)
              have HRR := Lib.hid hr1
              have HRC := Lib.hid hr2
              clear hr1 hr2
              go_wp2_with fail
              go_quiet (fail)
              obtain ⟨q1, q2⟩ := HRR.out nq
              obtain ⟨q3, q4⟩ := HRC.out nq
              generalize (rowsL n m (fW m W rest step) x y).getD x false = b1 at *
              generalize (colsL n m (fW m W rest step) x y).getD y false = b2 at *
              have HP3 := Lib.hid (HP2.out nq)
              clear HRR HRC HP2
              go_wp2_with fail
              go_roundw
              case rel => exact ⟨y + 1, by omega, by go_num, HP3.out⟩
              case measure => simp [intOf]; omega
          · obtain rfl : y = m := by omega
            go_wp2_with fail
            go_roundw
            case rel => exact ⟨x + 1, by omega, by go_num, by rw [← rows_next, ← cols_next]; exact HP.out⟩
            case measure => simp [intOf]; omega
      · obtain rfl : x = n := by omega
        have HC1 := Lib.hid (HCF.out _ _ wr (HP.out.boolsR x (by unfold maxLen; omega) (rows_len _ _ _ _ _)))
        have HC2 := Lib.hid (HCF.out _ _ wr (HP.out.swap.boolsR m (by unfold maxLen; omega) (cols_len _ _ _ _ _)))
        have HE := Lib.hid (HEND.out _ _ rfl rfl)
        generalize (rowsL x m (fW m W rest step) x 0).all id = b1 at *
        generalize (colsL x m (fW m W rest step) x 0).all id = b2 at *
        have HO := Lib.hid HP.out.old
        clear HP HEND
        cases b1
        · have HE2 : Hid (false = RES) := HE.out
          go_wp2_with fail
          refine HC1.out.mono ?_; rintro e w1 ⟨rfl, hw1⟩; rw [hw1]; clear hw1
          go_wp2_with fail
          go_ret
          exact ⟨ret_bool HE2.out, HO.out⟩
        · have HE2 : Hid (b2 = RES) := HE.out
          go_wp2_with fail
          refine HC1.out.mono ?_; rintro e w1 ⟨rfl, hw1⟩; rw [hw1]; clear hw1
          go_wp2_with fail
          refine HC2.out.mono ?_; rintro e w1 ⟨rfl, hw1⟩; rw [hw1]; clear hw1
          cases b2
          all_goals
            go_wp2_with fail
            go_ret
            exact ⟨ret_bool HE2.out, HO.out⟩
  · obtain ⟨rg, cg, W0, e1, e2, e3, HP0⟩ : ∃ rg cg W0, rg = w.heap.size + 1 ∧ cg = w.heap.size ∧ W0 = ((w.alloc (.cells (boolC (List.replicate m false)) 4)).alloc (.cells (boolC (List.replicate n false)) 4)).drew ∧ Hid (Anw w rg cg (rowsL n m (fW m W rest step) 0 0) (colsL n m (fW m W rest step) 0 0) W0) := ⟨_, _, _, rfl, rfl, rfl, HA2⟩
    rw [← e1, ← e2, ← e3]
    clear e1 e2 e3 HA1 HA2
    go_wp2_with fail
    go_loopw [33, 9, 10] (fun q _ _ wr => ∃ (x : Nat), x ≤ n ∧ q = .int .i64 (x : Int) ∧ Hid (Anw w rg cg (rowsL n m (fW m W rest step) x 0) (colsL n m (fW m W rest step) x 0) wr)) (fun q _ _ _ => n - (intOf q).toNat)
    case atStart => exact ⟨0, by omega, rfl, HP0⟩
    case round =>
      clear HP0
      obtain ⟨x, hx, rfl, HP⟩ := hrel
      by_cases hlt : x < n
      · have hxI : (x : Int) < (n : Int) := by omega
        go_wp2_with fail
        obtain ⟨wo, hwo⟩ : ∃ wo, wo = wr := ⟨_, rfl⟩
        subst hwo
        go_loopw [38, 10] (fun q _ wr => ∃ y : Nat, y ≤ m ∧ q = .int .i64 (y : Int) ∧ Hid (Anw w rg cg (rowsL n m (fW m W rest step) x y) (colsL n m (fW m W rest step) x y) wr)) (fun q _ _ => m - (intOf q).toNat)
        case atStart => exact ⟨0, by omega, rfl, HP⟩
        case round =>
          clear HP
          obtain ⟨y, hy, rfl, HP⟩ := hrel
          by_cases hlt2 : y < m
          · have hyI : (y : Int) < (m : Int) := by omega
            have hc9 := (HP.out.old.cell (p := ⟨p, 9, none⟩) hplt).trans c9
            have hc3 := (HP.out.old.cell (p := ⟨p, 3, none⟩) hplt).trans c3
            have hix := (HI.out x y hlt hlt2).1
            have hxm64 := (HI.out x y hlt hlt2).2
            have HF : Hid (fW m W rest step x y = W.getD (rest + step * (1 + x * m + y)) false) := rfl
            have HR9 : Hid (rowsL n m (fW m W rest step) x (y + 1) = if fW m W rest step x y then (rowsL n m (fW m W rest step) x y).set x true else rowsL n m (fW m W rest step) x y) := rows_step hlt hlt2
            have HC9 : Hid (colsL n m (fW m W rest step) x (y + 1) = if fW m W rest step x y then (colsL n m (fW m W rest step) x y).set y true else colsL n m (fW m W rest step) x y) := cols_step hlt hlt2
            have hxm : (x : Int) * (m : Int) = ((x * m : Nat) : Int) := by rw [Int.natCast_mul]
            obtain ⟨xm, hxme⟩ : ∃ xm, x * m = xm := ⟨_, rfl⟩
            rw [hxme] at hxm hxm64 hix HF
            have hst : (step : Int) * (1 + (xm : Int) + (y : Int)) = ((step * (1 + xm + y) : Nat) : Int) := by rw [Int.natCast_mul]; rfl
            obtain ⟨st, hste⟩ : ∃ st, step * (1 + xm + y) = st := ⟨_, rfl⟩
            rw [hste] at hst hix HF
            have hwc := (HP.out.old.cell (p := ⟨wg, rest + st, none⟩) hwg).trans (HWC.out (rest + st) hix)
            obtain ⟨b, hb⟩ : ∃ b, W.getD (rest + st) false = b := ⟨_, rfl⟩
            rw [hb] at hwc HF
            rw [HF.out] at HR9 HC9
            have hixI : (rest : Int) + (st : Int) < (W.length : Int) := by omega
            clear hxme hste hb HF
            cases b
            · have HP2 : Hid (Anw w rg cg (rowsL n m (fW m W rest step) x (y + 1)) (colsL n m (fW m W rest step) x (y + 1)) wr) := by rw [HR9.out, HC9.out]; exact HP.out
              go_wp2_with fail
              go_quiet (fail)
              go_wp2_with fail
              go_roundw
              case rel => exact ⟨y + 1, by omega, by go_num, HP2.out.drewN _⟩
              case measure => simp [intOf]; omega
            · have HP2 : Hid (∀ N, Anw w rg cg (rowsL n m (fW m W rest step) x (y + 1)) (colsL n m (fW m W rest step) x (y + 1)) (((wr.drewN N).setCell ⟨rg, x, none⟩ (.bool true)).setCell ⟨cg, y, none⟩ (.bool true))) := fun N => by rw [HR9.out, HC9.out]; exact ((HP.out.drewN N).setR x true).setC y true
              have hr1 := fun N => boolC_cell (HP.out.drewN N).r x (by rw [rows_len]; exact hlt)
              have hr2 := fun N => boolC_cell ((HP.out.drewN N).setR x true).c y (by rw [cols_len]; exact hlt2)
              have HRR := Lib.hid hr1
              have HRC := Lib.hid hr2
              clear hr1 hr2
              go_wp2_with fail
              go_quiet (fail)
              obtain ⟨q1, q2⟩ := HRR.out nq
              obtain ⟨q3, q4⟩ := HRC.out nq
              generalize (rowsL n m (fW m W rest step) x y).getD x false = b1 at *
              generalize (colsL n m (fW m W rest step) x y).getD y false = b2 at *
              have HP3 := Lib.hid (HP2.out nq)
              clear HRR HRC HP2
              go_wp2_with fail
              go_roundw
              case rel => exact ⟨y + 1, by omega, by go_num, HP3.out⟩
              case measure => simp [intOf]; omega
          · obtain rfl : y = m := by omega
            go_wp2_with fail
            go_roundw
            case rel => exact ⟨x + 1, by omega, by go_num, by rw [← rows_next, ← cols_next]; exact HP.out⟩
            case measure => simp [intOf]; omega
      · obtain rfl : x = n := by omega
        have HC1 := Lib.hid (HCF.out _ _ wr (HP.out.boolsR x (by unfold maxLen; omega) (rows_len _ _ _ _ _)))
        have HC2 := Lib.hid (HCF.out _ _ wr (HP.out.swap.boolsR m (by unfold maxLen; omega) (cols_len _ _ _ _ _)))
        have HE := Lib.hid (HEND.out _ _ rfl rfl)
        generalize (rowsL x m (fW m W rest step) x 0).all id = b1 at *
        generalize (colsL x m (fW m W rest step) x 0).all id = b2 at *
        have HO := Lib.hid HP.out.old
        clear HP HEND
        cases b1
        · have HE2 : Hid (false = RES) := HE.out
          go_wp2_with fail
          refine HC1.out.mono ?_; rintro e w1 ⟨rfl, hw1⟩; rw [hw1]; clear hw1
          go_wp2_with fail
          go_ret
          exact ⟨ret_bool HE2.out, HO.out⟩
        · have HE2 : Hid (b2 = RES) := HE.out
          go_wp2_with fail
          refine HC1.out.mono ?_; rintro e w1 ⟨rfl, hw1⟩; rw [hw1]; clear hw1
          go_wp2_with fail
          refine HC2.out.mono ?_; rintro e w1 ⟨rfl, hw1⟩; rw [hw1]; clear hw1
          cases b2
          all_goals
            go_wp2_with fail
            go_ret
            exact ⟨ret_bool HE2.out, HO.out⟩
end Go.Proofs.YtofmagiahmmmgaaGreatDoor

namespace Go.Proofs.YtofmagiahmmmgaaGreatDoor
open Go.RowKit
set_option linter.unusedVariables false
set_option maxRecDepth 100000
/-- The ways with another pair at a place are lost. -/
def clrN (N : List Bool) (s step : Nat) : Nat → List Bool
  | 0 => N
  | k + 1 => (clrN N s step k).set (s + step * k) false
theorem clrN_len (N : List Bool) (s step : Nat) : ∀ k, (clrN N s step k).length = N.length
  | 0 => rfl
  | k + 1 => by unfold clrN; rw [List.length_set, clrN_len N s step k]
/-- Whether a way is left as it is. -/
def keepB (n m : Nat) (W : List Bool) (step s : Nat) : Bool := decide (s / step % (n * m + 1) ≠ 0) || ansB n m W s step
def trS (n m : Nat) (W : List Bool) (step : Nat) (N : List Bool) : Nat → List Bool
  | 0 => N
  | s + 1 => if keepB n m W step s then trS n m W step N s else clrN (trS n m W step N s) s step (n * m + 1)
theorem trS_len (n m : Nat) (W : List Bool) (step : Nat) (N : List Bool) : ∀ s, (trS n m W step N s).length = N.length
  | 0 => rfl
  | s + 1 => by
    unfold trS
    split
    · exact trS_len n m W step N s
    · rw [clrN_len]; exact trS_len n m W step N s
def trI (n m : Nat) (W : List Bool) (F : List Bool) : Nat → List Bool
  | 0 => F
  | i + 1 => trS n m W ((n * m + 1) ^ i) (trI n m W F i) F.length
theorem trI_len (n m : Nat) (W F : List Bool) : ∀ i, (trI n m W F i).length = F.length
  | 0 => rfl
  | i + 1 => by unfold trI; rw [trS_len]; exact trI_len n m W F i
/-- What is won with one turn more. -/
def turnU (n m k : Nat) (F W : List Bool) : List Bool := trI n m W F k
theorem turnU_len (n m k : Nat) (F W : List Bool) : (turnU n m k F W).length = F.length := trI_len n m W F k
/-- A way without a pair at a place: with each pair it is a way. -/
theorem dig0_lt {P k i s q : Nat} (hP : 0 < P) (hi : i < k) (hs : s < P ^ k) (h0 : s / P ^ i % P = 0) (hq : q < P) : s + P ^ i * q < P ^ k := by
  obtain ⟨j, rfl⟩ : ∃ j, k = i + 1 + j := ⟨k - (i + 1), by omega⟩
  have e1 : P ^ (i + 1 + j) = P ^ i * P * P ^ j := by rw [Nat.pow_add, Nat.pow_succ]
  have hpi : 0 < P ^ i := Nat.pow_pos hP
  obtain ⟨a, ha⟩ : ∃ a, s / P ^ i / P = a := ⟨_, rfl⟩
  have h1 : s / P ^ i = P * a := by
    have := Nat.div_add_mod (s / P ^ i) P
    rw [h0, ha, Nat.add_zero] at this
    exact this.symm
  have h2 : s = P ^ i * (P * a) + s % P ^ i := by
    have := Nat.div_add_mod s (P ^ i)
    rw [h1] at this
    exact this.symm
  have h3 : s % P ^ i < P ^ i := Nat.mod_lt _ hpi
  generalize s % P ^ i = r at h2 h3
  have ha2 : a < P ^ j := by
    rw [e1] at hs
    have h4 : P ^ i * P * a ≤ s := by rw [h2, Nat.mul_assoc]; omega
    exact Nat.lt_of_mul_lt_mul_left (Nat.lt_of_le_of_lt h4 hs)
  have h5 : P ^ i * P * (a + 1) ≤ P ^ i * P * P ^ j := Nat.mul_le_mul_left _ ha2
  have h6 : P ^ i * (q + 1) ≤ P ^ i * P := Nat.mul_le_mul_left _ hq
  rw [Nat.mul_add, Nat.mul_one] at h5 h6
  rw [e1]
  have h7 : P ^ i * (P * a) = P ^ i * P * a := by rw [Nat.mul_assoc]
  omega
/-- The game in memory. -/
def PebQ (w : World) (p n : Nat) (S R : ByteArray) (m : Nat) (S2 R2 : ByteArray) (k : Nat) (F W : List Bool) : Prop :=
  ∃ fv wv, PebG w p n S R m S2 R2 k fv wv ∧ BoolsAt w fv F ∧ BoolsAt w wv W ∧ fv.ownBlock ≠ some p ∧ wv.ownBlock ≠ some p
theorem PebQ.below {w w' : World} {p n m k : Nat} {S R S2 R2 : ByteArray} {F W : List Bool} (h : PebQ w p n S R m S2 R2 k F W) (hb : Below w.heap.size w w') : PebQ w' p n S R m S2 R2 k F W := by
  obtain ⟨fv, wv, h1, h2, h3, h4, h5⟩ := h
  exact ⟨fv, wv, h1.below hb, h2.below hb, h3.below hb, h4, h5⟩
/-- What turn keeps. -/
structure Tn (w : World) (p n : Nat) (S R : ByteArray) (m : Nat) (S2 R2 : ByteArray) (k : Nat) (fv wv : Value) (F W : List Bool) (nv : Value) (N : List Bool) (wr : World) : Prop where
  g : PebG wr p n S R m S2 R2 k fv wv
  f : BoolsAt wr fv F
  b : BoolsAt wr wv W
  fs : ∀ j, fv.ownBlock = some j → j < w.heap.size
  ws : ∀ j, wv.ownBlock = some j → j < w.heap.size
  own : OwnL w.heap.size wr nv N
  pl : p < w.heap.size
  old : Below w.heap.size w wr
section
variable {w wr w' : World} {p n m k : Nat} {S R S2 R2 : ByteArray} {fv wv nv nv' : Value} {F W N N' : List Bool}
theorem Tn.below (h : Tn w p n S R m S2 R2 k fv wv F W nv N wr) (hb : Below wr.heap.size wr w') : Tn w p n S R m S2 R2 k fv wv F W nv N w' :=
  ⟨h.g.below hb, h.f.below hb, h.b.below hb, h.fs, h.ws, h.own.below hb, h.pl, h.old.trans (hb.mono h.old.size)⟩
theorem Tn.push (h : Tn w p n S R m S2 R2 k fv wv F W nv N wr) (ho : OwnL w.heap.size w' nv' N') (hg : wr.grownBy w' nv.ownBlock) : Tn w p n S R m S2 R2 k fv wv F W nv' N' w' := by
  have hlt := h.own.lt
  refine ⟨⟨(hg.block p h.g.lt (fun e => by have := (hlt p e.symm).1; have := h.pl; omega)).trans h.g.blk⟩, h.f.kept (fun j hj hl => hg.block j hl (fun e => by have := (hlt j e.symm).1; have := h.fs j hj; omega)) hg.size,
    h.b.kept (fun j hj hl => hg.block j hl (fun e => by have := (hlt j e.symm).1; have := h.ws j hj; omega)) hg.size, h.fs, h.ws, ho, h.pl, h.old.grown hg h.old.size (fun j hj => (hlt j hj).1)⟩
theorem Tn.cell {g cap len : Nat} (h : Tn w p n S R m S2 R2 k fv wv F W (.slice (some ⟨g, 0, none⟩) len cap) N wr) {j : Nat} (hj : j < N.length) : wr.cell? ⟨g, j, none⟩ = some (.bool (N.getD j false)) ∧ wr.frozen? ⟨g, j, none⟩ = false := by
  obtain ⟨g2, c2, e, _, _, _, _, h1, h2⟩ := h.own.cells (by omega)
  injection e with e1
  injection e1 with e1
  injection e1 with e1
  subst e1
  exact ⟨h1 j hj, h2 j⟩
theorem Tn.set {g cap len : Nat} (h : Tn w p n S R m S2 R2 k fv wv F W (.slice (some ⟨g, 0, none⟩) len cap) N wr) (hl : N.length = len) (j : Nat) (b : Bool) :
    Tn w p n S R m S2 R2 k fv wv F W (.slice (some ⟨g, 0, none⟩) len cap) (N.set j b) (wr.setCell ⟨g, j, none⟩ (.bool b)) := by
  have hlt := h.own.lt g rfl
  have hg : wr.grownBy (wr.setCell ⟨g, j, none⟩ (.bool b)) (some g) := ⟨rfl, rfl, rfl, by simp, fun i hi hne => Below.heap_setCell _ _ _ _ (fun e => hne (by rw [e]))⟩
  exact h.push (h.own.set hl j b) hg
end
end Go.Proofs.YtofmagiahmmmgaaGreatDoor

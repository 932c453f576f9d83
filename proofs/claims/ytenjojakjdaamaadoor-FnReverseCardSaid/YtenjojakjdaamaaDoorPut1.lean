/- The reference's l11Name, l11Images, l11Fresh. No condition. -/
import Derived.Test.YtenjojakjdaamaaDoorFmEnd
import Derived.Test.YtenjojakjdaamaaDoorFm
import Derived.Test.YtenjojakjdaamaaDoorPut0
import Derived.IntWalk
namespace Go.Proofs.YtenjojakjdaamaaDoor
open Go.RowKit
set_option linter.unusedVariables false

namespace Fm
def mAt (m : M) (i : Nat) : Nat := if h : i < 4 then (m ⟨i, h⟩).val else 0
def imgTo (s : Nat) (m : M) : Nat → Nat
  | 0 => 0
  | i + 1 => if s / 2 ^ i % 2 = 1 then imgTo s m i ||| 1 <<< mAt m i else imgTo s m i
theorem mAt_lt (m : M) (i : Nat) : mAt m i < 4 := by unfold mAt; split <;> omega
theorem imgTo_lt (s : Nat) (m : M) : ∀ i, imgTo s m i < 16
  | 0 => (by decide : 0 < 16)
  | i + 1 => by
    unfold imgTo
    split
    · exact or_lt (imgTo_lt s m i) (bit_lt ⟨mAt m i, mAt_lt m i⟩)
    · exact imgTo_lt s m i
theorem testBit_div (s i : Nat) : s.testBit i = decide (s / 2 ^ i % 2 = 1) := Nat.testBit_eq_decide_div_mod_eq
theorem imgTo_has (s : Nat) (m : M) (w : Fin 4) : ∀ i, i ≤ 4 → ((imgTo s m i).testBit w.val = true ↔ ∃ u : Fin 4, u.val < i ∧ s.testBit u.val = true ∧ m u = w)
  | 0, _ => by simp [imgTo]
  | i + 1, hi => by
    have ih := imgTo_has s m w i (by omega)
    have hm : mAt m i = (m ⟨i, by omega⟩).val := by unfold mAt; rw [dif_pos (by omega)]
    unfold imgTo
    by_cases hb : s / 2 ^ i % 2 = 1
    · rw [if_pos hb, Nat.testBit_or, Bool.or_eq_true, ih, hm, bit_has, decide_eq_true_iff]
      constructor
      · rintro (⟨u, h1, h2, h3⟩ | h)
        · exact ⟨u, by omega, h2, h3⟩
        · exact ⟨⟨i, by omega⟩, by simp, by rw [testBit_div]; simpa using hb, h⟩
      · rintro ⟨u, h1, h2, h3⟩
        by_cases hu : u.val < i
        · exact .inl ⟨u, hu, h2, h3⟩
        · have : u = ⟨i, by omega⟩ := Fin.ext (by simp; omega)
          exact .inr (by rw [← this]; exact h3)
    · rw [if_neg hb, ih]
      constructor
      · rintro ⟨u, h1, h2, h3⟩; exact ⟨u, by omega, h2, h3⟩
      · rintro ⟨u, h1, h2, h3⟩
        refine ⟨u, ?_, h2, h3⟩
        by_cases hu : u.val = i
        · rw [testBit_div, hu] at h2; exact absurd (by simpa using h2) hb
        · omega
/-- The images that are taken. -/
theorem img_taken (s : Nat) (hs : s < 16) (m : M) (v w : Fin 4) : (imgTo (s &&& (15 ^^^ 1 <<< v.val)) m 4).testBit w.val = taken s m v w := by
  rw [Bool.eq_iff_iff, imgTo_has _ _ _ 4 (Nat.le_refl _), taken_iff]
  constructor
  · rintro ⟨u, _, h2, h3⟩
    rw [has_rem s hs] at h2
    simp at h2
    exact ⟨u, h2.1, fun e => h2.2 e.symm, h3⟩
  · rintro ⟨u, h1, h2, h3⟩
    refine ⟨u, u.isLt, ?_, h3⟩
    rw [has_rem s hs, h1]
    simpa using fun e => h2 e.symm
def freshI (v : Fin 4) (s : Nat) (m : M) : Int := match fresh v s m with | none => -1 | some u => (u.val : Int)
end Fm

def mapV (m : Fm.M) : Value := .agg #[.int .i64 (((m 0).val : Nat) : Int), .int .i64 (((m 1).val : Nat) : Int), .int .i64 (((m 2).val : Nat) : Int), .int .i64 (((m 3).val : Nat) : Int)]
def mapC (m : Fm.M) : Array Value := #[.int .i64 (((m 0).val : Nat) : Int), .int .i64 (((m 1).val : Nat) : Int), .int .i64 (((m 2).val : Nat) : Int), .int .i64 (((m 3).val : Nat) : Int)]
theorem map_cell (m : Fm.M) (w : World) (b i : Nat) (t : TypeId) (h : w.heap[b]? = some (.cells (mapC m) t (0, 0))) (hi : i < 4) : w.cell? ⟨b, i, none⟩ = some (.int .i64 ((Fm.mAt m i : Nat) : Int)) := by
  have e : w.cell? ⟨b, i, none⟩ = (mapC m)[i]? := by simp [World.cell?, h]
  rw [e]
  rcases (show i = 0 ∨ i = 1 ∨ i = 2 ∨ i = 3 by omega) with rfl | rfl | rfl | rfl <;> rfl

theorem l11Name_any (v : Fin 4) (w : World) : Calls Tryd.prog 144 #[.int .i64 ((v.val : Nat) : Int)] w fun e w' => e = .returned (.string ⟨#[Fm.vb v]⟩) ∧ w' = w := by
  match v with
  | 0 => 
    go_enter Tryd.func144, Tryd.ntmps144
    go_wp2_with fail
    go_ret
    exact ⟨rfl, rfl⟩
  | 1 => 
    go_enter Tryd.func144, Tryd.ntmps144
    go_wp2_with fail
    go_ret
    exact ⟨rfl, rfl⟩
  | 2 => 
    go_enter Tryd.func144, Tryd.ntmps144
    go_wp2_with fail
    go_ret
    exact ⟨rfl, rfl⟩
  | 3 => 
    go_enter Tryd.func144, Tryd.ntmps144
    go_wp2_with fail
    go_ret
    exact ⟨rfl, rfl⟩
theorem p_and1 (a : Nat) (ha : a < 9223372036854775808) : bits .and .i64 (a : Int) 1 = ((a % 2 : Nat) : Int) := by
  have ho : ∀ b : Nat, b < 9223372036854775808 → (BitVec.ofInt 64 (b : Int)).toNat = b := fun b hb => by
    rw [BitVec.ofInt_natCast, BitVec.toNat_ofNat]; exact Nat.mod_eq_of_lt (by omega)
  show IntKind.i64.wrap ((BitVec.ofInt 64 (a : Int) &&& BitVec.ofInt 64 ((1 : Nat) : Int)).toNat : Int) = _
  rw [BitVec.toNat_and, ho a ha, ho 1 (by omega), Nat.and_one_is_mod]
  exact IntWalk.i64_in _ (by omega)
theorem p_bits (fr c : Nat) (hf : fr < 16) : (bits .and .i64 ((fr : Int) / (c : Int)) 1 = 0 ∧ ¬ fr / c % 2 = 1) ∨ (bits .and .i64 ((fr : Int) / (c : Int)) 1 = 1 ∧ fr / c % 2 = 1) := by
  have h := p_and1 (fr / c) (Nat.lt_of_le_of_lt (Nat.div_le_self _ _) (by omega))
  rw [Int.natCast_ediv] at h
  rcases (show fr / c % 2 = 0 ∨ fr / c % 2 = 1 by omega) with h0 | h0
  · rw [h0] at h
    exact .inl ⟨h, by omega⟩
  · rw [h0] at h
    exact .inr ⟨h, h0⟩
theorem mapC_cell (m : Fm.M) (w : World) (b : Nat) (t : TypeId) (h : w.heap[b]? = some (.cells (mapC m) t (0, 0))) (x : Fin 4) : w.cell? ⟨b, x.val, none⟩ = some (.int .i64 (((m x).val : Nat) : Int)) := c4_cell (f := fun x => .int .i64 (((m x).val : Nat) : Int)) h x
theorem img_no {s i : Nat} {m : Fm.M} (h : ¬ s / 2 ^ i % 2 = 1) : Fm.imgTo s m (i + 1) = Fm.imgTo s m i := by
  show (if s / 2 ^ i % 2 = 1 then _ else _) = _
  rw [if_neg h]
theorem img_yes {s i : Nat} {m : Fm.M} (hi : i < 4) (h : s / 2 ^ i % 2 = 1) : bits .or .i64 ((Fm.imgTo s m i : Nat) : Int) ((1 <<< (m ⟨i, hi⟩).val : Nat) : Int) = ((Fm.imgTo s m (i + 1) : Nat) : Int) := by
  rw [or_i64 _ _ (Fm.imgTo_lt s m i) (Fm.bit_lt _)]
  have : Fm.imgTo s m (i + 1) = Fm.imgTo s m i ||| 1 <<< (m ⟨i, hi⟩).val := by
    show (if s / 2 ^ i % 2 = 1 then _ else _) = _
    rw [if_pos h]
    unfold Fm.mAt
    rw [dif_pos hi]
  rw [this]
set_option maxRecDepth 100000 in
theorem l11Images_any (s : Nat) (hs : s < 16) (m : Fm.M) (w : World) : Calls Tryd.prog 191 #[.int .i64 (s : Int), mapV m] w fun e w' => e = .returned (.int .i64 ((Fm.imgTo s m 4 : Nat) : Int)) ∧ Below w.heap.size w w' := by
  obtain ⟨W, hW⟩ : ∃ W, w.alloc (.cells (mapC m) 98) = W := ⟨_, rfl⟩
  have HM : Hid (W.heap[w.heap.size]? = some (.cells (mapC m) 98 (0, 0)) ∧ Below w.heap.size w W) := by
    subst hW
    exact ⟨heap_alloc_new w _, (Below.refl _ _).alloc (Nat.le_refl _) _⟩
  have d0 : W.cell? ⟨w.heap.size, 0, none⟩ = some (.int .i64 (((m 0).val : Nat) : Int)) := mapC_cell m W _ _ HM.out.1 0
  have d1 : W.cell? ⟨w.heap.size, 1, none⟩ = some (.int .i64 (((m 1).val : Nat) : Int)) := mapC_cell m W _ _ HM.out.1 1
  have d2 : W.cell? ⟨w.heap.size, 2, none⟩ = some (.int .i64 (((m 2).val : Nat) : Int)) := mapC_cell m W _ _ HM.out.1 2
  have d3 : W.cell? ⟨w.heap.size, 3, none⟩ = some (.int .i64 (((m 3).val : Nat) : Int)) := mapC_cell m W _ _ HM.out.1 3
  have Y0 := Lib.hid (fun h => img_yes (s := s) (m := m) (i := 0) (by decide) h)
  have Y1 := Lib.hid (fun h => img_yes (s := s) (m := m) (i := 1) (by decide) h)
  have Y2 := Lib.hid (fun h => img_yes (s := s) (m := m) (i := 2) (by decide) h)
  have Y3 := Lib.hid (fun h => img_yes (s := s) (m := m) (i := 3) (by decide) h)
  have N0 := Lib.hid (fun h => img_no (s := s) (m := m) (i := 0) h)
  have N1 := Lib.hid (fun h => img_no (s := s) (m := m) (i := 1) h)
  have N2 := Lib.hid (fun h => img_no (s := s) (m := m) (i := 2) h)
  have N3 := Lib.hid (fun h => img_no (s := s) (m := m) (i := 3) h)
  have HS := Lib.hid (fun v => shl_i64 v)
  have Z0 : Hid (Fm.imgTo s m 0 = 0) := rfl
  unfold mapC at hW
  have HW := Lib.hid hW
  clear hW
  generalize hI1 : Fm.imgTo s m 1 = I1 at *
  generalize hI2 : Fm.imgTo s m 2 = I2 at *
  generalize hI3 : Fm.imgTo s m 3 = I3 at *
  generalize hI4 : Fm.imgTo s m 4 = I4 at *
  clear hI1 hI2 hI3 hI4
  unfold mapV
  go_enter Tryd.func191, Tryd.ntmps191
  go_upto_region 1 with fail
  rw [HW.out]
  go_wp2_with fail
  go_loop [6, 5] (fun i o => (i = .int .i64 0 ∧ o = .int .i64 0) ∨ (i = .int .i64 1 ∧ o = .int .i64 (I1 : Int)) ∨ (i = .int .i64 2 ∧ o = .int .i64 (I2 : Int)) ∨ (i = .int .i64 3 ∧ o = .int .i64 (I3 : Int)) ∨ (i = .int .i64 4 ∧ o = .int .i64 (I4 : Int))) (fun i _ => 4 - (intOf i).toNat)
  case atStart => exact .inl ⟨rfl, rfl⟩
  case round =>
    rcases hrel with ⟨rfl, rfl⟩ | ⟨rfl, rfl⟩ | ⟨rfl, rfl⟩ | ⟨rfl, rfl⟩ | ⟨rfl, rfl⟩
    · rcases p_bits s 1 hs with ⟨hb, hb2⟩ | ⟨hb, hb2⟩
      · have hb : bits .and .i64 (s : Int) 1 = 0 := by simpa using hb
        have HN := Lib.hid (N0.out (by simpa using hb2))
        clear hb2
        go_wp2_with fail
        go_round
        case rel => exact .inr (.inl ⟨rfl, by rw [HN.out]; rw [Z0.out]; rfl⟩)
        case measure => simp [intOf]
      · have hb : bits .and .i64 (s : Int) 1 = 1 := by simpa using hb
        have hor := Y0.out (by simpa using hb2)
        have hsh := HS.out (m 0)
        have hm4 := (m 0).isLt
        have e0 : (m ⟨0, by decide⟩) = m 0 := rfl
        replace hor : bits .or .i64 0 ((1 <<< (m 0).val : Nat) : Int) = ((I1 : Nat) : Int) := by rw [e0, Z0.out] at hor; exact hor
        clear hb2
        generalize (1 <<< (m 0).val) = A at *
        generalize (m 0).val = k at *
        have hkI : (0 : Int) ≤ (k : Int) ∧ (k : Int) < 4 := by omega
        have hcv : IntKind.u64.wrap (k : Int) = k := IntWalk.u64_in _ (by omega)
        go_wp2_with fail
        go_round
        case rel => exact .inr (.inl ⟨rfl, rfl⟩)
        case measure => simp [intOf]
    · rcases p_bits s 2 hs with ⟨hb, hb2⟩ | ⟨hb, hb2⟩
      · have hb : bits .and .i64 ((s : Int) / 2) 1 = 0 := by simpa using hb
        have HN := Lib.hid (N1.out (by simpa using hb2))
        clear hb2
        go_wp2_with fail
        go_round
        case rel => exact .inr (.inr (.inl ⟨rfl, by rw [HN.out]⟩))
        case measure => simp [intOf]
      · have hb : bits .and .i64 ((s : Int) / 2) 1 = 1 := by simpa using hb
        have hor := Y1.out (by simpa using hb2)
        have hsh := HS.out (m 1)
        have hm4 := (m 1).isLt
        have e0 : (m ⟨1, by decide⟩) = m 1 := rfl
        rw [e0] at hor
        clear hb2
        generalize (1 <<< (m 1).val) = A at *
        generalize (m 1).val = k at *
        have hkI : (0 : Int) ≤ (k : Int) ∧ (k : Int) < 4 := by omega
        have hcv : IntKind.u64.wrap (k : Int) = k := IntWalk.u64_in _ (by omega)
        go_wp2_with fail
        go_round
        case rel => exact .inr (.inr (.inl ⟨rfl, rfl⟩))
        case measure => simp [intOf]
    · rcases p_bits s 4 hs with ⟨hb, hb2⟩ | ⟨hb, hb2⟩
      · have hb : bits .and .i64 ((s : Int) / 4) 1 = 0 := by simpa using hb
        have HN := Lib.hid (N2.out (by simpa using hb2))
        clear hb2
        go_wp2_with fail
        go_round
        case rel => exact .inr (.inr (.inr (.inl ⟨rfl, by rw [HN.out]⟩)))
        case measure => simp [intOf]
      · have hb : bits .and .i64 ((s : Int) / 4) 1 = 1 := by simpa using hb
        have hor := Y2.out (by simpa using hb2)
        have hsh := HS.out (m 2)
        have hm4 := (m 2).isLt
        have e0 : (m ⟨2, by decide⟩) = m 2 := rfl
        rw [e0] at hor
        clear hb2
        generalize (1 <<< (m 2).val) = A at *
        generalize (m 2).val = k at *
        have hkI : (0 : Int) ≤ (k : Int) ∧ (k : Int) < 4 := by omega
        have hcv : IntKind.u64.wrap (k : Int) = k := IntWalk.u64_in _ (by omega)
        go_wp2_with fail
        go_round
        case rel => exact .inr (.inr (.inr (.inl ⟨rfl, rfl⟩)))
        case measure => simp [intOf]
    · rcases p_bits s 8 hs with ⟨hb, hb2⟩ | ⟨hb, hb2⟩
      · have hb : bits .and .i64 ((s : Int) / 8) 1 = 0 := by simpa using hb
        have HN := Lib.hid (N3.out (by simpa using hb2))
        clear hb2
        go_wp2_with fail
        go_round
        case rel => exact .inr (.inr (.inr (.inr (⟨rfl, by rw [HN.out]⟩))))
        case measure => simp [intOf]
      · have hb : bits .and .i64 ((s : Int) / 8) 1 = 1 := by simpa using hb
        have hor := Y3.out (by simpa using hb2)
        have hsh := HS.out (m 3)
        have hm4 := (m 3).isLt
        have e0 : (m ⟨3, by decide⟩) = m 3 := rfl
        rw [e0] at hor
        clear hb2
        generalize (1 <<< (m 3).val) = A at *
        generalize (m 3).val = k at *
        have hkI : (0 : Int) ≤ (k : Int) ∧ (k : Int) < 4 := by omega
        have hcv : IntKind.u64.wrap (k : Int) = k := IntWalk.u64_in _ (by omega)
        go_wp2_with fail
        go_round
        case rel => exact .inr (.inr (.inr (.inr (⟨rfl, rfl⟩))))
        case measure => simp [intOf]
    · go_wp2_with fail
      go_ret
      exact ⟨rfl, HM.out.2⟩
/-- Whether a variable is among the images, as the tests say it. -/
theorem img_bit (s : Nat) (hs : s < 16) (m : Fm.M) (v u : Fin 4) : (Fm.imgTo (s &&& (15 ^^^ 1 <<< v.val)) m 4 / 2 ^ u.val % 2 = 1) ↔ Fm.taken s m v u = true := by
  rw [← Fm.img_taken s hs m v u, Fm.testBit_div, decide_eq_true_iff]
theorem freshI_kept {v : Fin 4} {s : Nat} {m : Fm.M} (h : Fm.taken s m v v = false) : Fm.freshI v s m = (v.val : Int) := by
  unfold Fm.freshI; rw [Fm.fresh_kept h]
theorem freshI_first {v : Fin 4} {s : Nat} {m : Fm.M} (h : Fm.taken s m v v = true) : Fm.freshI v s m = Fm.firstFree (Fm.taken s m v) := by
  unfold Fm.freshI
  rcases Fm.fresh_taken h with ⟨h1, h2⟩ | ⟨u, h1, h2⟩
  · rw [h1, h2]
  · rw [h1, h2]
set_option maxRecDepth 100000 in
theorem l11Fresh_any (v : Fin 4) (s : Nat) (hs : s < 16) (m : Fm.M) (w : World) : Calls Tryd.prog 145 #[.int .i64 ((v.val : Nat) : Int), .int .i64 (s : Int), mapV m] w fun e w' => e = .returned (.int .i64 (Fm.freshI v s m)) ∧ Below w.heap.size w w' := by
  obtain ⟨W, hW⟩ : ∃ W, w.alloc (.cells (mapC m) 98) = W := ⟨_, rfl⟩
  have HM : Hid (W.heap[w.heap.size]? = some (.cells (mapC m) 98 (0, 0)) ∧ Below w.heap.size w W) := by
    subst hW
    exact ⟨heap_alloc_new w _, (Below.refl _ _).alloc (Nat.le_refl _) _⟩
  have d0 : W.cell? ⟨w.heap.size, 0, none⟩ = some (.int .i64 (((m 0).val : Nat) : Int)) := mapC_cell m W _ _ HM.out.1 0
  have d1 : W.cell? ⟨w.heap.size, 1, none⟩ = some (.int .i64 (((m 1).val : Nat) : Int)) := mapC_cell m W _ _ HM.out.1 1
  have d2 : W.cell? ⟨w.heap.size, 2, none⟩ = some (.int .i64 (((m 2).val : Nat) : Int)) := mapC_cell m W _ _ HM.out.1 2
  have d3 : W.cell? ⟨w.heap.size, 3, none⟩ = some (.int .i64 (((m 3).val : Nat) : Int)) := mapC_cell m W _ _ HM.out.1 3
  have hlt16 : s &&& (15 ^^^ 1 <<< v.val) < 16 := Nat.lt_of_le_of_lt Nat.and_le_left hs
  have HIM := Lib.hid (fun w => l11Images_any (s &&& (15 ^^^ 1 <<< v.val)) hlt16 m w)
  have han : bits .andNot .i64 (s : Int) ((1 <<< v.val : Nat) : Int) = ((s &&& (15 ^^^ 1 <<< v.val) : Nat) : Int) := andNot_i64 _ _ hs (Fm.bit_lt v)
  have hs1 := shl_i64 v
  have HBT := Lib.hid (fun u => img_bit s hs m v u)
  have hA := Fm.imgTo_lt (s &&& (15 ^^^ 1 <<< v.val)) m 4
  unfold mapC at hW
  have HW := Lib.hid hW
  clear hW
  generalize Fm.imgTo (s &&& (15 ^^^ 1 <<< v.val)) m 4 = A at *
  generalize (s &&& (15 ^^^ 1 <<< v.val)) = B at *
  have hv4 := v.isLt
  have hbits : ∀ u : Fin 4, bits .and .i64 ((A : Int) / ((2 ^ u.val : Nat) : Int)) 1 = if Fm.taken s m v u then 1 else 0 := fun u => by
    rcases p_bits A (2 ^ u.val) hA with ⟨h1, h2⟩ | ⟨h1, h2⟩
    · rw [h1, if_neg (fun h => h2 ((HBT.out u).2 h))]
    · rw [h1, if_pos ((HBT.out u).1 h2)]
  have hb0 : bits .and .i64 (A : Int) 1 = if Fm.taken s m v 0 then 1 else 0 := by simpa using hbits 0
  have hb1 : bits .and .i64 ((A : Int) / 2) 1 = if Fm.taken s m v 1 then 1 else 0 := hbits 1
  have hb2 : bits .and .i64 ((A : Int) / 4) 1 = if Fm.taken s m v 2 then 1 else 0 := hbits 2
  have hb3 : bits .and .i64 ((A : Int) / 8) 1 = if Fm.taken s m v 3 then 1 else 0 := hbits 3
  have hbv : bits .and .i64 ((A : Int) / 2 ^ v.val) 1 = if Fm.taken s m v v then 1 else 0 := by
    have := hbits v
    rw [show ((2 ^ v.val : Nat) : Int) = (2 : Int) ^ v.val by simp] at this
    exact this
  have HKE := Lib.hid (fun h => freshI_kept (v := v) (s := s) (m := m) h)
  have HFI := Lib.hid (fun h => freshI_first (v := v) (s := s) (m := m) h)
  unfold Fm.firstFree at HFI
  obtain ⟨RES, hres⟩ : ∃ r, Fm.freshI v s m = r := ⟨_, rfl⟩
  rw [hres] at HKE HFI ⊢
  generalize Fm.taken s m v v = tv at *
  generalize Fm.taken s m v 0 = t0 at *
  generalize Fm.taken s m v 1 = t1 at *
  generalize Fm.taken s m v 2 = t2 at *
  generalize Fm.taken s m v 3 = t3 at *
  generalize (1 <<< v.val) = C at *
  generalize v.val = k at *
  clear hres hbits HBT hlt16
  have hkI : (0 : Int) ≤ (k : Int) ∧ (k : Int) < 4 := by omega
  have hcv : IntKind.u64.wrap (k : Int) = k := IntWalk.u64_in _ (by omega)
  unfold mapV at HIM ⊢
  cases tv
  · have HE : Hid (RES = (k : Int)) := HKE.out rfl
    have hbv : bits .and .i64 ((A : Int) / 2 ^ k) 1 = 0 := hbv
    clear HKE HFI hb0 hb1 hb2 hb3
    go_enter Tryd.func145, Tryd.ntmps145
    go_upto_region 1 with fail
    rw [HW.out]
    go_wp2_with fail
    refine (HIM.out _).mono ?_; rintro e w2 ⟨rfl, hb⟩
    have HB2 := Lib.hid (HM.out.2.trans (hb.mono HM.out.2.size))
    clear hb
    go_wp2_with fail
    go_ret
    exact ⟨ret_int HE.out.symm, HB2.out⟩
  · have HE : Hid (RES = if t0 then if t1 then if t2 then if t3 then -1 else 3 else 2 else 1 else 0) := HFI.out rfl
    have hbv : bits .and .i64 ((A : Int) / 2 ^ k) 1 = 1 := hbv
    clear HKE HFI
    go_enter Tryd.func145, Tryd.ntmps145
    go_upto_region 1 with fail
    rw [HW.out]
    go_wp2_with fail
    refine (HIM.out _).mono ?_; rintro e w2 ⟨rfl, hb⟩
    have HB2 := Lib.hid (HM.out.2.trans (hb.mono HM.out.2.size))
    clear hb
    go_wp2_with fail
    go_loop [8] (fun i => i = .int .i64 0 ∨ (i = .int .i64 1 ∧ Hid (t0 = true)) ∨ (i = .int .i64 2 ∧ Hid (t0 = true ∧ t1 = true)) ∨ (i = .int .i64 3 ∧ Hid (t0 = true ∧ t1 = true ∧ t2 = true)) ∨ (i = .int .i64 4 ∧ Hid (t0 = true ∧ t1 = true ∧ t2 = true ∧ t3 = true))) (fun i => 4 - (intOf i).toNat)
    case atStart => exact .inl rfl
    case round =>
      rcases hrel with rfl | ⟨rfl, H⟩ | ⟨rfl, H⟩ | ⟨rfl, H⟩ | ⟨rfl, H⟩
      · cases t0
        · have HEE : Hid ((0 : Int) = RES) := by show _ = _; rw [HE.out]; simp
          have hb0 : bits .and .i64 (A : Int) 1 = 0 := hb0
          go_wp2_with fail
          go_ret
          exact ⟨ret_int HEE.out, HB2.out⟩
        · have hb0 : bits .and .i64 (A : Int) 1 = 1 := hb0
          go_wp2_with fail
          go_round
          case rel => exact .inr (.inl ⟨rfl, (by first | rfl | exact True.intro)⟩)
          case measure => simp [intOf]
      · cases t1
        · have HEE : Hid ((1 : Int) = RES) := by show _ = _; rw [HE.out, H.out]; simp
          have hb1 : bits .and .i64 ((A : Int) / 2) 1 = 0 := hb1
          go_wp2_with fail
          go_ret
          exact ⟨ret_int HEE.out, HB2.out⟩
        · have hb1 : bits .and .i64 ((A : Int) / 2) 1 = 1 := hb1
          go_wp2_with fail
          go_round
          case rel => exact .inr (.inr (.inl ⟨rfl, H.out, (by first | rfl | exact True.intro)⟩))
          case measure => simp [intOf]
      · cases t2
        · have HEE : Hid ((2 : Int) = RES) := by show _ = _; rw [HE.out, H.out.1, H.out.2]; simp
          have hb2 : bits .and .i64 ((A : Int) / 4) 1 = 0 := hb2
          go_wp2_with fail
          go_ret
          exact ⟨ret_int HEE.out, HB2.out⟩
        · have hb2 : bits .and .i64 ((A : Int) / 4) 1 = 1 := hb2
          go_wp2_with fail
          go_round
          case rel => exact .inr (.inr (.inr (.inl ⟨rfl, H.out.1, H.out.2, (by first | rfl | exact True.intro)⟩)))
          case measure => simp [intOf]
      · cases t3
        · have HEE : Hid ((3 : Int) = RES) := by show _ = _; rw [HE.out, H.out.1, H.out.2.1, H.out.2.2]; simp
          have hb3 : bits .and .i64 ((A : Int) / 8) 1 = 0 := hb3
          go_wp2_with fail
          go_ret
          exact ⟨ret_int HEE.out, HB2.out⟩
        · have hb3 : bits .and .i64 ((A : Int) / 8) 1 = 1 := hb3
          go_wp2_with fail
          go_round
          case rel => exact .inr (.inr (.inr (.inr (⟨rfl, H.out.1, H.out.2.1, H.out.2.2, (by first | rfl | exact True.intro)⟩))))
          case measure => simp [intOf]
      · have HEE : Hid ((-1 : Int) = RES) := by show _ = _; rw [HE.out, H.out.1, H.out.2.1, H.out.2.2.1, H.out.2.2.2]; simp
        go_wp2_with fail
        go_ret
        exact ⟨ret_int HEE.out, HB2.out⟩
end Go.Proofs.YtenjojakjdaamaaDoor

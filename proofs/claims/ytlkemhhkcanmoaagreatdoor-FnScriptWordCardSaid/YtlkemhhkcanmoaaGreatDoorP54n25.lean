/- Contracts of the program's functions and what they compute: part 25. Conditions: those that each theorem states. -/
import Derived.Test.YtlkemhhkcanmoaaGreatDoorP54n8
import Derived.Test.YtlkemhhkcanmoaaGreatDoorP54n24
import Derived.Laws.IdiomStrings
namespace Go.Proofs.YtlkemhhkcanmoaaGreatDoor
open Go.RowKit
set_option linter.unusedVariables false
set_option maxRecDepth 100000
/-- Bytes as cells. -/
def bytesC (l : List UInt8) : Array Value := (l.map fun c => Value.int .u8 (c.toNat : Int)).toArray
section
variable {W : World} {g : Nat} {l : List UInt8} {t : TypeId}
theorem bytesC_cell (h : W.heap[g]? = some (.cells (bytesC l) t (0, 0))) (k : Nat) (hk : k < l.length) : W.cell? ⟨g, k, none⟩ = some (.int .u8 ((l.getD k 0).toNat : Int)) ∧ W.frozen? ⟨g, k, none⟩ = false := by
  refine ⟨?_, by unfold World.frozen?; rw [h]; rfl⟩
  unfold World.cell?
  rw [h]
  simp [bytesC, hk]
theorem bytesC_set (h : W.heap[g]? = some (.cells (bytesC l) t (0, 0))) (k : Nat) (c : UInt8) : (W.setCell ⟨g, k, none⟩ (.int .u8 (c.toNat : Int))).heap[g]? = some (.cells (bytesC (l.set k c)) t (0, 0)) := by
  have e : (bytesC l).setIfInBounds k (.int .u8 (c.toNat : Int)) = bytesC (l.set k c) := by
    unfold bytesC
    rw [List.map_set]
    simp
  rw [← e]
  simp [World.setCell, Array.getElem?_modify, h]
end
/-- How many elements are related to an element. -/
def cntR (n : Nat) (R : ByteArray) (x : Nat) : Nat → Nat
  | 0 => 0
  | y + 1 => cntR n R x y + (if relAt n R y x then 1 else 0)
def plc (n : Nat) (R : ByteArray) (x : Nat) : Nat := cntR n R x n
/-- The letters that the first elements lay. -/
def fillW (n : Nat) (S R : ByteArray) : Nat → Option (List UInt8)
  | 0 => some (List.replicate n 0)
  | x + 1 => match fillW n S R x with
    | none => none
    | some l => if plc n R x < n ∧ l.getD (plc n R x) 0 = 0 then some (l.set (plc n R x) (if oneAt S x then 120 else 121)) else none
theorem fill_no {n : Nat} {S R : ByteArray} {x : Nat} (h : fillW n S R x = none) : ∀ {y : Nat}, x ≤ y → fillW n S R y = none
  | 0, hy => by rw [← Nat.le_zero.1 hy]; exact h
  | y + 1, hy => by
    by_cases e : x = y + 1
    · rw [← e]; exact h
    · unfold fillW
      rw [fill_no h (y := y) (by omega)]
theorem fill_step {n : Nat} {S R : ByteArray} {x : Nat} {l : List UInt8} (h : fillW n S R x = some l) : fillW n S R (x + 1) = if plc n R x < n ∧ l.getD (plc n R x) 0 = 0 then some (l.set (plc n R x) (if oneAt S x then 120 else 121)) else none := by
  show (match fillW n S R x with | none => none | some l => _) = _
  rw [h]
theorem fill_len {n : Nat} {S R : ByteArray} : ∀ {x : Nat} {l : List UInt8}, fillW n S R x = some l → l.length = n
  | 0, l, h => by
    have : List.replicate n 0 = l := Option.some.inj h
    rw [← this]; simp
  | x + 1, l, h => by
    cases hx : fillW n S R x with
    | none => rw [fill_no hx (Nat.le_succ x)] at h; cases h
    | some m =>
      rw [fill_step hx] at h
      split at h
      · have := Option.some.inj h
        rw [← this, List.length_set]; exact fill_len hx
      · cases h
/-- Bytes as a text. -/
def txB (l : List UInt8) : ByteArray := ⟨l.toArray⟩
/-- Whether the word of some letters has the shape of the structure. -/
def shpB (n : Nat) (S R : ByteArray) (l : List UInt8) : Bool := ssB (txB l).size (bitsOf (letB (txB l)) (txB l).size) (gridOf ltB (txB l).size) n S R
/-- The word of a structure. -/
def woB (n : Int) (S R : ByteArray) : Option ByteArray :=
  if validB n S R then
    match fillW n.toNat S R n.toNat with
    | none => none
    | some l => if shpB n.toNat S R l then some (txB l) else none
  else none
def woV : Option ByteArray → Value
  | none => .tuple #[.string ⟨#[]⟩, .bool false]
  | some s => .tuple #[.string s, .bool true]
theorem woB_no {n : Nat} {S R : ByteArray} (h : fillW n S R n = none) : woB n S R = none := by
  unfold woB
  rw [Int.toNat_natCast, h]
  split <;> rfl
theorem woB_some {n : Nat} {S R : ByteArray} {l : List UInt8} (hv : validB n S R = true) (h : fillW n S R n = some l) : woB n S R = if shpB n S R l then some (txB l) else none := by
  unfold woB
  rw [Int.toNat_natCast, h, if_pos hv]
/-- What WordOf keeps. -/
structure Wd (w wr : World) (g n : Nat) (S R : ByteArray) (l : List UInt8) : Prop where
  a : SBlk wr w.heap.size n S R
  bs : wr.heap[g]? = some (.cells (bytesC l) 5 (0, 0))
  ne : w.heap.size < g
  old : Below w.heap.size w wr
section
variable {w wr w' : World} {g n : Nat} {S R : ByteArray} {l : List UInt8}
theorem Wd.lt (h : Wd w wr g n S R l) : g < wr.heap.size := (Array.getElem?_eq_some_iff.1 h.bs).1
theorem Wd.below (h : Wd w wr g n S R l) (hb : Below wr.heap.size wr w') : Wd w w' g n S R l := by
  have := h.lt
  have := h.ne
  exact ⟨h.a.below hb (by omega), (hb.block _ h.lt).trans h.bs, h.ne, h.old.trans (hb.mono (by omega))⟩
theorem Wd.set (h : Wd w wr g n S R l) (k : Nat) (c : UInt8) (i : Int) (hi : i = (c.toNat : Int)) : Wd w (wr.setCell ⟨g, k, none⟩ (.int .u8 i)) g n S R (l.set k c) := by
  subst hi
  exact ⟨h.a.far (by have := h.ne; simp; omega) _, bytesC_set h.bs k c, h.ne, h.old.setCell (by have := h.ne; simp; omega) _⟩
theorem Wd.drew (h : Wd w wr g n S R l) : Wd w wr.drew g n S R l := ⟨h.a, h.bs, h.ne, h.old.drew⟩
theorem Wd.conv (h : Wd w wr g n S R l) (hl : l.length = n) : (convert 22 9 (.slice (some ⟨g, 0, none⟩) n n)).run Tryz.prog wr = .ok (.string (txB l)) wr := by
  have := run_convert_bytes_back (P := Tryz.prog) wr 22 9 5 ⟨g, 0, none⟩ n l Tryz.underlying22 Tryz.underlying5 Tryz.underlying9 (fun j hj => by
    have e : (⟨g, 0, none⟩ : Addr).add j = ⟨g, j, none⟩ := by unfold Addr.add; split <;> simp_all
    rw [e, (bytesC_cell h.bs j hj).1]
    simp [hj])
  rw [hl] at this
  exact this
end
theorem make_bytes (n : Nat) (h1 : 1 ≤ n) (h8 : n ≤ 8) (w : World) : (Instr.makeSlice 22 (.int .i64 (n : Int)) (.int .i64 (n : Int))).run Tryz.prog w = .ok (.slice (some ⟨w.heap.size, 0, none⟩) n n) (w.alloc (.cells (bytesC (List.replicate n 0)) 5)) := by
  rcases (by omega : n = 1 ∨ n = 2 ∨ n = 3 ∨ n = 4 ∨ n = 5 ∨ n = 6 ∨ n = 7 ∨ n = 8) with rfl | rfl | rfl | rfl | rfl | rfl | rfl | rfl
  all_goals kernel_rfl
set_option maxHeartbeats 4000000 in
theorem implWordOf_any (n : Int) (S R : ByteArray) (hS : S.size ≤ 9223372036854775807) (hR : R.size ≤ 9223372036854775807) (w : World) :
    Calls Tryz.prog 168 #[strV n S R] w fun e w' => e = .returned (woV (woB n S R)) ∧ Below w.heap.size w w' := by
  have HIS := Lib.hid (fun w => isStructure_any n S R w hS hR)
  have HB : Hid (SBlk (boxS w n S R) w.heap.size n S R ∧ Below w.heap.size w (boxS w n S R)) := ⟨boxS_SBlk _ _ _ _, boxS_below _ _ _ _⟩
  unfold boxS at HB
  obtain ⟨RES, hres⟩ : ∃ z, woB n S R = z := ⟨_, rfl⟩
  rw [hres]
  cases hv : validB n S R
  · have HE : Hid (RES = none) := by show _ = _; rw [← hres]; unfold woB; rw [hv]; rfl
    rw [hv] at HIS
    clear hv hres
    unfold strV at HIS
    unfold strV
    go_enter Tryz.func168, Tryz.ntmps168
    go_wp2_with fail
    refine (HIS.out _).mono ?_; rintro e w1 ⟨rfl, hb1⟩
    have HB1 := Lib.hid (HB.out.2.trans (hb1.mono HB.out.2.size))
    clear hb1
    go_wp2_with fail
    go_ret2
    exact ⟨by rw [HE.out]; rfl, HB1.out⟩
  · obtain ⟨m, rfl⟩ := nat_of_valid hv
    obtain ⟨h1, h8, hSS, hRR, _, _⟩ := valid_is hv
    rw [hv] at HIS
    have HV := Lib.hid hv
    have HRS := Lib.hid hres
    have mk := fun w => make_bytes m h1 h8 w
    have HIR := Lib.hid (fun x y w hx hy => inRel_b m S R x y w hx hy h8 hRR)
    have HIN := Lib.hid (fun x w (hx : x < m) => inSet_b m S R x w (by omega) hS)
    have HSH := Lib.hid (fun (T U : ByteArray) (k : Nat) (hT : T.size ≤ 100) (hU : U.size ≤ 100) w => SameShape_any (k : Int) T U m S R (by omega) (by omega) hS hR w)
    clear hv hres hSS hRR
    unfold strV at HIS HIR HIN HSH
    unfold strV
    go_enter Tryz.func168, Tryz.ntmps168
    go_wp2_with fail
    refine (HIS.out _).mono ?_; rintro e w1 ⟨rfl, hb1⟩
    have HB1 := Lib.hid (And.intro (HB.out.1.below hb1 HB.out.1.cells.2.2.2.2.2.2) (HB.out.2.trans (hb1.mono HB.out.2.size)))
    clear hb1
    obtain ⟨s0, s1, s2, _, _, _, hl⟩ := HB1.out.1.cells
    have hal : Below w1.heap.size w1 (w1.alloc (.cells (bytesC (List.replicate m 0)) 5)) := (Below.refl _ _).alloc (Nat.le_refl _) _
    have HW0 : Hid (Wd w (w1.alloc (.cells (bytesC (List.replicate m 0)) 5)) w1.heap.size m S R (List.replicate m 0)) :=
      ⟨HB1.out.1.below hal HB1.out.1.cells.2.2.2.2.2.2, heap_alloc_new _ _, HB1.out.1.cells.2.2.2.2.2.2, HB1.out.2.trans (hal.mono HB1.out.2.size)⟩
    clear hal
    go_upto_region 4 with fail
    obtain ⟨W1, hW1⟩ : ∃ W, w1.alloc (.cells (bytesC (List.replicate m 0)) 5) = W := ⟨_, rfl⟩
    rw [hW1] at HW0 ⊢
    generalize w1.heap.size = g at *
    clear hW1 mk s0 s1 s2 hl HB1
    obtain ⟨s0, s1, s2, _, _, _, hl⟩ := HW0.out.a.cells
    go_wp2_with fail
    go_loopw [18] (fun q wr => ∃ x : Nat, x ≤ m ∧ q = .int .i64 (x : Int) ∧ ∃ l : List UInt8, Hid (fillW m S R x = some l ∧ Wd w wr g m S R l)) (fun q _ => m - (intOf q).toNat)
    case atStart => exact ⟨0, by omega, rfl, _, rfl, HW0.out⟩
    case round =>
      clear s0 s1 s2 hl HW0
      obtain ⟨x, hx, rfl, l, HX⟩ := hrel
      obtain ⟨s0, s1, s2, _, _, _, hl⟩ := HX.out.2.a.cells
      by_cases hlt : x < m
      · have hltI : (x : Int) < (m : Int) := by omega
        go_wp2_with fail
        go_loopw [23, 6] (fun q p wr => ∃ y : Nat, y ≤ m ∧ q = .int .i64 (y : Int) ∧ ∃ z : Nat, z ≤ y ∧ p = .int .i64 (z : Int) ∧ Hid (cntR m R x y = z ∧ Wd w wr g m S R l)) (fun q _ _ => m - (intOf q).toNat)
        case atStart => exact ⟨0, by omega, rfl, 0, by omega, rfl, rfl, HX.out.2⟩
        case round =>
          clear s0 s1 s2 hl
          obtain ⟨y, hy, rfl, z, hz, rfl, HY⟩ := hrel
          obtain ⟨s0, s1, s2, _, _, _, hl⟩ := HY.out.2.a.cells
          by_cases hly : y < m
          · have hlyI : (y : Int) < (m : Int) := by omega
            have HR1 := Lib.hid (fun w => HIR.out y x w hly hlt)
            have HCS : Hid (cntR m R x (y + 1) = z + (if relAt m R y x then 1 else 0)) := by show _ = _; rw [← HY.out.1]; rfl
            generalize relAt m R y x = bt at *
            go_wp2_with fail
            refine (HR1.out _).mono ?_; rintro e w2 ⟨rfl, hb2⟩
            have HY2 := Lib.hid (HY.out.2.below hb2)
            clear hb2 HR1
            cases bt
            · go_wp2_with fail
              go_roundw
              case rel => exact ⟨y + 1, by omega, by go_num, z, by omega, rfl, HCS.out, HY2.out⟩
              case measure => simp [intOf]; omega
            · go_wp2_with fail
              go_roundw
              case rel => exact ⟨y + 1, by omega, by go_num, z + 1, by omega, by go_num, HCS.out, HY2.out⟩
              case measure => simp [intOf]; omega
          · have hlyI : ¬ (y : Int) < (m : Int) := by omega
            have hym : y = m := by omega
            have HP : Hid (plc m R x = z) := by have := HY.out.1; rw [hym] at this; exact this
            have hlen := fill_len HX.out.1
            have HSTEP := Lib.hid (fill_step HX.out.1)
            rw [HP.out] at HSTEP
            have HLEN := Lib.hid hlen
            clear hlen
            by_cases hzm : z < m
            · have hzI : ¬ (m : Int) ≤ (z : Int) := by omega
              obtain ⟨d1, d2⟩ := bytesC_cell HY.out.2.bs z (by rw [HLEN.out]; exact hzm)
              obtain ⟨c, hc⟩ : ∃ c, l.getD z 0 = c := ⟨_, rfl⟩
              rw [hc] at d1 HSTEP
              by_cases hc0 : c = 0
              · have HSN : Hid (fillW m S R (x + 1) = some (l.set z (if oneAt S x then 120 else 121))) := HSTEP.out.trans (if_pos ⟨hzm, hc0⟩)
                have hcI : ((c.toNat : Int) != 0) = false := by rw [hc0]; rfl
                have hcI2 : (c.toNat : Int) = 0 := by rw [hc0]; rfl
                have HI1 := Lib.hid (fun w => HIN.out x w hlt)
                generalize oneAt S x = bt at *
                have HS1 := Lib.hid (HY.out.2.set z 121 121 rfl)
                clear hc hc0 HSTEP
                go_upto_region 17 with fail
                obtain ⟨i0, i1, i2, _, _, _, hm⟩ := HS1.out.a.cells
                go_wp2_with fail
                refine (HI1.out _).mono ?_; rintro e w2 ⟨rfl, hb2⟩
                have HS2 := Lib.hid (HS1.out.below hb2)
                clear hb2 i0 i1 i2 hm HI1
                have hl2 : z < (l.set z 121).length := by rw [List.length_set, HLEN.out]; exact hzm
                obtain ⟨q1, q2⟩ := bytesC_cell HS2.out.bs z hl2
                cases bt
                · go_wp2_with fail
                  go_roundw
                  case rel => exact ⟨x + 1, by omega, by go_num, _, HSN.out, HS2.out⟩
                  case measure => simp [intOf]; omega
                · have HS3 := Lib.hid (HS2.out.set z 120 120 rfl)
                  have HSE : Hid (fillW m S R (x + 1) = some ((l.set z 121).set z 120)) := by show _ = _; rw [HSN.out, List.set_set]; rfl
                  go_wp2_with fail
                  go_roundw
                  case rel => exact ⟨x + 1, by omega, by go_num, _, HSE.out, HS3.out⟩
                  case measure => simp [intOf]; omega
              · have HNO : Hid (RES = none) := by
                  show _ = _
                  rw [← HRS.out]
                  exact woB_no (fill_no (HSTEP.out.trans (if_neg (fun h => hc0 h.2))) (by omega))
                have hcI : ((c.toNat : Int) != 0) = true := by
                  rw [bne_iff_ne]
                  intro h
                  exact hc0 (UInt8.toNat_inj.1 (by simpa using h))
                have hcI2 : ¬ (c.toNat : Int) = 0 := by rw [bne_iff_ne] at hcI; exact hcI
                clear hc hc0 HSTEP
                go_wp2_with fail
                go_ret2
                exact ⟨by rw [HNO.out]; rfl, HY.out.2.old⟩
            · have hzI : (m : Int) ≤ (z : Int) := by omega
              have HNO : Hid (RES = none) := by
                show _ = _
                rw [← HRS.out]
                exact woB_no (fill_no (HSTEP.out.trans (if_neg (fun h => hzm h.1))) (by omega))
              clear HSTEP
              go_wp2_with fail
              go_ret2
              exact ⟨by rw [HNO.out]; rfl, HY.out.2.old⟩
      · have hltI : ¬ (x : Int) < (m : Int) := by omega
        have hxm : x = m := by omega
        have hF := HX.out.1
        rw [hxm] at hF
        have hlen := fill_len hF
        have hz : (txB l).size = m := by rw [← hlen]; simp [txB, ByteArray.size]
        have HRF : Hid (RES = if shpB m S R l then some (txB l) else none) := by show _ = _; rw [← HRS.out]; exact woB_some HV.out hF
        have HWS := Lib.hid (fun w => implWordStr_any (txB l) w (by omega))
        have HSS : Hid (∀ w, Calls Tryz.prog 162 #[.agg #[.int .i64 ((txB l).size : Int), .string (bitsOf (letB (txB l)) (txB l).size), .string (gridOf ltB (txB l).size)], .agg #[.int .i64 (m : Int), .string S, .string R]] w fun e w' => (∃ v, e = .returned (.tuple #[v, .bool (shpB m S R l)])) ∧ Below w.heap.size w w') := fun w =>
          HSH.out _ _ (txB l).size (by rw [bitsOf_size]; omega) (by unfold gridOf; rw [bitsOf_size, hz]; have := Nat.mul_le_mul h8 h8; omega) w
        have cv := HX.out.2.drew.conv hlen
        have HCV := Lib.hid (fun w' (h : Wd w w' g m S R l) => h.conv hlen)
        unfold wordV strV at HWS
        generalize bitsOf (letB (txB l)) (txB l).size = TB at *
        generalize gridOf ltB (txB l).size = UB at *
        generalize (txB l).size = k at *
        generalize shpB m S R l = bt at *
        generalize txB l = tx at *
        have HXW := Lib.hid HX.out.2
        clear hF hlen hz HSH HX
        go_wp2_with fail
        go_region_with (first
          | (go_at_call 22; refine (HWS.out _).mono ?_; rintro e w2 ⟨rfl, hb2⟩; have HW2 := Lib.hid (HXW.out.drew.below hb2); clear hb2; obtain ⟨i0, i1, i2, i3, i4, i5, hm⟩ := HW2.out.a.cells)
          | (go_at_call 162; refine (HSS.out _).mono ?_; rintro e w3 ⟨⟨v3, rfl⟩, hb3⟩; have HW3 := Lib.hid (HW2.out.below hb3); clear hb3; have cv3 := HCV.out _ HW3.out))
        all_goals
          cases bt
          · have HE : Hid (RES = none) := HRF.out.trans (if_neg (by simp))
            go_wp2_with fail
            go_ret2
            exact ⟨by rw [HE.out]; rfl, HW3.out.old⟩
          · have HE : Hid (RES = some tx) := HRF.out.trans (if_pos rfl)
            go_wp2_with fail
            go_ret2
            exact ⟨by rw [HE.out]; rfl, HW3.out.old⟩
end Go.Proofs.YtlkemhhkcanmoaaGreatDoor

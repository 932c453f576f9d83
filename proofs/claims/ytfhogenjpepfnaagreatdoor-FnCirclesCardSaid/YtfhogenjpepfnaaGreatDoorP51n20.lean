/- Contracts of the program's functions and what they compute: part 20. Conditions: those that each theorem states. -/
import Derived.Test.YtfhogenjpepfnaaGreatDoorP51n4
import Derived.Test.YtfhogenjpepfnaaGreatDoorP51n18
import Derived.Test.YtfhogenjpepfnaaGreatDoorP51n19
import Derived.StillTailTactics
namespace Go.Proofs.YtfhogenjpepfnaaGreatDoor
open Go.RowKit
set_option linter.unusedVariables false
theorem valid_is {n : Nat} {S R : ByteArray} (h : validB n S R = true) : 1 ≤ n ∧ n ≤ 8 ∧ S.size = n ∧ R.size = n * n ∧ bitsB S n = true ∧ bitsB R (n * n : Nat) = true := by
  simp only [validB, Bool.and_eq_true, inB_iff] at h
  obtain ⟨⟨h1, h8⟩, h2, h3⟩ := h
  have h3' : bitsB R ((n * n : Nat) : Int) = true := by rw [Int.natCast_mul]; exact h3
  refine ⟨by omega, by omega, ?_, ?_, h2, h3'⟩
  · simp only [bitsB, Bool.and_eq_true, decide_eq_true_eq] at h2
    omega
  · simp only [bitsB, Bool.and_eq_true, decide_eq_true_eq] at h3'
    omega
/-- A text of bits is the text of its bits. -/
theorem bits_back {s : ByteArray} {n : Nat} (h : bitsB s n = true) : bitsOf (oneAt s) n = s := by
  simp only [bitsB, Bool.and_eq_true, decide_eq_true_eq] at h
  obtain ⟨h1, h2⟩ := h
  have hl : s.data.toList.length = n := by
    have : s.size = n := by omega
    simpa using this
  apply ByteArray.ext
  show ((List.range n).map fun i => bit (oneAt s i)).toArray = s.data
  rw [← Array.toArray_toList (xs := s.data)]
  congr 1
  apply List.ext_getElem (by simp; omega)
  intro i h3 h4
  simp only [List.getElem_map, List.getElem_range]
  have hm := List.all_eq_true.1 h2 s.data.toList[i] (List.getElem_mem h4)
  have hg : s.data.toList.getD i 0 = s.data.toList[i] := by
    rw [List.getD_eq_getElem?_getD, List.getElem?_eq_getElem h4]; rfl
  unfold oneAt
  rw [hg]
  generalize s.data.toList[i] = c at hm ⊢
  simp only [is01, Bool.or_eq_true, beq_iff_eq] at hm
  rcases hm with rfl | rfl
  · rfl
  · rfl
theorem bitsB_bitsOf (f : Nat → Bool) (n : Nat) : bitsB (bitsOf f n) n = true := by
  simp only [bitsB, Bool.and_eq_true, decide_eq_true_eq, bitsOf_size, true_and]
  rw [List.all_eq_true]
  intro c hc
  have hc : c ∈ (List.range n).map fun i => bit (f i) := hc
  obtain ⟨i, _, rfl⟩ := List.mem_map.1 hc
  cases f i
  · rfl
  · rfl
theorem valid_bits {n : Nat} (h1 : 1 ≤ n) (h8 : n ≤ 8) (s : Nat → Bool) (r : Nat → Nat → Bool) : validB n (bitsOf s n) (gridOf r n) = true := by
  simp only [validB, Bool.and_eq_true]
  refine ⟨inB_iff.2 ⟨by omega, by omega⟩, bitsB_bitsOf _ _, ?_⟩
  rw [← Int.natCast_mul]
  exact bitsB_bitsOf _ _
theorem bitsOf_append (f g : Nat → Bool) (n m : Nat) : bitsOf f n ++ bitsOf g m = bitsOf (fun x => if x < n then f x else g (x - n)) (n + m) := by
  induction m with
  | zero =>
    rw [bitsOf_zero, ba_nil, Nat.add_zero]
    exact bitsOf_congr fun i hi => by rw [if_pos hi]
  | succ m ih =>
    rw [bitsOf_succ, ← ba_assoc, ih, ← Nat.add_assoc, bitsOf_succ, if_neg (by omega), show n + m - n = m by omega]
/-- Whether an element of a sum is in the set. -/
def sumSet (n : Nat) (S S2 : ByteArray) (x : Nat) : Bool := if x < n then oneAt S x else oneAt S2 (x - n)
/-- Whether two elements of a sum are related. -/
def sumRel (o : Bool) (n : Nat) (R : ByteArray) (m : Nat) (R2 : ByteArray) (x y : Nat) : Bool :=
  if x < n then (if y < n then relAt n R x y else o) else (if y < n then false else relAt m R2 (x - n) (y - n))
def sumV (o : Bool) (n : Nat) (S R : ByteArray) (m : Nat) (S2 R2 : ByteArray) : Value :=
  strV ((n : Int) + (m : Int)) (bitsOf (sumSet n S S2) (n + m)) (gridOf (sumRel o n R m R2) (n + m))
theorem sum_set {n m : Nat} {S S2 : ByteArray} (h : bitsB S n = true) (h2 : bitsB S2 m = true) : S ++ S2 = bitsOf (sumSet n S S2) (n + m) := by
  have e := bitsOf_append (oneAt S) (oneAt S2) n m
  rw [bits_back h, bits_back h2] at e
  exact e
theorem sumCl1_any (n : Nat) (S R : ByteArray) (m : Nat) (S2 R2 : ByteArray) (x : Nat) (W : World) (pn pa pb : Nat)
    (hS : S.size = n) (hS2 : S2.size = m) (hn : n ≤ 8) (hm : m ≤ 8) (hx : x < n + m)
    (hp : W.cell? ⟨pn, 0, none⟩ = some (.int .i64 (n : Int))) (ha : SBlk W pa n S R) (hb : SBlk W pb m S2 R2) :
    Calls Tryz.prog 52 (#[.int .i64 (x : Int)] ++ #[.pointer (some ⟨pn, 0, none⟩), .pointer (some ⟨pa, 0, none⟩), .pointer (some ⟨pb, 0, none⟩)]) W fun e w' => e = .returned (.bool (sumSet n S S2 x)) ∧ Below W.heap.size W w' := by
  show Calls Tryz.prog 52 #[.int .i64 (x : Int), .pointer (some ⟨pn, 0, none⟩), .pointer (some ⟨pa, 0, none⟩), .pointer (some ⟨pb, 0, none⟩)] W _
  obtain ⟨c0, c1, c2, f0, f1, f2, hl⟩ := ha.cells
  obtain ⟨d0, d1, d2, g0, g1, g2, hl2⟩ := hb.cells
  by_cases h : x < n
  · have HR : Hid (oneAt S x = sumSet n S S2 x) := by simp [Hid, sumSet, h]
    have HI := Lib.hid (fun w => inSet_any (n : Int) S R x w (by omega) (by omega))
    go_enter Tryz.func52, Tryz.ntmps52
    go_wp2_with fail
    refine (HI.out _).mono ?_; rintro e w' ⟨rfl, rfl⟩
    generalize oneAt S x = b at *
    go_wp2_with fail
    go_ret
    exact ⟨ret_bool HR.out, boxS_below _ _ _ _⟩
  · have HR : Hid (oneAt S2 (x - n) = sumSet n S S2 x) := by simp [Hid, sumSet, h]
    have HI := Lib.hid (fun w => inSet_any (m : Int) S2 R2 (x - n) w (by omega) (by omega))
    have hsub : IntKind.i64.wrap ((x : Int) - (n : Int)) = ((x - n : Nat) : Int) := by
      rw [show ((x : Int) - (n : Int)) = ((x - n : Nat) : Int) by omega]
      exact IntWalk.i64_in _ (by omega)
    go_enter Tryz.func52, Tryz.ntmps52
    go_wp2_with fail
    refine (HI.out _).mono ?_; rintro e w' ⟨rfl, rfl⟩
    generalize oneAt S2 (x - n) = b at *
    go_wp2_with fail
    go_ret
    exact ⟨ret_bool HR.out, boxS_below _ _ _ _⟩
theorem sumCl2_any (o : Bool) (n : Nat) (S R : ByteArray) (m : Nat) (S2 R2 : ByteArray) (x y : Nat) (W : World) (pn pa pb po : Nat)
    (hR : R.size = n * n) (hR2 : R2.size = m * m) (hn : n ≤ 8) (hm : m ≤ 8) (hx : x < n + m) (hy : y < n + m)
    (hp : W.cell? ⟨pn, 0, none⟩ = some (.int .i64 (n : Int))) (hpo : W.cell? ⟨po, 0, none⟩ = some (.bool o)) (ha : SBlk W pa n S R) (hb : SBlk W pb m S2 R2) :
    Calls Tryz.prog 54 (#[.int .i64 (x : Int), .int .i64 (y : Int)] ++ #[.pointer (some ⟨pn, 0, none⟩), .pointer (some ⟨pa, 0, none⟩), .pointer (some ⟨pb, 0, none⟩), .pointer (some ⟨po, 0, none⟩)]) W fun e w' => e = .returned (.bool (sumRel o n R m R2 x y)) ∧ Below W.heap.size W w' := by
  show Calls Tryz.prog 54 #[.int .i64 (x : Int), .int .i64 (y : Int), .pointer (some ⟨pn, 0, none⟩), .pointer (some ⟨pa, 0, none⟩), .pointer (some ⟨pb, 0, none⟩), .pointer (some ⟨po, 0, none⟩)] W _
  obtain ⟨c0, c1, c2, f0, f1, f2, hl⟩ := ha.cells
  obtain ⟨d0, d1, d2, g0, g1, g2, hl2⟩ := hb.cells
  by_cases h : x < n
  · by_cases h' : y < n
    · have HR : Hid (relAt n R x y = sumRel o n R m R2 x y) := by simp [Hid, sumRel, h, h']
      have HI := Lib.hid (fun w => inRel_any n S R x y w h h' hn hR)
      clear hR hR2
      go_enter Tryz.func54, Tryz.ntmps54
      go_wp2_with fail
      refine (HI.out _).mono ?_; rintro e w' ⟨rfl, rfl⟩
      generalize relAt n R x y = b at *
      go_wp2_with fail
      go_ret
      exact ⟨ret_bool HR.out, boxS_below _ _ _ _⟩
    · have HR : Hid (o = sumRel o n R m R2 x y) := by simp [Hid, sumRel, h, h']
      clear hR hR2
      cases o
      · go_enter Tryz.func54, Tryz.ntmps54
        go_wp2_with fail
        go_ret
        exact ⟨ret_bool HR.out, Below.refl _ _⟩
      · go_enter Tryz.func54, Tryz.ntmps54
        go_wp2_with fail
        go_ret
        exact ⟨ret_bool HR.out, Below.refl _ _⟩
  · by_cases h' : y < n
    · have HR : Hid (false = sumRel o n R m R2 x y) := by simp [Hid, sumRel, h, h']
      clear hR hR2
      cases o
      · go_enter Tryz.func54, Tryz.ntmps54
        go_wp2_with fail
        go_ret
        exact ⟨ret_bool HR.out, Below.refl _ _⟩
      · go_enter Tryz.func54, Tryz.ntmps54
        go_wp2_with fail
        go_ret
        exact ⟨ret_bool HR.out, Below.refl _ _⟩
    · have HR : Hid (relAt m R2 (x - n) (y - n) = sumRel o n R m R2 x y) := by simp [Hid, sumRel, h, h']
      have HI := Lib.hid (fun w => inRel_any m S2 R2 (x - n) (y - n) w (by omega) (by omega) hm hR2)
      have hsub : IntKind.i64.wrap ((x : Int) - (n : Int)) = ((x - n : Nat) : Int) := by
        rw [show ((x : Int) - (n : Int)) = ((x - n : Nat) : Int) by omega]
        exact IntWalk.i64_in _ (by omega)
      have hsub2 : IntKind.i64.wrap ((y : Int) - (n : Int)) = ((y - n : Nat) : Int) := by
        rw [show ((y : Int) - (n : Int)) = ((y - n : Nat) : Int) by omega]
        exact IntWalk.i64_in _ (by omega)
      clear hR hR2
      go_enter Tryz.func54, Tryz.ntmps54
      go_wp2_with fail
      refine (HI.out _).mono ?_; rintro e w' ⟨rfl, rfl⟩
      generalize relAt m R2 (x - n) (y - n) = b at *
      go_wp2_with fail
      go_ret
      exact ⟨ret_bool HR.out, boxS_below _ _ _ _⟩
/-- The blocks that a sum's frame holds: the two structures, and whether ordered, at b; the result's block is empty. -/
structure SumFr (w wr : World) (o : Bool) (n : Nat) (S R : ByteArray) (m : Nat) (S2 R2 : ByteArray) : Prop where
  a : SBlk wr w.heap.size n S R
  b : SBlk wr (w.heap.size + 1) m S2 R2
  o : wr.cell? ⟨w.heap.size + 2, 0, none⟩ = some (.bool o)
  res : SBlk wr (w.heap.size + 3) 0 ByteArray.empty ByteArray.empty
  old : Below w.heap.size w wr
theorem SumFr.below {w wr w' : World} {o : Bool} {n m : Nat} {S R S2 R2 : ByteArray} (h : SumFr w wr o n S R m S2 R2) (hb : Below wr.heap.size wr w') : SumFr w w' o n S R m S2 R2 := by
  have h1 := h.res.cells.2.2.2.2.2.2
  refine ⟨h.a.below hb (by omega), h.b.below hb (by omega), ?_, h.res.below hb h1, h.old.trans (hb.mono (by omega))⟩
  rw [hb.cell (by simp; omega)]
  exact h.o
theorem SumFr.alloc {w wr : World} {o : Bool} {n m : Nat} {S R S2 R2 : ByteArray} (h : SumFr w wr o n S R m S2 R2) (x : Obj) : SumFr w (wr.alloc x) o n S R m S2 R2 :=
  h.below ((Below.refl _ _).alloc (Nat.le_refl _) _)
def sumRes (o : Bool) (n : Nat) (S R : ByteArray) (m : Nat) (S2 R2 : ByteArray) : Value :=
  .tuple #[if n + m ≤ 8 then sumV o n S R m S2 R2 else strV 0 ByteArray.empty ByteArray.empty, .bool (decide (n + m ≤ 8))]
theorem sumOf_any (o : Bool) (n : Nat) (S R : ByteArray) (m : Nat) (S2 R2 : ByteArray) (w : World) (h1 : validB n S R = true) (h2 : validB m S2 R2 = true) :
    Calls Tryz.prog 31 #[strV n S R, strV m S2 R2, .bool o] w fun e w' => e = .returned (sumRes o n S R m S2 R2) ∧ Below w.heap.size w w' := by
  obtain ⟨a1, a8, aS, aR, _, _⟩ := valid_is h1
  obtain ⟨b1, b8, bS, bR, _, _⟩ := valid_is h2
  have a64 : n * n ≤ 64 := Nat.mul_le_mul a8 a8
  have b64 : m * m ≤ 64 := Nat.mul_le_mul b8 b8
  have I1 := Lib.hid (fun w => isStructure_any n S R w (by omega) (by omega))
  have I2 := Lib.hid (fun w => isStructure_any m S2 R2 w (by omega) (by omega))
  rw [h1] at I1; rw [h2] at I2
  have HM := Lib.hid (fun (h : n + m ≤ 8) k1 k2 c1 c2 w => makeStructure_any (n + m) h k1 k2 c1 c2 (sumSet n S S2) (sumRel o n R m R2) w)
  simp only [Int.natCast_add] at HM
  have HC1 := Lib.hid (fun x W pn pa pb => sumCl1_any n S R m S2 R2 x W pn pa pb aS bS a8 b8)
  have HC2 := Lib.hid (fun x y W pn pa pb po => sumCl2_any o n S R m S2 R2 x y W pn pa pb po aR bR a8 b8)
  clear aS aR bS bR a64 b64 h1 h2
  have hF : SumFr w ((boxS (boxS w n S R) m S2 R2).alloc (.cells #[.bool o] 4) |>.alloc (.cells #[.int .i64 0, .string ByteArray.empty, .string ByteArray.empty] 26)) o n S R m S2 R2 := by
    have hb0 := boxS_below w n S R
    have hb1 : Below w.heap.size w (boxS (boxS w n S R) m S2 R2) := hb0.trans ((boxS_below (boxS w n S R) m S2 R2).mono (by rw [boxS_size]; omega))
    refine ⟨?_, ?_, ?_, ?_, ?_⟩
    · exact (((boxS_SBlk w n S R).below (boxS_below (boxS w n S R) m S2 R2) (by rw [boxS_size]; omega)).below ((Below.refl _ _).alloc (Nat.le_refl _) _) (by rw [boxS_size, boxS_size]; omega)).below ((Below.refl _ _).alloc (Nat.le_refl _) _) (by simp [boxS] <;> omega)
    · have h := boxS_SBlk (boxS w n S R) m S2 R2
      rw [boxS_size] at h
      exact (h.below ((Below.refl _ _).alloc (Nat.le_refl _) _) (by rw [boxS_size, boxS_size]; omega)).below ((Below.refl _ _).alloc (Nat.le_refl _) _) (by simp [boxS] <;> omega)
    · unfold boxS
      go_simp
    · have h := SBlk.new ((boxS (boxS w n S R) m S2 R2).alloc (.cells #[.bool o] 4)) 0 ByteArray.empty ByteArray.empty
      simpa [boxS] using h
    · exact (hb1.alloc hb1.size _).alloc (by have := hb1.size; simp; omega) _
  have HF := Lib.hid hF; clear hF
  unfold boxS at HF
  by_cases hnm : n + m ≤ 8
  · have HR : Hid (sumRes o n S R m S2 R2 = .tuple #[sumV o n S R m S2 R2, .bool true]) := by simp [Hid, sumRes, hnm]
    unfold strV
    go_enter Tryz.func31, Tryz.ntmps31
    go_wp2_with fail
    refine (I1.out _).mono ?_; rintro e w1 ⟨rfl, hb⟩
    have HF1 := Lib.hid (HF.out.below hb); clear hb
    obtain ⟨c0, c1, c2, f0, f1, f2, hl⟩ := HF1.out.a.cells
    obtain ⟨d0, d1, d2, g0, g1, g2, hl2⟩ := HF1.out.b.cells
    unfold strV at I2
    go_wp2_with fail
    refine (I2.out _).mono ?_; rintro e w2 ⟨rfl, hb⟩
    have HF2 := Lib.hid (HF1.out.below hb); clear hb
    clear c0 c1 c2 f0 f1 f2 hl d0 d1 d2 g0 g1 g2 hl2
    obtain ⟨c0, c1, c2, f0, f1, f2, hl⟩ := HF2.out.a.cells
    obtain ⟨d0, d1, d2, g0, g1, g2, hl2⟩ := HF2.out.b.cells
    go_wp2_with fail
    refine (HM.out hnm _ _ _ _ _ (fun _ _ => by kernel_rfl) (fun _ _ => by kernel_rfl) (fun x W hx hW => ?_) (fun x y W hx hy hW => ?_)).mono ?_
    · have HF3 := (HF2.out.alloc _).below hW
      refine HC1.out x W _ _ _ hx ?_ HF3.a HF3.b
      rw [hW.cell (by simp)]
      go_simp
    · have HF3 := (HF2.out.alloc _).below hW
      refine HC2.out x y W _ _ _ _ hx hy ?_ HF3.o HF3.a HF3.b
      rw [hW.cell (by simp)]
      go_simp
    · rintro e w3 ⟨rfl, hb⟩
      have HF3 := Lib.hid ((HF2.out.alloc _).below hb); clear hb
      obtain ⟨e0, e1, e2, k0, k1, k2, hl3⟩ := HF3.out.res.cells
      unfold strV
      go_wp2_with fail
      refine bodyPost_ret (v := .tuple #[sumV o n S R m S2 R2, .bool true]) ?_ rfl ⟨by rw [HR.out], ?_⟩
      · exact results_str2 rfl rfl HF3.out.res.set3 rfl
      · exact ((HF3.out.old.setCell (by simp <;> omega) _).setCell (by simp <;> omega) _).setCell (by simp <;> omega) _
  · have HR : Hid (sumRes o n S R m S2 R2 = .tuple #[strV 0 ByteArray.empty ByteArray.empty, .bool false]) := by simp [Hid, sumRes, hnm]
    unfold strV
    go_enter Tryz.func31, Tryz.ntmps31
    go_wp2_with fail
    refine (I1.out _).mono ?_; rintro e w1 ⟨rfl, hb⟩
    have HF1 := Lib.hid (HF.out.below hb); clear hb
    obtain ⟨c0, c1, c2, f0, f1, f2, hl⟩ := HF1.out.a.cells
    obtain ⟨d0, d1, d2, g0, g1, g2, hl2⟩ := HF1.out.b.cells
    unfold strV at I2
    go_wp2_with fail
    refine (I2.out _).mono ?_; rintro e w2 ⟨rfl, hb⟩
    have HF2 := Lib.hid (HF1.out.below hb); clear hb
    clear c0 c1 c2 f0 f1 f2 hl d0 d1 d2 g0 g1 g2 hl2
    obtain ⟨c0, c1, c2, f0, f1, f2, hl⟩ := HF2.out.a.cells
    obtain ⟨d0, d1, d2, g0, g1, g2, hl2⟩ := HF2.out.b.cells
    obtain ⟨e0, e1, e2, k0, k1, k2, hl3⟩ := HF2.out.res.cells
    go_wp2_with fail
    refine bodyPost_ret (v := .tuple #[strV 0 ByteArray.empty ByteArray.empty, .bool false]) ?_ rfl ⟨by rw [HR.out], ?_⟩
    · exact results_str2 rfl rfl HF2.out.res.set3 rfl
    · exact ((HF2.out.old.setCell (by simp <;> omega) _).setCell (by simp <;> omega) _).setCell (by simp <;> omega) _
/-- What the loops of l10Sum keep. -/
structure SumInv (w wr : World) (n : Nat) (S R : ByteArray) (m : Nat) (S2 R2 : ByteArray) (T U : ByteArray) : Prop where
  a : SBlk wr w.heap.size n S R
  b : SBlk wr (w.heap.size + 1) m S2 R2
  res : SBlk wr (w.heap.size + 2) 0 ByteArray.empty ByteArray.empty
  out : SBlk wr (w.heap.size + 3) ((n : Int) + (m : Int)) T U
  old : Below w.heap.size w wr
theorem SumInv.drew {w wr : World} {n m : Nat} {S R S2 R2 T U : ByteArray} (h : SumInv w wr n S R m S2 R2 T U) : SumInv w wr.drew n S R m S2 R2 T U := ⟨h.a, h.b, h.res, h.out, h.old.drew⟩
theorem SumInv.below {w wr w' : World} {n m : Nat} {S R S2 R2 T U : ByteArray} (h : SumInv w wr n S R m S2 R2 T U) (hb : Below wr.heap.size wr w') : SumInv w w' n S R m S2 R2 T U := by
  have h1 := h.out.cells.2.2.2.2.2.2
  exact ⟨h.a.below hb (by omega), h.b.below hb (by omega), h.res.below hb (by omega), h.out.below hb h1, h.old.trans (hb.mono (by omega))⟩
theorem SumInv.set2 {w wr : World} {n m : Nat} {S R S2 R2 T U : ByteArray} (h : SumInv w wr n S R m S2 R2 T U) (U' : ByteArray) : SumInv w (wr.setCell ⟨w.heap.size + 3, 2, none⟩ (.string U')) n S R m S2 R2 T U' :=
  ⟨h.a.far (by simp) _, h.b.far (by simp) _, h.res.far (by simp) _, h.out.set2, h.old.setCell (by simp <;> omega) _⟩
end Go.Proofs.YtfhogenjpepfnaaGreatDoor

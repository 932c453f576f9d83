/- The reference's l5Atoms: the atoms of a list as bits. Conditions: the structure is valid, the list is of its elements. -/
import Derived.Test.YtagnikcnakdehaaDoorWith
namespace Go.Proofs.YtagnikcnakdehaaDoor
open Go.RowKit
set_option linter.unusedVariables false

/-- A text of bytes. -/
def txt (l : List UInt8) : ByteArray := ⟨l.toArray⟩
theorem txt_size (l : List UInt8) : (txt l).size = l.length := by
  show l.toArray.size = _
  simp
theorem txt_append (l m : List UInt8) : txt (l ++ m) = txt l ++ txt m := by
  apply ByteArray.ext
  rw [ByteArray.data_append]
  simp [txt]
theorem txt_inj {l m : List UInt8} (h : txt l = txt m) : l = m := by
  have := congrArg (fun b => b.data.toList) h
  simpa [txt] using this
theorem bitS_txt (b : Bool) : bitS b = txt [Gs.bitU b] := rfl
theorem l1Set_b (n : Int) (S R : ByteArray) (x : Nat) (w : World) (hx : x < S.size) (hS : S.size ≤ 9223372036854775807) :
    Calls Tryd.prog 104 #[strV n S R, .int .i64 (x : Int)] w fun e w' => e = .returned (.bool (oneAt S x)) ∧ Below w.heap.size w w' :=
  (l1Set_any n S R x w hx hS).mono fun _ _ ⟨h1, h2⟩ => ⟨h1, by rw [h2]; exact boxS_below _ _ _ _⟩
theorem l1Rel_b (n : Nat) (S R : ByteArray) (x y : Nat) (w : World) (hx : x < n) (hy : y < n) (hn : n ≤ 8) (hR : R.size = n * n) :
    Calls Tryd.prog 102 #[strV n S R, .int .i64 (x : Int), .int .i64 (y : Int)] w fun e w' => e = .returned (.bool (relAt n R x y)) ∧ Below w.heap.size w w' :=
  (l1Rel_any n S R x y w hx hy hn hR).mono fun _ _ ⟨h1, h2⟩ => ⟨h1, by rw [h2]; exact boxS_below _ _ _ _⟩

theorem ret_str {a b : ByteArray} (h : a = b) : Ending.returned (.string a) = .returned (.string b) := by rw [h]
/-- The atoms of an element and those before it, as far as k. -/
def part (a : Gs.St) (la : List Nat) (x k : Nat) : List UInt8 := Gs.bitU (a.s x) :: ((la.take k).flatMap fun y => [Gs.bitU (decide (x = y)), Gs.bitU (a.r x y), Gs.bitU (a.r y x)])
theorem part_length (a : Gs.St) (la : List Nat) (x k : Nat) : (part a la x k).length ≤ 1 + 3 * k := by
  have h : ∀ l : List Nat, (l.flatMap fun y => [Gs.bitU (decide (x = y)), Gs.bitU (a.r x y), Gs.bitU (a.r y x)]).length = 3 * l.length := by
    intro l
    induction l with
    | nil => rfl
    | cons y l ih => simp only [List.flatMap_cons, List.length_append, List.length_cons, List.length_nil, ih]; omega
  unfold part
  rw [List.length_cons, h, List.length_take]
  omega
theorem part_succ (a : Gs.St) (la : List Nat) (x k : Nat) (hk : k < la.length) : part a la x (k + 1) = part a la x k ++ ([Gs.bitU (decide (x = la.getD k 0))] ++ [Gs.bitU (a.r x (la.getD k 0))] ++ [Gs.bitU (a.r (la.getD k 0) x)]) := by
  unfold part
  rw [List.take_succ_eq_append_getElem hk, List.flatMap_append, List.cons_append]
  simp [hk]
theorem part_all (a : Gs.St) (la : List Nat) (i : Nat) (hi : i < la.length) : Gs.atomsTo a la (i + 1) = Gs.atomsTo a la i ++ part a la (la.getD i 0) (i + 1) := by
  show Gs.atomsTo a la i ++ Gs.atomsAt a (la.take i) (la.getD i 0) = _
  unfold Gs.atomsAt part
  rw [List.take_succ_eq_append_getElem hi]
  simp [hi]
theorem atomsTo_le (a : Gs.St) (la : List Nat) (i : Nat) (hi : i ≤ 8) : (Gs.atomsTo a la i).length ≤ 28 * i := by
  induction i with
  | zero => simp [Gs.atomsTo]
  | succ i ih =>
    simp only [Gs.atomsTo, List.length_append, Gs.atomsAt_length, List.length_take]
    have := ih (by omega)
    omega

set_option maxRecDepth 100000 in
set_option maxHeartbeats 1000000 in
theorem l5Atoms_any (n : Nat) (S R : ByteArray) (va : Value) (la : List Nat) (w : World)
    (hS : S.size = n) (hR : R.size = n * n) (hn : n ≤ 8) (hva : NumsAt w va la) (hl8 : la.length ≤ 8) (ha : ∀ z ∈ la, z < n) :
    Calls Tryd.prog 139 #[strV n S R, va] w fun e w' => e = .returned (.string (txt (Gs.atoms (stOf n S R) la))) ∧ Below w.heap.size w w' := by
  obtain ⟨aa, ca, rfl, ca1, ca2, hca⟩ := hva.view
  unfold maxLen at ca2
  have HCA := Lib.hid hca; clear hca hva
  have HA := Lib.hid ha
  have I1 := Lib.hid (fun x w (hx : x < n) => l1Set_b n S R x w (by omega) (by omega))
  have R1 := Lib.hid (fun x y w hx hy => l1Rel_b n S R x y w hx hy hn hR)
  have HT : Hid (SBlk (boxS w n S R) w.heap.size n S R ∧ Below w.heap.size w (boxS w n S R)) := ⟨boxS_SBlk _ _ _ _, boxS_below _ _ _ _⟩
  unfold boxS at HT
  clear ha hS hR
  unfold strV
  go_enter Tryd.func139, Tryd.ntmps139
  go_wp2_with fail
  go_loopw [6, 5] (fun i o wr => ∃ k : Nat, k ≤ la.length ∧ i = .int .i64 k ∧ ∃ out : ByteArray, o = .string out ∧ out.size ≤ 300 ∧ Hid (out = txt (Gs.atomsTo (stOf n S R) la k)) ∧ Hid (SBlk wr w.heap.size n S R ∧ Below w.heap.size w wr)) (fun i _ _ => la.length - (intOf i).toNat)
  case atStart => exact ⟨0, by omega, rfl, ByteArray.empty, rfl, by simp, rfl, HT.out⟩
  case round =>
    obtain ⟨i, hi, rfl, out, rfl, ho, HO, HT2⟩ := hrel
    by_cases hlt : i < la.length
    · obtain ⟨ga, oa, rfl, hga, hcka⟩ := HCA.out (by omega)
      have HCK := Lib.hid hcka
      have d1 := (HT2.out.2.cell (p := ⟨ga, oa + i, none⟩) hga).trans (hcka i hlt)
      have hv : la.getD i 0 < n := HA.out _ (by simp [hlt])
      have HALL := Lib.hid (part_all (stOf n S R) la i hlt)
      have hz0 := atomsTo_le (stOf n S R) la i (by omega)
      have hzi : out.size ≤ 28 * i := by rw [HO.out, txt_size]; exact hz0
      clear hcka hz0
      obtain ⟨v, hvx⟩ : ∃ v, la.getD i 0 = v := ⟨_, rfl⟩
      rw [hvx] at d1 hv HALL
      have HVX := Lib.hid hvx
      clear hvx
      have j1 := fun w => I1.out v w hv
      have j2 := fun b w => l1Bit_any b w
      have HP0 : Hid (out ++ bitS (oneAt S v) = txt (Gs.atomsTo (stOf n S R) la i ++ part (stOf n S R) la v 0)) := by
        show _ = _
        rw [HO.out, txt_append]; rfl
      have hb1 : (bitS (oneAt S v)).size = 1 := rfl
      generalize oneAt S v = b1 at *
      unfold strV at j1
      have J1 := Lib.hid j1; have J2 := Lib.hid j2
      clear j1 j2
      go_wp2_with fail
      have f0 := fun s => Since.cell HT2.out.1.cells.1 s
      have f1 := fun s => Since.cell HT2.out.1.cells.2.1 s
      have f2 := fun s => Since.cell HT2.out.1.cells.2.2.1 s
      have f3 := fun s => Since.cell d1 s
      refine wp_region_since (by kernel_rfl) (by kernel_rfl) ?_
      repeat (go_big_quiet_step (first | (with_reducible exact Since.call (J1.out _)) | (with_reducible exact Since.call_same (J2.out _ _))))
      refine wpQuiet_nil ?_
      intro w1 hb2
      have HT3 : Hid (SBlk w1 w.heap.size n S R ∧ Below w.heap.size w w1) := ⟨HT2.out.1.below hb2 HT2.out.1.cells.2.2.2.2.2.2, HT2.out.2.trans (hb2.mono HT2.out.2.size)⟩
      clear f0 f1 f2 f3 hb2
      go_wp2_with fail
      go_loopw [7, 5] (fun q o wr => ∃ k : Nat, k ≤ i + 1 ∧ q = .int .i64 k ∧ ∃ out : ByteArray, o = .string out ∧ out.size ≤ 28 * i + 1 + 3 * k ∧ Hid (out = txt (Gs.atomsTo (stOf n S R) la i ++ part (stOf n S R) la v k)) ∧ Hid (SBlk wr w.heap.size n S R ∧ Below w.heap.size w wr)) (fun q _ _ => i + 1 - (intOf q).toNat)
      case atStart =>
        refine ⟨0, by omega, rfl, _, rfl, ?_, HP0.out, HT3.out⟩
        rw [ByteArray.size_append, hb1]; omega
      case round =>
        obtain ⟨k, hk, rfl, out2, rfl, ho2, HO2, HT4⟩ := hrel
        by_cases hlt2 : k < i + 1
        · have hkl : k < la.length := by omega
          have d2 := (HT4.out.2.cell (p := ⟨ga, oa + k, none⟩) hga).trans (HCK.out k hkl)
          have d3 := (HT4.out.2.cell (p := ⟨ga, oa + i, none⟩) hga).trans (HCK.out i hlt)
          rw [HVX.out] at d3
          have hu : la.getD k 0 < n := HA.out _ (by simp [hkl])
          have HS2 := Lib.hid (part_succ (stOf n S R) la v k hkl)
          obtain ⟨u, hux⟩ : ∃ u, la.getD k 0 = u := ⟨_, rfl⟩
          rw [hux] at d2 hu HS2
          clear hux
          have j3 := fun w => R1.out v u w hv hu
          have j4 := fun w => R1.out u v w hu hv
          have HP1 : Hid (out2 ++ bitS (decide (v = u)) ++ bitS (relAt n R v u) ++ bitS (relAt n R u v) = txt (Gs.atomsTo (stOf n S R) la i ++ part (stOf n S R) la v (k + 1))) := by
            show _ = _
            rw [HS2.out, HO2.out]
            simp only [bitS_txt, ← txt_append, List.append_assoc]
            rfl
          have e1 : ((v : Int) == (u : Int)) = decide (v = u) := by rw [Bool.eq_iff_iff, beq_iff_eq, decide_eq_true_eq]; omega
          have hb2 : (bitS (decide (v = u))).size = 1 := rfl
          have hb3 : (bitS (relAt n R v u)).size = 1 := rfl
          have hb4 : (bitS (relAt n R u v)).size = 1 := rfl
          generalize decide (v = u) = c1 at *
          generalize relAt n R v u = c2 at *
          generalize relAt n R u v = c3 at *
          unfold strV at j3 j4
          have J3 := Lib.hid j3; have J4 := Lib.hid j4
          clear j3 j4 hkl
          go_wp2_with fail
          have f0 := fun s => Since.cell HT4.out.1.cells.1 s
          have f1 := fun s => Since.cell HT4.out.1.cells.2.1 s
          have f2 := fun s => Since.cell HT4.out.1.cells.2.2.1 s
          have f3 := fun s => Since.cell d2 s
          have f4 := fun s => Since.cell d3 s
          refine wp_region_since (by kernel_rfl) (by kernel_rfl) ?_
          repeat (go_big_quiet_step (first | (with_reducible exact Since.call_same (J2.out _ _)) | (with_reducible exact Since.call (J3.out _)) | (with_reducible exact Since.call (J4.out _))))
          refine wpQuiet_nil ?_
          intro w3 hb5
          have HT5 : Hid (SBlk w3 w.heap.size n S R ∧ Below w.heap.size w w3) := ⟨HT4.out.1.below hb5 HT4.out.1.cells.2.2.2.2.2.2, HT4.out.2.trans (hb5.mono HT4.out.2.size)⟩
          clear f0 f1 f2 f3 f4 hb5
          go_wp2_with fail
          go_roundw
          case rel =>
            refine ⟨k + 1, by omega, by go_num, _, rfl, ?_, HP1.out, HT5.out⟩
            simp only [ByteArray.size_append, hb2, hb3, hb4]; omega
          case measure => simp [intOf]; omega
        · have HO3 : Hid (out2 = txt (Gs.atomsTo (stOf n S R) la (i + 1))) := by
            show _ = _
            rw [HO2.out, HALL.out, show k = i + 1 by omega]
          go_wp2_with fail
          go_roundw
          case rel => exact ⟨i + 1, by omega, by go_num, out2, rfl, by omega, HO3.out, HT4.out⟩
          case measure => simp [intOf]; omega
    · have HE : Hid (out = txt (Gs.atoms (stOf n S R) la)) := by
        show _ = _
        rw [HO.out, show i = la.length by omega]; rfl
      go_wp2_with fail
      go_ret
      exact ⟨ret_str HE.out, HT2.out.2⟩
end Go.Proofs.YtagnikcnakdehaaDoor

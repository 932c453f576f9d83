/- The reference's l1Has, l1Elements, l1Part, PartOf. Conditions: the structure is valid, the numbers are different elements of it. -/
import Derived.Test.YtjepegkbbbebkaaDoorDefSet
import Derived.Test.YtjepegkbbbebkaaDoorTailQ
import Derived.Test.YtjepegkbbbebkaaDoorLawS
import Derived.Test.YtjepegkbbbebkaaDoorCircle
import Derived.Test.YtjepegkbbbebkaaDoorHolds
namespace Go.Proofs.YtjepegkbbbebkaaDoor
open Go.RowKit
set_option linter.unusedVariables false
set_option maxRecDepth 100000

theorem nodup_take {L : List Nat} (hd : L.Nodup) {i : Nat} (hi : i < L.length) : decide (L.getD i 0 ∈ L.take i) = false := by
  rw [decide_eq_false_iff_not]
  intro hm
  obtain ⟨j, hj, e⟩ := List.mem_iff_getElem.1 hm
  rw [List.length_take] at hj
  rw [List.getElem_take] at e
  have h2 := List.pairwise_iff_getElem.1 hd j i (by omega) hi (by omega)
  exact h2 (by rw [e]; simp [hi])
/-- What the loops of l1Part keep. -/
structure Pt (w wr : World) (n : Nat) (S R : ByteArray) (m : Nat) (TS TR : ByteArray) : Prop where
  a : SBlk wr w.heap.size n S R
  res : SBlk wr (w.heap.size + 1) 0 ByteArray.empty ByteArray.empty
  out : SBlk wr (w.heap.size + 2) m TS TR
  old : Below w.heap.size w wr
section
variable {w wr w' : World} {n m : Nat} {S R TS TR : ByteArray}
theorem Pt.below (h : Pt w wr n S R m TS TR) (hb : Below wr.heap.size wr w') : Pt w w' n S R m TS TR :=
  ⟨h.a.below hb h.a.cells.2.2.2.2.2.2, h.res.below hb h.res.cells.2.2.2.2.2.2, h.out.below hb h.out.cells.2.2.2.2.2.2, h.old.trans (hb.mono h.old.size)⟩
theorem Pt.drew (h : Pt w wr n S R m TS TR) : Pt w wr.drew n S R m TS TR := ⟨h.a, h.res, h.out, h.old.drew⟩
theorem Pt.set1 (h : Pt w wr n S R m TS TR) (S' : ByteArray) : Pt w (wr.setCell ⟨w.heap.size + 2, 1, none⟩ (.string S')) n S R m S' TR :=
  ⟨h.a.far (by simp) _, h.res.far (by simp) _, h.out.set1, h.old.setCell (by simp) _⟩
theorem Pt.set2 (h : Pt w wr n S R m TS TR) (R' : ByteArray) : Pt w (wr.setCell ⟨w.heap.size + 2, 2, none⟩ (.string R')) n S R m TS R' :=
  ⟨h.a.far (by simp) _, h.res.far (by simp) _, h.out.set2, h.old.setCell (by simp) _⟩
end
set_option maxHeartbeats 2000000 in
theorem l1Part_any (n : Nat) (S R : ByteArray) (L : List Nat) (v : Value) (w : World) (hn : n ≤ 8) (hS : S.size = n) (hR : R.size = n * n) (hl8 : L.length ≤ 8) (hL : ∀ j, j < L.length → L.getD j 0 < n) (hv : NumsAt w v L) :
    Calls Tryd.prog 40 #[strV n S R, v] w fun e w' => e = .returned (partV n S R L) ∧ Below w.heap.size w w' := by
  obtain ⟨m, hm⟩ : ∃ m, L.length = m := ⟨_, rfl⟩
  have HSS : Hid (∀ j, j < m → ∀ W, Calls Tryd.prog 52 #[strV n S R, .int .i64 ((L.getD j 0 : Nat) : Int)] W fun e w' => e = .returned (.bool (oneAt S (L.getD j 0))) ∧ Below W.heap.size W w') := fun j hj W =>
    (l1Set_any n S R (L.getD j 0) W (by rw [hS]; exact hL j (by omega)) (by omega)).mono fun _ _ h => ⟨h.1, by rw [h.2]; exact boxS_below _ _ _ _⟩
  have HRR : Hid (∀ j k, j < m → k < m → ∀ W, Calls Tryd.prog 50 #[strV n S R, .int .i64 ((L.getD j 0 : Nat) : Int), .int .i64 ((L.getD k 0 : Nat) : Int)] W fun e w' => e = .returned (.bool (relAt n R (L.getD j 0) (L.getD k 0))) ∧ Below W.heap.size W w') := fun j k hj hk W =>
    (l1Rel_any n S R (L.getD j 0) (L.getD k 0) W (hL j (by omega)) (hL k (by omega)) hn hR).mono fun _ _ h => ⟨h.1, by rw [h.2]; exact boxS_below _ _ _ _⟩
  have HP0 : Hid (Pt w (((w.alloc (.cells #[.int .i64 (n : Int), .string S, .string R] 24)).alloc (.cells #[.int .i64 0, .string ByteArray.empty, .string ByteArray.empty] 24)).alloc (.cells #[.int .i64 (m : Int), .string ByteArray.empty, .string ByteArray.empty] 24)) n S R m (bitsOf (fun x => oneAt S (L.getD x 0)) 0) (bitsOf (fun k => relAt n R (L.getD (k / m) 0) (L.getD (k % m) 0)) (0 * m))) := by
    have b1 := boxS_below w n S R
    have s1 := boxS_size w n S R
    have h1 := boxS_SBlk w n S R
    have hB : Below (boxS w n S R).heap.size (boxS w n S R) (((boxS w n S R).alloc (.cells #[.int .i64 0, .string ByteArray.empty, .string ByteArray.empty] 24)).alloc (.cells #[.int .i64 (m : Int), .string ByteArray.empty, .string ByteArray.empty] 24)) := ((Below.refl _ _).alloc (Nat.le_refl _) _).alloc (by simp) _
    have h2 := (SBlk.new (boxS w n S R) 0 ByteArray.empty ByteArray.empty).below ((Below.refl _ _).alloc (Nat.le_refl _) (.cells #[.int .i64 (m : Int), .string ByteArray.empty, .string ByteArray.empty] 24)) (by simp)
    have h3 := SBlk.new ((boxS w n S R).alloc (.cells #[.int .i64 0, .string ByteArray.empty, .string ByteArray.empty] 24)) m ByteArray.empty ByteArray.empty
    simp only [World.size_alloc, s1] at h2 h3
    refine ⟨h1.below hB h1.cells.2.2.2.2.2.2, h2, ?_, b1.trans (hB.mono b1.size)⟩
    rw [Nat.zero_mul, bitsOf_zero, bitsOf_zero]
    exact h3
  obtain ⟨a, cap, rfl, l1, l2, l3⟩ := hv.view
  have HC : Hid (0 < m → ∃ g o, a = some ⟨g, o, none⟩ ∧ g < w.heap.size ∧ ∀ j, j < m → w.cell? ⟨g, o + j, none⟩ = some (.int .i64 ((L.getD j 0 : Nat) : Int))) := fun h => by
    rw [← hm] at h ⊢
    exact l3 h
  have HRES : Hid (partV n S R L = strV m (bitsOf (fun x => oneAt S (L.getD x 0)) m) (bitsOf (fun k => relAt n R (L.getD (k / m) 0) (L.getD (k % m) 0)) (m * m))) := by
    show _ = _
    unfold partV gridOf
    rw [hm]
  rw [HRES.out]
  rw [hm] at l1 hl8 ⊢
  clear l3 hv hL HRES hm
  obtain ⟨sx, hsx⟩ : ∃ f : Nat → Bool, (fun x => oneAt S (L.getD x 0)) = f := ⟨_, rfl⟩
  obtain ⟨rx, hrx⟩ : ∃ f : Nat → Nat → Bool, (fun x y => relAt n R (L.getD x 0) (L.getD y 0)) = f := ⟨_, rfl⟩
  have hrk : (fun k => relAt n R (L.getD (k / m) 0) (L.getD (k % m) 0)) = fun k => rx (k / m) (k % m) := by rw [← hrx]
  have hs1 : ∀ x, oneAt S (L.getD x 0) = sx x := fun x => by rw [← hsx]
  have hr1 : ∀ x y, relAt n R (L.getD x 0) (L.getD y 0) = rx x y := fun x y => by rw [← hrx]
  rw [hsx, hrk] at HP0 ⊢
  simp only [hs1] at HSS
  simp only [hr1] at HRR
  clear hsx hrx hrk hs1 hr1
  unfold maxLen at l2
  have HBIT : Hid (∀ b W, Calls Tryd.prog 96 #[.bool b] W fun e w' => e = .returned (.string (bitS b)) ∧ Below W.heap.size W w') := fun b W => (l1Bit_any b W).mono fun _ _ h => ⟨h.1, by rw [← h.2]; exact Below.refl _ _⟩
  unfold strV at HSS HRR
  unfold strV
  go_enter Tryd.func40, Tryd.ntmps40
  go_wp2_with fail
  go_loopw [7, 6] (fun _ i wr => ∃ x : Nat, x ≤ m ∧ i = .int .i64 (x : Int) ∧ Hid (Pt w wr n S R m (bitsOf sx x) (bitsOf (fun k => rx (k / m) (k % m)) (x * m)))) (fun _ i _ => m - (intOf i).toNat)
  case atStart => exact ⟨0, by omega, rfl, HP0.out⟩
  case round =>
    obtain ⟨x, hx, rfl, HI⟩ := hrel
    by_cases hlt : x < m
    · obtain ⟨c0, c1', c2', f0, f1, f2, hb⟩ := HI.out.out.cells
      obtain ⟨a0, a1, a2, _, _, _, ha⟩ := HI.out.a.cells
      obtain ⟨g, o, rfl, hg, hc⟩ := HC.out (by omega)
      have d1 := (HI.out.old.cell (p := ⟨g, o + x, none⟩) hg).trans (hc x hlt)
      have z0 : (bitsOf sx x).size ≤ 8 := by rw [bitsOf_size]; omega
      have z1 : (bitS (sx x)).size ≤ 1 := Nat.le_refl _
      have HS1 := Lib.hid (HSS.out x hlt)
      have HG := Lib.hid (bitsOf_succ sx x)
      have HCC := Lib.hid hc
      clear hc HC
      generalize sx x = bt at *
      generalize L.getD x 0 = ex at *
      go_wp2_with fail
      go_upto_region 5 with fail
      go_cut [] (fun wx => Pt w wx n S R m (bitsOf sx x ++ bitS bt) (bitsOf (fun k => rx (k / m) (k % m)) (x * m)))
      case first =>
        have hz : ¬ 9223372036854775807 < (bitsOf sx x).size + (bitS bt).size := by omega
        have q0 := fun s => Since.cell c1' s
        have q1 := fun s => Since.cell a0 s
        have q2 := fun s => Since.cell a1 s
        have q3 := fun s => Since.cell a2 s
        have q4 := fun s => Since.cell d1 s
        refine wp_region_since_tail 10 (by kernel_rfl) (by kernel_rfl) ?_
        simp only [List.take_succ_cons, List.take_zero, List.drop_succ_cons, List.drop_zero]
        repeat (go_big_quiet_step (first | (with_reducible exact Since.call (HS1.out _)) | (with_reducible exact Since.call (HBIT.out bt _))))
        refine wpQuiet_nil ?_
        intro w1 hb1
        have HI1 := Lib.hid (HI.out.below hb1)
        obtain ⟨i0, i1, i2, j0, j1, j2, hbb⟩ := HI1.out.out.cells
        clear hb1 q0 q1 q2 q3 q4 hz
        go_wp2_with fail
        go_meet
        exact HI1.out.set1 _
      case rest =>
        have HI := Lib.hid hcut; clear hcut c0 c1' c2' f0 f1 f2 hb a0 a1 a2 ha d1
        rw [← HG.out] at HI
        clear z0 z1 HS1 HG
        go_wp2_with fail
        go_loopw [7] (fun j wr => ∃ y : Nat, y ≤ m ∧ j = .int .i64 (y : Int) ∧ Hid (Pt w wr n S R m (bitsOf sx (x + 1)) (bitsOf (fun k => rx (k / m) (k % m)) (x * m + y)))) (fun j _ => m - (intOf j).toNat)
        case atStart => exact ⟨0, by omega, rfl, HI.out⟩
        case round =>
          obtain ⟨y, hy, rfl, HJ⟩ := hrel
          by_cases hlt2 : y < m
          · obtain ⟨c0, c1', c2', f0, f1, f2, hb⟩ := HJ.out.out.cells
            obtain ⟨a0, a1, a2, _, _, _, ha⟩ := HJ.out.a.cells
            have d1 := (HJ.out.old.cell (p := ⟨g, o + x, none⟩) hg).trans (HCC.out x hlt)
            have d2 := (HJ.out.old.cell (p := ⟨g, o + y, none⟩) hg).trans (HCC.out y hlt2)
            have hxy : x * m + y ≤ 64 := by
              have h1 : x * m ≤ 7 * 8 := Nat.mul_le_mul (by omega) hl8
              omega
            have z0 : (bitsOf (fun k => rx (k / m) (k % m)) (x * m + y)).size ≤ 64 := by rw [bitsOf_size]; exact hxy
            have z1 : (bitS (rx x y)).size ≤ 1 := Nat.le_refl _
            have HG : Hid (bitsOf (fun k => rx (k / m) (k % m)) (x * m + (y + 1)) = bitsOf (fun k => rx (k / m) (k % m)) (x * m + y) ++ bitS (rx x y)) := by
              show bitsOf (fun k => rx (k / m) (k % m)) (x * m + y + 1) = _
              rw [bitsOf_succ]
              exact congrArg (fun b => bitsOf (fun k => rx (k / m) (k % m)) (x * m + y) ++ bitS b) (grid_at (r := rx) (x := x) hlt2)
            have HR1 := Lib.hid (HRR.out x y hlt hlt2)
            clear hxy
            generalize bitsOf (fun k => rx (k / m) (k % m)) (x * m + y) = G at *
            generalize rx x y = bt at *
            generalize L.getD x 0 = ex at *
            generalize L.getD y 0 = ey at *
            go_wp2_with fail
            have hz : ¬ 9223372036854775807 < G.size + (bitS bt).size := by omega
            have q0 := fun s => Since.cell c2' s
            have q1 := fun s => Since.cell a0 s
            have q2 := fun s => Since.cell a1 s
            have q3 := fun s => Since.cell a2 s
            have q4 := fun s => Since.cell d1 s
            have q5 := fun s => Since.cell d2 s
            refine wp_region_since_tail 14 (by kernel_rfl) (by kernel_rfl) ?_
            simp only [List.take_succ_cons, List.take_zero, List.drop_succ_cons, List.drop_zero]
            repeat (go_big_quiet_step (first | (with_reducible exact Since.call (HR1.out _)) | (with_reducible exact Since.call (HBIT.out bt _))))
            refine wpQuiet_nil ?_
            intro w1 hb1
            have HI1 := Lib.hid (HJ.out.below hb1)
            obtain ⟨i0, i1, i2, j0, j1, j2, hbb⟩ := HI1.out.out.cells
            have HI2 := Lib.hid (HI1.out.set2 (G ++ bitS bt))
            clear hb1 q0 q1 q2 q3 q4 q5 hz
            go_wp2_with fail
            go_roundw
            case rel =>
              refine ⟨y + 1, by omega, by go_num, ?_⟩
              rw [HG.out]
              exact HI2.out
            case measure => simp [intOf]; omega
          · have HI2 : Hid (Pt w wr n S R m (bitsOf sx (x + 1)) (bitsOf (fun k => rx (k / m) (k % m)) ((x + 1) * m))) := by
              have h := HJ.out
              rw [show x * m + y = (x + 1) * m by rw [Nat.add_mul, Nat.one_mul]; omega] at h
              exact h
            go_wp2_with fail
            go_roundw
            case rel => exact ⟨x + 1, by omega, by go_num, HI2.out⟩
            case measure => simp [intOf]; omega
    · have HE : Hid (Pt w wr n S R m (bitsOf sx m) (bitsOf (fun k => rx (k / m) (k % m)) (m * m))) := by
        have h := HI.out
        rw [show x = m by omega] at h
        exact h
      obtain ⟨c0, c1', c2', f0, f1, f2, hb⟩ := HE.out.out.cells
      obtain ⟨d0, d1, d2, g0, g1, g2, hb'⟩ := HE.out.res.cells
      clear HI
      go_wp2_with fail
      refine bodyPost_ret (v := strV m (bitsOf sx m) (bitsOf (fun k => rx (k / m) (k % m)) (m * m))) ?_ rfl ⟨rfl, ?_⟩
      · exact results_str rfl rfl HE.out.res.set3
      · exact ((HE.out.old.setCell (by simp) _).setCell (by simp) _).setCell (by simp) _
end Go.Proofs.YtjepegkbbbebkaaDoor
/- The reference's DefinedSet and PartWhere, the program's PartWhere. Conditions: the texts' lengths fit an integer. -/
namespace Go.Proofs.YtjepegkbbbebkaaDoor
open Go.RowKit
set_option linter.unusedVariables false
set_option maxRecDepth 100000

theorem defSet_is (f : ByteArray) (n : Int) (S R : ByteArray) : (defSet f n S R = none ∧ (validB n S R && okV f 2) = false) ∨ ∃ φ, readB f = some φ ∧ validB n S R = true ∧ okV f 2 = true ∧ defSet f n S R = some (defTo (stOf n.toNat S R) φ n.toNat) := by
  cases hr : readB f with
  | none => exact .inl ⟨defSet_none hr, by rw [okV_none hr]; simp⟩
  | some φ =>
    by_cases h : validB n S R = true ∧ Fm.free φ / 2 = 0
    · exact .inr ⟨φ, rfl, h.1, by rw [okV_some hr, decide_eq_true_iff]; exact h.2, by rw [defSet_some hr, if_pos h]⟩
    · refine .inl ⟨by rw [defSet_some hr, if_neg h], ?_⟩
      rw [okV_some hr, Bool.and_eq_false_iff, decide_eq_false_iff_not]
      by_cases h1 : validB n S R = true
      · exact .inr fun h2 => h ⟨h1, h2⟩
      · exact .inl (by simpa using h1)
/-- What the loop of the reference's DefinedSet keeps. -/
structure Dl (w wr : World) (n : Nat) (S R : ByteArray) (v : Value) (L : List Nat) : Prop where
  own : Own (w.heap.size + 1) wr v L
  a : SBlk wr w.heap.size n S R
  old : Below w.heap.size w wr
section
variable {w wr w' : World} {n : Nat} {S R : ByteArray} {v v' : Value} {L L' : List Nat}
theorem Dl.below (h : Dl w wr n S R v L) (hb : Below wr.heap.size wr w') : Dl w w' n S R v L := ⟨h.own.below hb, h.a.below hb h.a.cells.2.2.2.2.2.2, h.old.trans (hb.mono h.old.size)⟩
theorem Dl.push (h : Dl w wr n S R v L) (hown : Own (w.heap.size + 1) w' v' L') (hg : wr.grownBy w' v.ownBlock) : Dl w w' n S R v' L' := by
  obtain ⟨k1, e1, b1, l1⟩ := h.own.block
  refine ⟨hown, (hg.block w.heap.size h.a.cells.2.2.2.2.2.2 (by rw [e1]; intro e; have := Option.some.inj e; omega)).trans h.a, h.old.grown hg h.old.size (fun k hk => by rw [e1] at hk; have := Option.some.inj hk; omega)⟩
end
/-- What PartWhere returns. -/
def pwRes (f : ByteArray) (n : Int) (S R : ByteArray) : Value :=
  match defSet f n S R with
  | none => .tuple #[strV 0 ByteArray.empty ByteArray.empty, .bool false]
  | some L => if L.length = 0 then .tuple #[strV 0 ByteArray.empty ByteArray.empty, .bool false] else .tuple #[partV n.toNat S R L, .bool true]
theorem pwRes_none {f : ByteArray} {n : Int} {S R : ByteArray} (h : defSet f n S R = none) : pwRes f n S R = .tuple #[strV 0 ByteArray.empty ByteArray.empty, .bool false] := by unfold pwRes; rw [h]
theorem pwRes_some {f : ByteArray} {n : Int} {S R : ByteArray} {L : List Nat} (h : defSet f n S R = some L) : pwRes f n S R = if L.length = 0 then .tuple #[strV 0 ByteArray.empty ByteArray.empty, .bool false] else .tuple #[partV n.toNat S R L, .bool true] := by unfold pwRes; rw [h]
theorem pwRes_form (f : ByteArray) (n : Int) (S R : ByteArray) : ∃ N T U b, pwRes f n S R = .tuple #[strV N T U, .bool b] := by
  cases h : defSet f n S R with
  | none => exact ⟨_, _, _, _, pwRes_none h⟩
  | some L =>
    rw [pwRes_some h]
    by_cases h0 : L.length = 0
    · rw [if_pos h0]; exact ⟨_, _, _, _, rfl⟩
    · rw [if_neg h0]; exact ⟨_, _, _, _, rfl⟩
/-- What is known of a defined set. -/
theorem defSet_facts {f : ByteArray} {n : Int} {S R : ByteArray} {L : List Nat} (h : defSet f n S R = some L) : ∃ m : Nat, n = m ∧ validB m S R = true ∧ L.length ≤ 8 ∧ (∀ j, j < L.length → L.getD j 0 < m) ∧ L.Nodup := by
  rcases defSet_is f n S R with ⟨h1, _⟩ | ⟨φ, hr, hv, ho, h1⟩
  · rw [h1] at h; cases h
  · rw [h1] at h
    obtain ⟨m, rfl⟩ : ∃ m : Nat, n = m := by
      have hv' := hv
      simp only [validB, Bool.and_eq_true, inB_iff] at hv'
      exact Int.eq_ofNat_of_zero_le (by omega)
    obtain ⟨v1, v8, vS, vR, _, _⟩ := valid_is hv
    rw [Int.toNat_natCast] at h
    injection h with h
    subst h
    refine ⟨m, rfl, hv, Nat.le_trans (defTo_length _ _ _) v8, fun j hj => ?_, defTo_nodup _ _ _⟩
    exact defTo_lt (a := stOf m S R) (φ := φ) (by simp [hj])
set_option maxHeartbeats 1000000 in
theorem implPartWhere_any (f : ByteArray) (hf : f.size ≤ 9223372036854775807) (n : Int) (S R : ByteArray) (hS : S.size ≤ 9223372036854775807) (hR : R.size ≤ 9223372036854775807) (w : World) :
    Calls Tryd.prog 21 #[strV n S R, .string f] w fun en w' => en = .returned (pwRes f n S R) ∧ Below w.heap.size w w' := by
  have HDF := Lib.hid (fun w => implDefined_any f hf n S R hS hR w)
  have HB := Lib.hid (BoxR.first w n S R)
  unfold boxS at HB
  obtain ⟨W, hW⟩ : ∃ W, (w.alloc (.cells #[.int .i64 n, .string S, .string R] 24)).alloc (.cells #[.int .i64 0, .string ⟨#[]⟩, .string ⟨#[]⟩] 24) = W := ⟨_, rfl⟩
  replace HB : Hid (BoxR w W n S R) := by rw [← hW]; exact HB.out
  have HW := Lib.hid hW
  clear hW
  obtain ⟨s0, s1, s2, _, _, _, hl⟩ := HB.out.a.cells
  obtain ⟨RES, hres⟩ : ∃ r, pwRes f n S R = r := ⟨_, rfl⟩
  rw [hres]
  unfold strV at HDF
  unfold strV
  go_enter Tryd.func21, Tryd.ntmps21
  go_upto_region 1 with fail
  rw [HW.out]
  go_wp2_with fail
  refine (HDF.out _).mono ?_; rintro en w1 ⟨hb1, hor⟩
  have HB1 := Lib.hid (HB.out.below hb1)
  clear hb1 s0 s1 s2 hl
  rcases hor with ⟨hd, v, rfl, hv⟩ | ⟨v, L, hd, rfl, hv⟩
  · have HV := Lib.hid (hres.symm.trans (pwRes_none hd))
    clear hd hres
    obtain ⟨d0, d1, d2, g0, g1, g2, hl⟩ := HB1.out.res.cells
    go_wp2_with fail
    refine bodyPost_ret (v := .tuple #[strV 0 ByteArray.empty ByteArray.empty, .bool false]) ?_ rfl ⟨by rw [HV.out], ?_⟩
    · exact results_str2 rfl rfl HB1.out.res.set3 rfl
    · exact HB1.out.fin _ _ _
  · have HV := Lib.hid (hres.symm.trans (pwRes_some hd))
    obtain ⟨m, rfl, hval, hL8, hLm, hLd⟩ := defSet_facts hd
    obtain ⟨v1, v8, vS, vR, _, _⟩ := valid_is hval
    have HNV := Lib.hid hv
    obtain ⟨a, cap, rfl, l1, l2, l3⟩ := hv.view
    have HPO := Lib.hid (fun w hv => implPartOf_any m S R L (.slice a L.length cap) w v8 vS vR hL8 hLm hv)
    rw [Int.toNat_natCast] at HV
    unfold maxLen at l2
    unfold partV at HPO HV
    clear hd hres l3 hv hval hLm hLd
    obtain ⟨TS, hA⟩ : ∃ T, bitsOf (fun x => oneAt S (L.getD x 0)) L.length = T := ⟨_, rfl⟩
    obtain ⟨TR, hG⟩ : ∃ T, gridOf (fun x y => relAt m R (L.getD x 0) (L.getD y 0)) L.length = T := ⟨_, rfl⟩
    rw [hA, hG] at HPO HV
    clear hA hG
    obtain ⟨s0, s1, s2, _, _, _, hl⟩ := HB1.out.a.cells
    by_cases h0 : L.length = 0
    · have HV2 := Lib.hid (HV.out.trans (if_pos h0))
      have h0I : ((L.length : Int) == 0) = true := by rw [h0]; rfl
      obtain ⟨d0, d1, d2, g0, g1, g2, hl'⟩ := HB1.out.res.cells
      go_wp2_with fail
      refine bodyPost_ret (v := .tuple #[strV 0 ByteArray.empty ByteArray.empty, .bool false]) ?_ rfl ⟨by rw [HV2.out], ?_⟩
      · exact results_str2 rfl rfl HB1.out.res.set3 rfl
      · exact HB1.out.fin _ _ _
    · have HV2 := Lib.hid (HV.out.trans (if_neg h0))
      have h0I : ((L.length : Int) == 0) = false := by simp; intro h; exact h0 (by rw [h]; rfl)
      unfold strV at HPO
      go_wp2_with fail
      refine (HPO.out _ HNV.out).mono ?_; rintro en w2 ⟨rfl, hb2⟩
      have HB2 := Lib.hid (HB1.out.below hb2)
      clear hb2 s0 s1 s2 hl
      obtain ⟨d0, d1, d2, g0, g1, g2, hl⟩ := HB2.out.res.cells
      go_wp2_with fail
      refine bodyPost_ret (v := .tuple #[strV L.length TS TR, .bool true]) ?_ rfl ⟨by rw [HV2.out], ?_⟩
      · exact results_str2 rfl rfl HB2.out.res.set3 rfl
      · exact HB2.out.fin _ _ _
end Go.Proofs.YtjepegkbbbebkaaDoor

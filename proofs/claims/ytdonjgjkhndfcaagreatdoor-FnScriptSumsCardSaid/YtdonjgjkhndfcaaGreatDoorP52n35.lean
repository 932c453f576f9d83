/- Contracts of the program's functions and what they compute: part 35. Conditions: those that each theorem states. -/
import Derived.Test.YtdonjgjkhndfcaaGreatDoorP52n29
import Derived.Test.YtdonjgjkhndfcaaGreatDoorP52n30
import Derived.Test.YtdonjgjkhndfcaaGreatDoorP52n34
namespace Go.Proofs.YtdonjgjkhndfcaaGreatDoor
open Go.RowKit
set_option linter.unusedVariables false
set_option maxRecDepth 100000
/-- The set of a sum. -/
def smS (n : Nat) (S : ByteArray) (m : Nat) (T : ByteArray) : ByteArray := bitsOf (sumSet n S T) (n + m)
/-- The relation of a sum. -/
def smR (o : Bool) (n : Nat) (R : ByteArray) (m : Nat) (U : ByteArray) : ByteArray := gridOf (sumRel o n R m U) (n + m)
/-- What the line "product" answers. -/
def prB (n : Nat) (S R : ByteArray) (m : Nat) (T U : ByteArray) : ByteArray := if n * m ≤ 8 then fmtS (bitsOf (prodSet S m T) (n * m)) (gridOf (prodRel n R m U) (n * m)) else ⟨#[110, 111]⟩
/-- What the line "shape" answers. -/
def spaB (n : Nat) (S R : ByteArray) (m : Nat) (T U : ByteArray) : ByteArray := if ssB n S R m T U = true then numsB (shHd n S R m T U) else ⟨#[110, 111, 110, 101]⟩
/-- The colours of a sum, and the round at which they stand still. -/
def smC (n : Nat) (S R : ByteArray) : List Nat := Col.after [stOf n S R] (Col.stab (stOf n S R))
def smK (n : Nat) (S R : ByteArray) : Nat := Col.stab (stOf n S R)
/-- How many symmetries there are. -/
def smY (n : Nat) (S R : ByteArray) : Nat := (Gs.shapes (stOf n S R) (stOf n S R)).length
theorem smY_le (n : Nat) (S R : ByteArray) (h8 : n ≤ 8) : smY n S R ≤ 1000000000 := Nat.le_trans (Gs.shapes_le (a := stOf n S R) (b := stOf n S R) h8) (by omega)
theorem syms_is (n : Nat) (S R : ByteArray) (hv : validB n S R = true) : symsV n S R = (smY n S R : Int) := by
  unfold symsV
  rw [hv]
  rfl
theorem sums_steps (w0 : World) (ht : Tab w0) (n : Nat) (S R : ByteArray) (m : Nat) (T U : ByteArray) (hv : validB n S R = true) (hu : validB m T U = true) (hnm : n + m ≤ 8) :
    Steps w0 desk0 (sumsLines (fmtS S R) (fmtS T U)) (sumsAns (fmtS (smS n S m T) (smR false n R m U)) (numsB (smC (n + m) (smS n S m T) (smR false n R m U))) (numsB [smK (n + m) (smS n S m T) (smR false n R m U)])
      (numsB (clsN (piF (n + m) (smR false n R m U)) (n + m)).1) (numsB [smY (n + m) (smS n S m T) (smR false n R m U)]) (fmtS (smS n S m T) (smR true n R m U)) (prB n S R m T U) (spaB n S R m T U)) := by
  obtain ⟨n1, n8, hS, hR, _, _⟩ := valid_is hv
  obtain ⟨m1, m8, hT, hU, _, _⟩ := valid_is hu
  have hc : validB (n + m : Nat) (smS n S m T) (smR false n R m U) = true := valid_bits (by omega) hnm _ _
  have hd : validB (n + m : Nat) (smS n S m T) (smR true n R m U) = true := valid_bits (by omega) hnm _ _
  have e1 : (⟨#[108, 101, 102, 116, 32]⟩ : ByteArray) = ⟨#[108, 101, 102, 116]⟩ ++ ⟨#[32]⟩ := ByteArray.ext (Array.toList_inj.1 rfl)
  have e2 : (⟨#[114, 105, 103, 104, 116, 32]⟩ : ByteArray) = ⟨#[114, 105, 103, 104, 116]⟩ ++ ⟨#[32]⟩ := ByteArray.ext (Array.toList_inj.1 rfl)
  unfold sumsLines sumsAns
  rw [e1, e2]
  have hsum : ∀ o w, Calls Tryz.prog 19 #[strV n S R, strV m T U, .bool o] w fun e w' => e = .returned (.tuple #[strV ((n + m : Nat) : Int) (smS n S m T) (smR o n R m U), .bool true]) ∧ Below w.heap.size w w' := fun o w => by
    have h := sumOf_any o n S R m T U w hv hu
    rw [show sumRes o n S R m T U = .tuple #[strV ((n + m : Nat) : Int) (smS n S m T) (smR o n R m U), .bool true] by unfold sumRes sumV smS smR; rw [if_pos hnm, decide_eq_true hnm, Int.natCast_add]] at h
    exact h
  have hds : ∀ w, Calls Tryz.prog 5 #[strV n S R, strV m T U] w fun e w' => e = .returned (.tuple #[strV ((n + m : Nat) : Int) (smS n S m T) (smR false n R m U), .bool true]) ∧ Below w.heap.size w w' := fun w => by
    have h := implDisjoint_any n S R m T U w hv hu
    rw [show sumRes false n S R m T U = .tuple #[strV ((n + m : Nat) : Int) (smS n S m T) (smR false n R m U), .bool true] by unfold sumRes sumV smS smR; rw [if_pos hnm, decide_eq_true hnm, Int.natCast_add]] at h
    exact h
  have hos : ∀ w, Calls Tryz.prog 8 #[strV n S R, strV m T U] w fun e w' => e = .returned (.tuple #[strV ((n + m : Nat) : Int) (smS n S m T) (smR true n R m U), .bool true]) ∧ Below w.heap.size w w' := fun w => by
    have h := implOrdered_any n S R m T U w hv hu
    rw [show sumRes true n S R m T U = .tuple #[strV ((n + m : Nat) : Int) (smS n S m T) (smR true n R m U), .bool true] by unfold sumRes sumV smS smR; rw [if_pos hnm, decide_eq_true hnm, Int.natCast_add]] at h
    exact h
  have R1 := run_left w0 desk0 n S R hv
  have R2 := run_right w0 { desk0 with n := (n : Int), S := S, R := R } m T U hu
  obtain ⟨d2, hd2⟩ : ∃ d2 : DS, { { desk0 with n := (n : Int), S := S, R := R } with m := (m : Int), T := T, U := U } = d2 := ⟨_, rfl⟩
  rw [hd2] at R2
  have n2 : d2.n = (n : Int) := by rw [← hd2]
  have S2 : d2.S = S := by rw [← hd2]
  have Q2 : d2.R = R := by rw [← hd2]
  have m2 : d2.m = (m : Int) := by rw [← hd2]
  have T2 : d2.T = T := by rw [← hd2]
  have U2 : d2.U = U := by rw [← hd2]
  have R3 := run_sum w0 d2 (n + m) (smS n S m T) (smR false n R m U) hc (by rw [n2, S2, Q2, m2, T2, U2]; exact hds)
  obtain ⟨d3, hd3⟩ : ∃ d3 : DS, d2.left (n + m) (smS n S m T) (smR false n R m U) = d3 := ⟨_, rfl⟩
  rw [hd3] at R3
  have n3 : d3.n = ((n + m : Nat) : Int) := by rw [← hd3]; rfl
  have S3 : d3.S = smS n S m T := by rw [← hd3]; rfl
  have Q3 : d3.R = smR false n R m U := by rw [← hd3]; rfl
  have m3 : d3.m = (m : Int) := by rw [← hd3]; exact m2
  have T3 : d3.T = T := by rw [← hd3]; exact T2
  have U3 : d3.U = U := by rw [← hd3]; exact U2
  have R4 := run_stable w0 ht d3 (n + m) n3 (by rw [S3, Q3]; exact hc)
  have R5 := run_pieces w0 ht d3 (n + m) n3 (by rw [S3, Q3]; exact hc)
  have R6 := run_symmetries w0 ht d3 (smY (n + m) (smS n S m T) (smR false n R m U)) (smY_le _ _ _ hnm) (fun w => by
    rw [n3, S3, Q3, ← syms_is _ _ _ hc]
    obtain ⟨_, _, cS, cR, _, _⟩ := valid_is hc
    have h64 : (n + m) * (n + m) ≤ 64 := Nat.mul_le_mul hnm hnm
    exact CountSymmetries_any _ _ _ (by omega) (by omega) w)
  rw [S3, Q3] at R4
  rw [Q3] at R5
  have R7 := run_left w0 d3 n S R hv
  obtain ⟨d7, hd7⟩ : ∃ d7 : DS, { d3 with n := (n : Int), S := S, R := R } = d7 := ⟨_, rfl⟩
  rw [hd7] at R7
  have n7 : d7.n = (n : Int) := by rw [← hd7]
  have S7 : d7.S = S := by rw [← hd7]
  have Q7 : d7.R = R := by rw [← hd7]
  have m7 : d7.m = (m : Int) := by rw [← hd7]; exact m3
  have T7 : d7.T = T := by rw [← hd7]; exact T3
  have U7 : d7.U = U := by rw [← hd7]; exact U3
  have R8 := run_ordered w0 d7 (n + m) (smS n S m T) (smR true n R m U) hd (by rw [n7, S7, Q7, m7, T7, U7]; exact hos)
  obtain ⟨d8, hd8⟩ : ∃ d8 : DS, d7.left (n + m) (smS n S m T) (smR true n R m U) = d8 := ⟨_, rfl⟩
  rw [hd8] at R8
  have m8' : d8.m = (m : Int) := by rw [← hd8]; exact m7
  have T8 : d8.T = T := by rw [← hd8]; exact T7
  have U8 : d8.U = U := by rw [← hd8]; exact U7
  have R9 := run_left w0 d8 n S R hv
  obtain ⟨d9, hd9⟩ : ∃ d9 : DS, { d8 with n := (n : Int), S := S, R := R } = d9 := ⟨_, rfl⟩
  rw [hd9] at R9
  have n9 : d9.n = (n : Int) := by rw [← hd9]
  have S9 : d9.S = S := by rw [← hd9]
  have Q9 : d9.R = R := by rw [← hd9]
  have m9 : d9.m = (m : Int) := by rw [← hd9]; exact m8'
  have T9 : d9.T = T := by rw [← hd9]; exact T8
  have U9 : d9.U = U := by rw [← hd9]; exact U8
  have hpr : ∀ w, Calls Tryz.prog 9 #[strV n S R, strV m T U] w fun e w' => e = .returned (prodRes n S R m T U) ∧ Below w.heap.size w w' := fun w => ProductOf_any n S R m T U w hv hu
  have R10 : ∃ d10 : DS, RunOK w0 ⟨#[112, 114, 111, 100, 117, 99, 116]⟩ d9 d10 (prB n S R m T U) ∧ d10.m = (m : Int) ∧ d10.T = T ∧ d10.U = U := by
    unfold prB
    by_cases hp : n * m ≤ 8
    · rw [if_pos hp]
      have he : validB (n * m : Nat) (bitsOf (prodSet S m T) (n * m)) (gridOf (prodRel n R m U) (n * m)) = true := valid_bits (Nat.mul_le_mul n1 m1) hp _ _
      refine ⟨d9.left (n * m) _ _, run_product w0 d9 (n * m) _ _ he (fun w => ?_), m9, T9, U9⟩
      rw [n9, S9, Q9, m9, T9, U9]
      have h := hpr w
      unfold prodRes at h
      rw [if_pos hp] at h
      exact h
    · rw [if_neg hp]
      refine ⟨d9, run_product_no w0 d9 0 ByteArray.empty ByteArray.empty (fun w => ?_), m9, T9, U9⟩
      rw [n9, S9, Q9, m9, T9, U9]
      have h := hpr w
      unfold prodRes at h
      rw [if_neg hp] at h
      exact h
  obtain ⟨d10, R10, m10, T10, U10⟩ := R10
  have R11 := run_left w0 d10 n S R hv
  obtain ⟨d11, hd11⟩ : ∃ d11 : DS, { d10 with n := (n : Int), S := S, R := R } = d11 := ⟨_, rfl⟩
  rw [hd11] at R11
  have n11 : d11.n = (n : Int) := by rw [← hd11]
  have S11 : d11.S = S := by rw [← hd11]
  have Q11 : d11.R = R := by rw [← hd11]
  have m11 : d11.m = (m : Int) := by rw [← hd11]; exact m10
  have T11 : d11.T = T := by rw [← hd11]; exact T10
  have U11 : d11.U = U := by rw [← hd11]; exact U10
  have R12 := run_shape w0 ht d11 n m n11 m11 (by rw [S11, Q11]; exact hv) (by rw [T11, U11]; exact hu)
  rw [S11, Q11, T11, U11] at R12
  exact ⟨_, R1, _, R2, _, R3, _, R4, _, R5, _, R6, _, R7, _, R8, _, R9, _, R10, _, R11, _, R12, trivial⟩
end Go.Proofs.YtdonjgjkhndfcaaGreatDoor

namespace Go.Proofs.YtdonjgjkhndfcaaGreatDoor
open Go.RowKit
set_option linter.unusedVariables false
set_option maxRecDepth 100000
set_option maxHeartbeats 1000000 in
/-- The text of no structure. -/
theorem FormatStructure_none (w : World) : Calls Tryz.prog 10 #[strV 0 ByteArray.empty ByteArray.empty] w fun e w' => e = .returned (.string ⟨#[]⟩) ∧ Below w.heap.size w w' := by
  have HIS : Hid (∀ w, Calls Tryz.prog 22 #[strV 0 ByteArray.empty ByteArray.empty] w fun e w' => e = .returned (.bool false) ∧ Below w.heap.size w w') := fun w => isStructure_any 0 ByteArray.empty ByteArray.empty w (by decide) (by decide)
  have HB : Hid (SBlk (boxS w 0 ByteArray.empty ByteArray.empty) w.heap.size 0 ByteArray.empty ByteArray.empty ∧ Below w.heap.size w (boxS w 0 ByteArray.empty ByteArray.empty)) := ⟨boxS_SBlk _ _ _ _, boxS_below _ _ _ _⟩
  unfold boxS at HB
  obtain ⟨s0, s1, s2, _, _, _, hl⟩ := HB.out.1.cells
  unfold strV at HIS
  unfold strV
  go_enter Tryz.func10, Tryz.ntmps10
  go_wp2_with fail
  refine (HIS.out _).mono ?_; rintro e w1 ⟨rfl, hb⟩
  have HB1 := Lib.hid (HB.out.2.trans (hb.mono HB.out.2.size))
  clear hb
  go_wp2_with fail
  go_ret
  exact ⟨rfl, HB1.out⟩
theorem gsLine52 (s : ByteArray) (c : Bool) (hs : s.size ≤ 100000) (w : World) : Calls Tryz.prog 14 #[.string s, .bool c] w fun e w' => e = .returned (.string ((if c then s else ⟨#[110, 111]⟩) ++ ⟨#[10]⟩)) ∧ Below w.heap.size w w' := by
  have h : (s ++ ⟨#[10]⟩ : ByteArray).size ≤ 100001 := by rw [ByteArray.size_append]; show s.size + 1 ≤ _; omega
  cases c
  all_goals
    go_enter Tryz.func14, Tryz.ntmps14
    go_wp2_with fail
    go_ret
    exact ⟨rfl, Below.refl _ _⟩
theorem implFmt_big (v : Value) (x : Nat) (w : World) (hv : NumsAt w v [x]) (hb : x ≤ 1000000000) (ht : Tab w) :
    Calls Tryz.prog 11 #[v] w fun e w' => e = .returned (.string (numsB [x])) ∧ Below w.heap.size w w' := by
  obtain ⟨a, cap, rfl, l1, l2, l3⟩ := hv.view
  unfold numsB fmtRes
  obtain ⟨g, o, rfl, hg, hc⟩ := l3 (by simp)
  rw [if_neg (by simp)]
  exact implFmt_any g o cap ([x].map fun n : Nat => (n : Int)) w (by simp) (by simp) (by
    intro z hz
    simp at hz
    subst hz
    omega) ht (by simpa using l1) l2 hg (fun j hj => by
    have hj' : j < [x].length := by simpa using hj
    rw [hc j hj']
    have : j = 0 := by simpa using hj
    subst this
    rfl)
theorem numsB_big (x : Nat) (hb : x ≤ 1000000000) : (numsB [x]).size ≤ 21 := by
  rw [numsB_one]
  exact itoS_size _ (by omega) (by omega)
/-- All that the law's walk calls. -/
structure SmF (n : Nat) (S R : ByteArray) (m : Nat) (T U : ByteArray) (p : Nat) (CS CR DR : ByteArray) (CL PL OL : List Nat) (K Y : Nat) (P : Int) (ES ER : ByteArray) (two same : Bool) (F G FC FD FE : ByteArray) : Prop where
  im : ∀ w, Calls Tryz.prog 5 #[strV n S R, strV m T U] w fun e w' => e = .returned (.tuple #[strV p CS CR, .bool true]) ∧ Below w.heap.size w w'
  sp : ∀ w, Calls Tryz.prog 6 #[strV n S R, strV m T U] w fun e w' => e = .returned (.tuple #[strV p CS CR, .bool true]) ∧ Below w.heap.size w w'
  st : ∀ w, Calls Tryz.prog 7 #[strV p CS CR] w fun e w' => ∃ v, e = .returned (.tuple #[v, .int .i64 (K : Int)]) ∧ NumsAt w' v CL ∧ Below w.heap.size w w'
  os : ∀ w, Calls Tryz.prog 8 #[strV n S R, strV m T U] w fun e w' => e = .returned (.tuple #[strV p CS DR, .bool true]) ∧ Below w.heap.size w w'
  pr : ∀ w, Calls Tryz.prog 9 #[strV n S R, strV m T U] w fun e w' => e = .returned (.tuple #[strV P ES ER, .bool two]) ∧ Below w.heap.size w w'
  fa : ∀ w, Calls Tryz.prog 10 #[strV n S R] w fun e w' => e = .returned (.string F) ∧ Below w.heap.size w w'
  fb : ∀ w, Calls Tryz.prog 10 #[strV m T U] w fun e w' => e = .returned (.string G) ∧ Below w.heap.size w w'
  fc : ∀ w, Calls Tryz.prog 10 #[strV p CS CR] w fun e w' => e = .returned (.string FC) ∧ Below w.heap.size w w'
  fd : ∀ w, Calls Tryz.prog 10 #[strV p CS DR] w fun e w' => e = .returned (.string FD) ∧ Below w.heap.size w w'
  fe : ∀ w, Calls Tryz.prog 10 #[strV P ES ER] w fun e w' => e = .returned (.string FE) ∧ Below w.heap.size w w'
  pi : ∀ w, Calls Tryz.prog 12 #[strV p CS CR] w fun e w' => ∃ v, e = .returned v ∧ NumsAt w' v PL ∧ Below w.heap.size w w'
  sy : ∀ w, Calls Tryz.prog 13 #[strV p CS CR] w fun e w' => e = .returned (.int .i64 (Y : Int)) ∧ Below w.heap.size w w'
  sh : ∀ w, Calls Tryz.prog 15 #[strV n S R, strV m T U] w fun e w' => ∃ v, e = .returned (.tuple #[v, .bool same]) ∧ (same = true → NumsAt w' v OL) ∧ Below w.heap.size w w'
  fz : F.size ≤ 73 ∧ G.size ≤ 73 ∧ FC.size ≤ 73 ∧ FD.size ≤ 73 ∧ FE.size ≤ 73
  cl : CL.length ≤ 100 ∧ ∀ x ∈ CL, x ≤ 1000000
  pl : PL.length ≤ 100 ∧ ∀ x ∈ PL, x ≤ 1000000
  ol : same = true → OL.length ≤ 100 ∧ ∀ x ∈ OL, x ≤ 1000000
  kz : K ≤ 1000000
  yz : Y ≤ 1000000000
  no : (10 : UInt8) ∉ F.data.toList ∧ (10 : UInt8) ∉ G.data.toList
  run : ∀ w, Tab w → Steps w desk0 (sumsLines F G) (sumsAns FC (numsB CL) (numsB [K]) (numsB PL) (numsB [Y]) FD (if two then FE else ⟨#[110, 111]⟩) (if same = true then numsB OL else ⟨#[110, 111, 110, 101]⟩))
theorem sm_ok (n : Nat) (S R : ByteArray) (m : Nat) (T U : ByteArray) (hv : validB n S R = true) (hu : validB m T U = true) (hnm : n + m ≤ 8) :
    ∃ (p : Nat) (CS CR DR : ByteArray) (CL PL OL : List Nat) (K Y : Nat) (P : Int) (ES ER : ByteArray) (two same : Bool) (F G FC FD FE : ByteArray), SmF n S R m T U p CS CR DR CL PL OL K Y P ES ER two same F G FC FD FE := by
  obtain ⟨n1, n8, hS, hR, _, _⟩ := valid_is hv
  obtain ⟨m1, m8, hT, hU, _, _⟩ := valid_is hu
  have hc : validB (n + m : Nat) (smS n S m T) (smR false n R m U) = true := valid_bits (by omega) hnm _ _
  have hd : validB (n + m : Nat) (smS n S m T) (smR true n R m U) = true := valid_bits (by omega) hnm _ _
  have hsr : ∀ o, sumRes o n S R m T U = .tuple #[strV ((n + m : Nat) : Int) (smS n S m T) (smR o n R m U), .bool true] := fun o => by
    unfold sumRes sumV smS smR; rw [if_pos hnm, decide_eq_true hnm, Int.natCast_add]
  have hcn : (stOf (n + m) (smS n S m T) (smR false n R m U)).n = n + m := rfl
  have l3 := clsN_len (piF (n + m) (smR false n R m U)) (n + m)
  have hrun := fun w ht => sums_steps w ht n S R m T U hv hu hnm
  have hp : ∃ (P : Int) (ES ER : ByteArray) (two : Bool) (FE : ByteArray), (∀ w, Calls Tryz.prog 9 #[strV n S R, strV m T U] w fun e w' => e = .returned (.tuple #[strV P ES ER, .bool two]) ∧ Below w.heap.size w w') ∧
      (∀ w, Calls Tryz.prog 10 #[strV P ES ER] w fun e w' => e = .returned (.string FE) ∧ Below w.heap.size w w') ∧ FE.size ≤ 73 ∧ prB n S R m T U = if two then FE else ⟨#[110, 111]⟩ := by
    have h := fun w => ProductOf_any n S R m T U w hv hu
    unfold prodRes at h
    unfold prB
    by_cases hp : n * m ≤ 8
    · have he : validB (n * m : Nat) (bitsOf (prodSet S m T) (n * m)) (gridOf (prodRel n R m U) (n * m)) = true := valid_bits (Nat.mul_le_mul n1 m1) hp _ _
      simp only [hp, if_true] at h ⊢
      exact ⟨_, _, _, true, _, h, fun w => FormatStructure_any _ _ _ he w, fmt_size he, rfl⟩
    · simp only [hp, if_false] at h ⊢
      exact ⟨_, _, _, false, _, h, fun w => FormatStructure_none w, by decide, rfl⟩
  obtain ⟨P, ES, ER, two, FE, hp1, hp2, hp3, hp4⟩ := hp
  rw [hp4] at hrun
  unfold spaB at hrun
  refine ⟨n + m, _, _, smR true n R m U, smC (n + m) (smS n S m T) (smR false n R m U), _, shHd n S R m T U, smK (n + m) (smS n S m T) (smR false n R m U), smY (n + m) (smS n S m T) (smR false n R m U), P, ES, ER, two, ssB n S R m T U, fmtS S R, fmtS T U, _, _, FE,
    ⟨fun w => ?_, fun w => ?_, fun w => ?_, fun w => ?_, hp1, fun w => FormatStructure_any n S R hv w, fun w => FormatStructure_any m T U hu w, fun w => FormatStructure_any (n + m) _ _ hc w, fun w => FormatStructure_any (n + m) _ _ hd w, hp2, fun w => ?_, fun w => ?_, fun w => SameShape_list n S R m T U hv hu w,
      ⟨fmt_size hv, fmt_size hu, fmt_size hc, fmt_size hd, hp3⟩, ⟨?_, ?_⟩, ⟨?_, ?_⟩, fun h => shHd_ok h n8, ?_, smY_le _ _ _ hnm, ⟨fmt_no hv, fmt_no hu⟩, hrun⟩⟩
  · have h := implDisjoint_any n S R m T U w hv hu
    rw [hsr] at h
    exact h
  · have h := specDisjoint_any n S R m T U w hv hu
    rw [hsr] at h
    exact h
  · refine (StableColours_any (n + m) _ _ hc w).mono ?_
    rintro e w' ⟨v, he, ho, hb⟩
    exact ⟨v, he, ho.nums, hb⟩
  · have h := implOrdered_any n S R m T U w hv hu
    rw [hsr] at h
    exact h
  · refine (PiecesOf_any (n + m) _ _ hc w).mono ?_
    rintro e w' ⟨v, he, ho, hb⟩
    exact ⟨v, he, ho.nums, hb⟩
  · rw [← syms_is _ _ _ hc]
    obtain ⟨_, _, cS, cR, _, _⟩ := valid_is hc
    have h64 : (n + m) * (n + m) ≤ 64 := Nat.mul_le_mul hnm hnm
    exact CountSymmetries_any _ _ _ (by omega) (by omega) w
  · unfold smC
    rw [Col.after_len]
    show n + m + 0 ≤ 100
    omega
  · intro x hx
    have := after_lt_s (stOf (n + m) (smS n S m T) (smR false n R m U)) _ (by show 1 ≤ n + m; omega) hx
    omega
  · rw [l3.1]; omega
  · intro x hx
    have := l3.2.2 x hx
    have := l3.2.1
    omega
  · have := stab_le_s (stOf (n + m) (smS n S m T) (smR false n R m U))
    unfold smK
    omega
end Go.Proofs.YtdonjgjkhndfcaaGreatDoor

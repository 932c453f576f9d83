/- Contracts of the program's functions and what they compute: part 4. Conditions: those that each theorem states. -/
import Derived.Test.YtfhogenjpepfnaaGreatDoorP51n3
import Derived.Deep.RegionHeld3
import Derived.Deep.DeepCutAuto
import Derived.Laws.ResultCell
import Derived.OneCell
import Derived.IntWalk
namespace Go.Proofs.YtfhogenjpepfnaaGreatDoor
open Go.RowKit
def bit (b : Bool) : UInt8 := if b then 49 else 48
/-- The text of a bit. -/
def bitS (b : Bool) : ByteArray := ⟨#[bit b]⟩
/-- The text of n bits. -/
def bitsOf (f : Nat → Bool) (n : Nat) : ByteArray := ⟨((List.range n).map fun i => bit (f i)).toArray⟩
theorem bitsOf_size (f : Nat → Bool) (n : Nat) : (bitsOf f n).size = n := by
  show ((List.range n).map fun i => bit (f i)).toArray.size = n
  simp
theorem bitsOf_succ (f : Nat → Bool) (n : Nat) : bitsOf f (n + 1) = bitsOf f n ++ bitS (f n) := by
  unfold bitsOf bitS
  have h := ByteArray.mk_append_mk ((List.range n).map fun i => bit (f i)) [bit (f n)]
  rw [show (#[bit (f n)] : Array UInt8) = [bit (f n)].toArray from rfl, h]
  congr 2
  rw [List.range_succ]
  simp
theorem bitsOf_zero (f : Nat → Bool) : bitsOf f 0 = ByteArray.empty := rfl
theorem bitsOf_congr {f g : Nat → Bool} {n : Nat} (h : ∀ i, i < n → f i = g i) : bitsOf f n = bitsOf g n := by
  unfold bitsOf
  congr 2
  apply List.map_congr_left
  intro i hi
  rw [h i (List.mem_range.1 hi)]
/-- The text of the bits of n rows of n. -/
def gridOf (r : Nat → Nat → Bool) (n : Nat) : ByteArray := bitsOf (fun k => r (k / n) (k % n)) (n * n)
theorem bitOf_any (b : Bool) (w : World) : Calls Tryz.prog 56 #[.bool b] w fun e w' => e = .returned (.string (bitS b)) ∧ w = w' := by
  cases b
  · go_enter Tryz.func56, Tryz.ntmps56
    go_wp2
    go_ret
    exact ⟨rfl, rfl⟩
  · go_enter Tryz.func56, Tryz.ntmps56
    go_wp2
    go_ret
    exact ⟨rfl, rfl⟩
theorem l1Bit_any (b : Bool) (w : World) : Calls Tryz.prog 38 #[.bool b] w fun e w' => e = .returned (.string (bitS b)) ∧ w = w' := by
  cases b
  · go_enter Tryz.func38, Tryz.ntmps38
    go_wp2
    go_ret
    exact ⟨rfl, rfl⟩
  · go_enter Tryz.func38, Tryz.ntmps38
    go_wp2
    go_ret
    exact ⟨rfl, rfl⟩
end Go.Proofs.YtfhogenjpepfnaaGreatDoor
namespace Go.Proofs.YtfhogenjpepfnaaGreatDoor
open Go.RowKit
/-- The value of a structure. -/
def strV (n : Int) (S R : ByteArray) : Value := .agg #[.int .i64 n, .string S, .string R]
/-- A structure variable in block b. -/
def SBlk (w : World) (b : Nat) (n : Int) (S R : ByteArray) : Prop := w.heap[b]? = some (.cells #[.int .i64 n, .string S, .string R] 26 (0, 0))
theorem SBlk.cells {w : World} {b : Nat} {n : Int} {S R : ByteArray} (h : SBlk w b n S R) :
    w.cell? ⟨b, 0, none⟩ = some (.int .i64 n) ∧ w.cell? ⟨b, 1, none⟩ = some (.string S) ∧ w.cell? ⟨b, 2, none⟩ = some (.string R) ∧ w.frozen? ⟨b, 0, none⟩ = false ∧ w.frozen? ⟨b, 1, none⟩ = false ∧ w.frozen? ⟨b, 2, none⟩ = false ∧ b < w.heap.size := by
  unfold SBlk at h
  have hb : b < w.heap.size := by
    rcases Nat.lt_or_ge b w.heap.size with h' | h'
    · exact h'
    · simp [Array.getElem?_eq_none h'] at h
  refine ⟨?_, ?_, ?_, ?_, ?_, ?_, hb⟩ <;> simp [World.cell?, World.frozen?, h]
theorem SBlk.new (w : World) (n : Int) (S R : ByteArray) : SBlk (w.alloc (.cells #[.int .i64 n, .string S, .string R] 26)) w.heap.size n S R := heap_alloc_new w _
theorem SBlk.below {w w' : World} {b B : Nat} {n : Int} {S R : ByteArray} (h : SBlk w b n S R) (hb : Below B w w') (hB : b < B) : SBlk w' b n S R := (hb.block b hB).trans h
theorem SBlk.set1 {w : World} {b : Nat} {n : Int} {S R S' : ByteArray} (h : SBlk w b n S R) : SBlk (w.setCell ⟨b, 1, none⟩ (.string S')) b n S' R := by
  unfold SBlk at h ⊢
  simp [World.setCell, Array.getElem?_modify, h]
theorem SBlk.set2 {w : World} {b : Nat} {n : Int} {S R R' : ByteArray} (h : SBlk w b n S R) : SBlk (w.setCell ⟨b, 2, none⟩ (.string R')) b n S R' := by
  unfold SBlk at h ⊢
  simp [World.setCell, Array.getElem?_modify, h]
theorem SBlk.far {w : World} {b : Nat} {n : Int} {S R : ByteArray} (h : SBlk w b n S R) {p : Addr} (hp : b ≠ p.block) (u : Value) : SBlk (w.setCell p u) b n S R := (Below.heap_setCell w p u b hp).trans h
theorem SBlk.drew {w : World} {b : Nat} {n : Int} {S R : ByteArray} (h : SBlk w b n S R) : SBlk w.drew b n S R := h
theorem SBlk.set3 {w : World} {b : Nat} {n n' : Int} {S R S' R' : ByteArray} (h : SBlk w b n S R) : SBlk (((w.setCell ⟨b, 0, none⟩ (.int .i64 n')).setCell ⟨b, 1, none⟩ (.string S')).setCell ⟨b, 2, none⟩ (.string R')) b n' S' R' := by
  unfold SBlk at h ⊢
  simp [World.setCell, Array.getElem?_modify, h]
theorem strInfo : (Tryz.prog.info? 26).map (·.size) = some 3 := by kernel_rfl
/-- A result that is a structure in a variable. -/
theorem results_str {fn : Func} {p : Tmp} (h : fn.results = #[.cell p 26]) {tmps : Array Value} {w : World} {b : Nat} {n : Int} {S R : ByteArray} (hp : tmps.getD p undef = .pointer (some ⟨b, 0, none⟩)) (hb : SBlk w b n S R) :
    (results fn tmps).run Tryz.prog w = .ok (strV n S R) w :=
  results_cell_row h tmps w b 26 #[.int .i64 n, .string S, .string R] (0, 0) _ hp hb Tryz.underlying26 rfl strInfo
/-- Two results: a structure in a variable, and a truth. -/
theorem results_str2 {fn : Func} {p u : Tmp} (h : fn.results = #[.cell p 26, .tmp u]) {tmps : Array Value} {w : World} {b : Nat} {n : Int} {S R : ByteArray} {v : Value} (hp : tmps.getD p undef = .pointer (some ⟨b, 0, none⟩)) (hb : SBlk w b n S R) (hu : tmps.getD u undef = v) :
    (results fn tmps).run Tryz.prog w = .ok (.tuple #[strV n S R, v]) w := by
  rw [results_cell_tmp h, hp, hu]
  have hl := run_loadVar_row (P := Tryz.prog) w b 26 26 #[.int .i64 n, .string S, .string R] (0, 0) _ hb Tryz.underlying26 rfl strInfo
  simp [asAddr, Result.andThen, hl, strV]
theorem grid_at {r : Nat → Nat → Bool} {n x y : Nat} (hy : y < n) : r ((x * n + y) / n) ((x * n + y) % n) = r x y := by
  have h0 : 0 < n := by omega
  have h1 : (x * n + y) / n = x := by
    rw [Nat.mul_comm, Nat.mul_add_div h0, Nat.div_eq_of_lt hy]; rfl
  have h2 : (x * n + y) % n = y := by
    rw [Nat.mul_comm, Nat.mul_add_mod, Nat.mod_eq_of_lt hy]
  rw [h1, h2]
/-- What the loops of makeStructure keep: the result's block is still empty, the new structure's block holds S and R, old blocks are as they were. -/
structure MkInv (w wr : World) (n : Nat) (S R : ByteArray) : Prop where
  res : SBlk wr w.heap.size 0 ByteArray.empty ByteArray.empty
  out : SBlk wr (w.heap.size + 1) n S R
  old : Below w.heap.size w wr
theorem MkInv.drew {w wr : World} {n : Nat} {S R : ByteArray} (h : MkInv w wr n S R) : MkInv w wr.drew n S R := ⟨h.res, h.out, h.old.drew⟩
theorem MkInv.below {w wr w' : World} {n : Nat} {S R : ByteArray} (h : MkInv w wr n S R) (hb : Below wr.heap.size wr w') : MkInv w w' n S R := by
  have h1 := h.res.cells.2.2.2.2.2.2
  have h2 := h.out.cells.2.2.2.2.2.2
  exact ⟨h.res.below hb h1, h.out.below hb h2, h.old.trans (hb.mono (by omega))⟩
theorem MkInv.set1 {w wr : World} {n : Nat} {S R : ByteArray} (h : MkInv w wr n S R) (S' : ByteArray) : MkInv w (wr.setCell ⟨w.heap.size + 1, 1, none⟩ (.string S')) n S' R :=
  ⟨h.res.far (by simp) _, h.out.set1, h.old.setCell (by simp) _⟩
theorem MkInv.set2 {w wr : World} {n : Nat} {S R : ByteArray} (h : MkInv w wr n S R) (R' : ByteArray) : MkInv w (wr.setCell ⟨w.heap.size + 1, 2, none⟩ (.string R')) n S R' :=
  ⟨h.res.far (by simp) _, h.out.set2, h.old.setCell (by simp) _⟩
set_option maxHeartbeats 1000000 in
theorem makeStructure_any (n : Nat) (hn : n ≤ 8) (k1 k2 : FuncId) (c1 c2 : Array Value) (s : Nat → Bool) (r : Nat → Nat → Bool) (w : World)
    (hk1 : ∀ (args : Array Value) (W : World), (callFunc k1 args).run Tryz.prog W = .ok (.enter k1 args) W) (hk2 : ∀ (args : Array Value) (W : World), (callFunc k2 args).run Tryz.prog W = .ok (.enter k2 args) W)
    (hs : ∀ x W, x < n → Below w.heap.size w W → Calls Tryz.prog k1 (#[.int .i64 (x : Int)] ++ c1) W fun e w' => e = .returned (.bool (s x)) ∧ Below W.heap.size W w')
    (hr : ∀ x y W, x < n → y < n → Below w.heap.size w W → Calls Tryz.prog k2 (#[.int .i64 (x : Int), .int .i64 (y : Int)] ++ c2) W fun e w' => e = .returned (.bool (r x y)) ∧ Below W.heap.size W w') :
    Calls Tryz.prog 32 #[.int .i64 (n : Int), .func (.func k1) #[] c1, .func (.func k2) #[] c2] w fun e w' => e = .returned (strV n (bitsOf s n) (gridOf r n)) ∧ Below w.heap.size w w' := by
  have HS := Lib.hid hs; have HR := Lib.hid hr; clear hs hr
  go_enter Tryz.func32, Tryz.ntmps32
  go_wp2_with fail
  have hI0 : MkInv w ((w.alloc (.cells #[.int .i64 0, .string ByteArray.empty, .string ByteArray.empty] 26)).alloc (.cells #[.int .i64 n, .string ByteArray.empty, .string ByteArray.empty] 26)) n (bitsOf s 0) (bitsOf (fun k => r (k / n) (k % n)) (0 * n)) := by
    refine ⟨?_, ?_, ((Below.refl _ _).alloc (Nat.le_refl _) _).alloc (by simp) _⟩
    · exact (Below.heap_alloc _ _ _ (by simp)).trans (SBlk.new w 0 ByteArray.empty ByteArray.empty)
    · have h := SBlk.new (w.alloc (.cells #[.int .i64 0, .string ByteArray.empty, .string ByteArray.empty] 26)) n ByteArray.empty ByteArray.empty
      simpa [bitsOf_zero] using h
  have HI0 := Lib.hid hI0; clear hI0
  go_loopw [13, 8] (fun i _ wr => ∃ x : Nat, x ≤ n ∧ i = .int .i64 x ∧ Hid (MkInv w wr n (bitsOf s x) (bitsOf (fun k => r (k / n) (k % n)) (x * n)))) (fun i _ _ => n - (intOf i).toNat)
  case atStart => exact ⟨0, by omega, rfl, HI0.out⟩
  case round =>
    obtain ⟨x, hx, rfl, HI⟩ := hrel
    by_cases hlt : x < n
    · obtain ⟨c0, c1', c2', f0, f1, f2, hb⟩ := HI.out.out.cells
      have z0 : (bitsOf s x).size ≤ 8 := by rw [bitsOf_size]; omega
      have z1 : (bitS (s x)).size ≤ 1 := Nat.le_refl _
      go_upto_region 5 with fail
      go_cut [] (fun wx => MkInv w wx n (bitsOf s x ++ bitS (s x)) (bitsOf (fun k => r (k / n) (k % n)) (x * n)))
      case first =>
        go_region_with (first | (go_at_call 56; refine (bitOf_any _ _).mono ?_; rintro e w' ⟨rfl, rfl⟩) | ((with_reducible refine (HS.out x _ hlt ?_).mono ?_); (exact HI.out.old.drew); rintro e w1 ⟨rfl, hb1⟩; have HI1 := Lib.hid (HI.out.drew.below hb1); obtain ⟨i0, i1, i2, j0, j1, j2, hbb⟩ := HI1.out.out.cells; clear hb1))
        all_goals (go_wp2_with fail; go_meet; exact HI1.out.set1 _)
      case rest =>
        have HI := Lib.hid hcut; clear hcut
        rw [← bitsOf_succ] at HI
        go_wp2_with fail
        go_loopw [25, 9] (fun j _ wr => ∃ y : Nat, y ≤ n ∧ j = .int .i64 y ∧ Hid (MkInv w wr n (bitsOf s (x + 1)) (bitsOf (fun k => r (k / n) (k % n)) (x * n + y)))) (fun j _ _ => n - (intOf j).toNat)
        case atStart => exact ⟨0, by omega, rfl, HI.out⟩
        case round =>
          obtain ⟨y, hy, rfl, HJ⟩ := hrel
          by_cases hlt2 : y < n
          · obtain ⟨c0, c1', c2', f0, f1, f2, hb⟩ := HJ.out.out.cells
            have hxy : x * n + y ≤ 64 := by
              have h1 : x * n ≤ 7 * 8 := Nat.mul_le_mul (by omega) hn
              omega
            have z0 : (bitsOf (fun k => r (k / n) (k % n)) (x * n + y)).size ≤ 64 := by rw [bitsOf_size]; exact hxy
            have z1 : (bitS (r x y)).size ≤ 1 := Nat.le_refl _
            have HG : Hid (bitsOf (fun k => r (k / n) (k % n)) (x * n + (y + 1)) = bitsOf (fun k => r (k / n) (k % n)) (x * n + y) ++ bitS (r x y)) := by
              show bitsOf (fun k => r (k / n) (k % n)) (x * n + y + 1) = _
              rw [bitsOf_succ]
              exact congrArg (fun b => bitsOf (fun k => r (k / n) (k % n)) (x * n + y) ++ bitS b) (grid_at (r := r) (x := x) hlt2)
            clear hxy
            generalize bitsOf (fun k => r (k / n) (k % n)) (x * n + y) = G at *
            go_wp2_with fail
            go_region_with (first | (go_at_call 56; refine (bitOf_any _ _).mono ?_; rintro e w' ⟨rfl, rfl⟩) | ((with_reducible refine (HR.out x y _ hlt hlt2 ?_).mono ?_); (exact HJ.out.old.drew); rintro e w1 ⟨rfl, hb1⟩; have HI1 := Lib.hid (HJ.out.drew.below hb1); obtain ⟨i0, i1, i2, j0, j1, j2, hbb⟩ := HI1.out.out.cells; clear hb1))
            all_goals
              have HI2 := Lib.hid (HI1.out.set2 (G ++ bitS (r x y)))
              go_wp2_with fail
              go_roundw
              case rel =>
                refine ⟨y + 1, by omega, by go_num, ?_⟩
                rw [HG.out]
                exact HI2.out
              case measure => simp [intOf]; omega
          · have HI2 : Hid (MkInv w wr n (bitsOf s (x + 1)) (bitsOf (fun k => r (k / n) (k % n)) ((x + 1) * n))) := by
              have h := HJ.out
              rw [show x * n + y = (x + 1) * n by rw [Nat.add_mul, Nat.one_mul]; omega] at h
              exact h
            go_wp2_with fail
            go_roundw
            case rel => exact ⟨x + 1, by omega, by go_num, HI2.out⟩
            case measure => simp [intOf]; omega
    · obtain ⟨c0, c1', c2', f0, f1, f2, hb⟩ := HI.out.out.cells
      obtain ⟨d0, d1, d2, g0, g1, g2, hb'⟩ := HI.out.res.cells
      have hxn : x = n := by omega
      subst hxn
      go_wp2_with fail
      refine bodyPost_ret (v := strV x (bitsOf s x) (gridOf r x)) ?_ rfl ⟨rfl, ?_⟩
      · exact results_str rfl rfl HI.out.res.set3
      · exact ((HI.out.old.setCell (by simp) _).setCell (by simp) _).setCell (by simp) _
end Go.Proofs.YtfhogenjpepfnaaGreatDoor
namespace Go.Proofs.YtfhogenjpepfnaaGreatDoor
open Go.RowKit
set_option linter.unusedVariables false
/-- Whether a place of a text holds a 1. -/
def oneAt (s : ByteArray) (k : Nat) : Bool := s.data.toList.getD k 0 == 49
theorem oneAt_at (s : ByteArray) (k : Nat) (h : k < s.size) : ((s[k].toNat : Int) == 49) = oneAt s k := by
  have e : s.data.toList.getD k 0 = s[k] := by
    have hx : k < s.data.toList.length := by simpa using h
    rw [List.getD_eq_getElem?_getD, List.getElem?_eq_getElem hx]
    rfl
  unfold oneAt
  rw [e]
  generalize s[k] = c
  rw [Bool.eq_iff_iff, beq_iff_eq, beq_iff_eq]
  constructor
  · intro h
    apply UInt8.toNat_inj.1
    have : (49 : UInt8).toNat = 49 := rfl
    omega
  · intro h
    rw [h]; rfl
/-- The world after a structure was boxed. -/
def boxS (w : World) (n : Int) (S R : ByteArray) : World := w.alloc (.cells #[.int .i64 n, .string S, .string R] 26)
theorem boxS_below (w : World) (n : Int) (S R : ByteArray) : Below w.heap.size w (boxS w n S R) := (Below.refl _ _).alloc (Nat.le_refl _) _
theorem boxS_SBlk (w : World) (n : Int) (S R : ByteArray) : SBlk (boxS w n S R) w.heap.size n S R := SBlk.new w n S R
theorem boxS_size (w : World) (n : Int) (S R : ByteArray) : (boxS w n S R).heap.size = w.heap.size + 1 := by simp [boxS]
/-- Whether an element is related. -/
def relAt (n : Nat) (R : ByteArray) (x y : Nat) : Bool := oneAt R (x * n + y)
theorem inSet_any (n : Int) (S R : ByteArray) (x : Nat) (w : World) (hx : x < S.size) (hS : S.size ≤ 9223372036854775807) :
    Calls Tryz.prog 53 #[strV n S R, .int .i64 (x : Int)] w fun e w' => e = .returned (.bool (oneAt S x)) ∧ w' = boxS w n S R := by
  unfold strV
  have e1 := oneAt_at S x hx
  generalize oneAt S x = b at *
  go_enter Tryz.func53, Tryz.ntmps53
  go_wp2_with fail
  go_ret
  exact ⟨rfl, rfl⟩
theorem rel_place {n x y : Nat} {R : ByteArray} (hx : x < n) (hy : y < n) (hn : n ≤ 8) (hR : R.size = n * n) :
    ∃ p : Nat, p = x * n ∧ p + y < R.size ∧ p ≤ 56 ∧ IntKind.i64.wrap ((x : Int) * (n : Int)) = (p : Int) := by
  have h1 : x * n ≤ 7 * 8 := Nat.mul_le_mul (by omega) hn
  refine ⟨x * n, rfl, ?_, by omega, ?_⟩
  · rw [hR]
    have : x * n + y < x * n + n := by omega
    have h2 : x * n + n ≤ n * n := by
      rw [← Nat.succ_mul]
      exact Nat.mul_le_mul_right _ hx
    omega
  · rw [← Int.natCast_mul]
    exact IntWalk.i64_in _ (by omega)
theorem inRel_any (n : Nat) (S R : ByteArray) (x y : Nat) (w : World) (hx : x < n) (hy : y < n) (hn : n ≤ 8) (hR : R.size = n * n) :
    Calls Tryz.prog 55 #[strV n S R, .int .i64 (x : Int), .int .i64 (y : Int)] w fun e w' => e = .returned (.bool (relAt n R x y)) ∧ w' = boxS w n S R := by
  unfold strV relAt
  obtain ⟨p, hp, hpy, hp56, hw⟩ := rel_place hx hy hn hR
  rw [← hp]
  clear hp
  have hw2 : IntKind.i64.wrap ((p : Int) + (y : Int)) = ((p + y : Nat) : Int) := IntWalk.i64_in _ (by omega)
  generalize p + y = q at *
  have e1 := oneAt_at R q hpy
  generalize oneAt R q = b at *
  have hR64 : R.size ≤ 64 := by rw [hR]; exact Nat.mul_le_mul hn hn
  clear hR
  go_enter Tryz.func55, Tryz.ntmps55
  go_wp2_with fail
  go_ret
  exact ⟨rfl, rfl⟩
theorem l1Rel_any (n : Nat) (S R : ByteArray) (x y : Nat) (w : World) (hx : x < n) (hy : y < n) (hn : n ≤ 8) (hR : R.size = n * n) :
    Calls Tryz.prog 58 #[strV n S R, .int .i64 (x : Int), .int .i64 (y : Int)] w fun e w' => e = .returned (.bool (relAt n R x y)) ∧ w' = boxS w n S R := by
  unfold strV relAt
  obtain ⟨p, hp, hpy, hp56, hw⟩ := rel_place hx hy hn hR
  rw [← hp]
  clear hp
  have hw2 : IntKind.i64.wrap ((p : Int) + (y : Int)) = ((p + y : Nat) : Int) := IntWalk.i64_in _ (by omega)
  generalize p + y = q at *
  have e1 := oneAt_at R q hpy
  generalize oneAt R q = b at *
  have hR64 : R.size ≤ 64 := by rw [hR]; exact Nat.mul_le_mul hn hn
  clear hR
  go_enter Tryz.func58, Tryz.ntmps58
  go_wp2_with fail
  go_ret
  exact ⟨rfl, rfl⟩
end Go.Proofs.YtfhogenjpepfnaaGreatDoor

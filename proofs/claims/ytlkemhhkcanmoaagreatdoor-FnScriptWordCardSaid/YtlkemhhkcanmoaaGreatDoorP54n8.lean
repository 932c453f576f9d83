/- Contracts of the program's functions and what they compute: part 8. Conditions: those that each theorem states. -/
import Derived.Test.YtlkemhhkcanmoaaGreatDoorP54n6
import Derived.Test.YtlkemhhkcanmoaaGreatDoorP54n7
import Derived.Test.YtlkemhhkcanmoaaGreatDoorShelf
import Derived.StillTailTactics
import Derived.IntWalk
namespace Go.Proofs.YtlkemhhkcanmoaaGreatDoor
open Go.RowKit
def isXY (b : UInt8) : Bool := b == 120 || b == 121
/-- Whether a text is a word. -/
def wordB (s : ByteArray) : Bool := inB s.size 1 8 && s.data.toList.all isXY
theorem dropWhile_nil (p : UInt8 → Bool) : ∀ l : List UInt8, l.dropWhile p = [] ↔ l.all p = true
  | [] => by simp
  | x :: l => by
    have ih := dropWhile_nil p l
    cases h : p x
    · simp [List.dropWhile, h]
    · simp only [List.dropWhile, h, List.all_cons, Bool.true_and]; exact ih
theorem dropWhile_head (p : UInt8 → Bool) : ∀ l : List UInt8, ∀ x m, l.dropWhile p = x :: m → p x = false
  | [], _, _, h => by simp at h
  | y :: l, x, m, h => by
    cases hy : p y
    · simp only [List.dropWhile, hy, List.cons.injEq] at h
      rw [← h.1]; exact hy
    · simp only [List.dropWhile, hy] at h
      exact dropWhile_head p l x m h
theorem trim_nil (p : UInt8 → Bool) (l : List UInt8) : ((l.reverse.dropWhile p).reverse.dropWhile p = []) ↔ l.all p = true := by
  rw [dropWhile_nil, List.all_reverse]
  cases h : l.reverse.dropWhile p with
  | nil =>
    have := (dropWhile_nil p _).1 h
    rw [List.all_reverse] at this
    simp [this]
  | cons x m =>
    have hx := dropWhile_head p _ x m h
    constructor
    · intro ha
      simp [hx] at ha
    · intro ha
      rw [← List.all_reverse] at ha
      rw [(dropWhile_nil p _).2 ha] at h
      cases h
theorem trimS_xy (l : List UInt8) : /- 40 -/ (Lib.trimS l [120, 121]).isEmpty = l.all isXY := by
  have h := trim_nil ([120, 121].contains ·) l
  have e : l.all ([120, 121].contains ·) = l.all isXY := by
    congr 1
    funext b
    rw [Bool.eq_iff_iff]
    simp [isXY]
  rw [e] at h
  rw [Bool.eq_iff_iff, List.isEmpty_iff]
  exact h
theorem trim_xy (s : ByteArray) (w : World) (hs : s.size ≤ 9223372036854775807) :
    Calls Tryz.prog 40 #[.string s, .string ⟨#[120, 121]⟩] w fun e w' => (∃ t : ByteArray, e = .returned (.string t) ∧ t.toList.isEmpty = s.data.toList.all isXY) ∧ Below w.heap.size w w' := by
  have hcon := Any.strings_Trim_laid Tryz.lays160 (by kernel_rfl) s ⟨#[120, 121]⟩ w hs (by decide) (ascii_of_all (by decide))
  refine hcon.mono fun e w' ⟨h1, h2⟩ => ⟨⟨_, h1, ?_⟩, h2⟩
  rw [Lib.toList_data]
  exact trimS_xy _
theorem isWord_any (s : ByteArray) (w : World) (hs : s.size ≤ 9223372036854775807) :
    Calls Tryz.prog 20 #[.string s] w fun e w' => e = .returned (.bool (wordB s)) ∧ Below w.heap.size w w' := by
  by_cases h1 : (1 : Int) ≤ s.size
  · by_cases h8 : (s.size : Int) ≤ 8
    · have HI := Lib.hid (inB_true h1 h8)
      go_enter Tryz.func20, Tryz.ntmps20
      go_wp2_with fail
      refine (trim_xy s _ hs).mono ?_
      rintro e w1 ⟨⟨t, rfl, ht⟩, hb⟩
      have HB := Lib.hid hb; clear hb
      have HW : Hid (s.data.toList.all isXY = wordB s) := by simp [Hid, wordB, HI.out]
      generalize s.data.toList.all isXY = b at *
      go_wp2_with fail
      go_ret
      exact ⟨ret_bool HW.out, HB.out⟩
    · have HI := Lib.hid (inB_hi (lo := 1) h8)
      go_enter Tryz.func20, Tryz.ntmps20
      go_wp2_with fail
      go_ret
      exact ⟨ret_bool (by simp [wordB, HI.out]), Below.refl _ _⟩
  · have HI := Lib.hid (inB_lo (hi := 8) h1)
    go_enter Tryz.func20, Tryz.ntmps20
    go_wp2_with fail
    go_ret
    exact ⟨ret_bool (by simp [wordB, HI.out]), Below.refl _ _⟩
theorem all_take_succ (s : ByteArray) (k : Nat) (h : k < s.size) : (s.data.toList.take (k + 1)).all isXY = ((s.data.toList.take k).all isXY && isXY s[k]) := by
  rw [List.take_succ_eq_append_getElem (by simpa using h), List.all_append]
  simp
  rfl
theorem specWordValid_any (s : ByteArray) (w : World) (hs : s.size ≤ 9223372036854775807) :
    Calls Tryz.prog 23 #[.string s] w fun e w' => e = .returned (.bool (wordB s)) ∧ w = w' := by
  go_enter Tryz.func23, Tryz.ntmps23
  go_wp2_with fail
  go_loop [3] (fun i => ∃ k : Nat, k ≤ s.size ∧ i = .int .i64 k ∧ Hid ((s.data.toList.take k).all isXY = true)) (fun i => s.size - (intOf i).toNat)
  case atStart => exact ⟨0, by omega, rfl, rfl⟩
  case round =>
    obtain ⟨k, hk, rfl, HK⟩ := hrel
    by_cases hlt : k < s.size
    · have HS := Lib.hid (all_take_succ s k hlt)
      obtain ⟨c, hc⟩ : ∃ c, s[k] = c := ⟨_, rfl⟩
      have HC := Lib.hid hc
      by_cases hx : c = 120
      · have e1 : ((c.toNat : Int) == 120) = true := by rw [hx]; rfl
        have e1' : ((c.toNat : Int) != 120) = false := by rw [hx]; rfl
        have HX := Lib.hid hx; clear hx
        go_wp2_with fail
        go_round
        case rel =>
          refine ⟨k + 1, by omega, by go_num, ?_⟩
          rw [HS.out, HK.out, HC.out, HX.out]; rfl
        case measure => simp [intOf]; omega
      · have hx' : c.toNat ≠ 120 := fun h => hx (UInt8.toNat_inj.1 h)
        have e1 : ((c.toNat : Int) == 120) = false := by simp; omega
        have e1' : ((c.toNat : Int) != 120) = true := by simp; omega
        by_cases hy : c = 121
        · have e2 : ((c.toNat : Int) == 121) = true := by rw [hy]; rfl
          have e2' : ((c.toNat : Int) != 121) = false := by rw [hy]; rfl
          have HY := Lib.hid hy; clear hx hy hx'
          go_wp2_with fail
          go_round
          case rel =>
            refine ⟨k + 1, by omega, by go_num, ?_⟩
            rw [HS.out, HK.out, HC.out, HY.out]; rfl
          case measure => simp [intOf]; omega
        · have hy' : c.toNat ≠ 121 := fun h => hy (UInt8.toNat_inj.1 h)
          have e2 : ((c.toNat : Int) == 121) = false := by simp; omega
          have e2' : ((c.toNat : Int) != 121) = true := by simp; omega
          have HR : Hid (wordB s = false) := by
            have h1 : isXY s[k] = false := by rw [HC.out]; simp [isXY, hx, hy]
            have h2 : s.data.toList.all isXY = false := by
              rw [← Bool.not_eq_true, List.all_eq_true]
              intro h
              have := h s[k] (by
                show s.data[k] ∈ s.data.toList
                simp)
              rw [h1] at this; cases this
            simp [Hid, wordB, h2]
          clear hx hy hx' hy'
          go_wp2_with fail
          go_ret
          exact ⟨ret_bool HR.out.symm, rfl⟩
    · have HR : Hid (wordB s = inB s.size 1 8) := by
        have h := HK.out
        rw [List.take_of_length_le (by simp; omega)] at h
        simp [Hid, wordB, h]
      go_wp2_with fail
      refine (l1In_any _ _ _ _).mono ?_; rintro e w' ⟨rfl, rfl⟩
      go_wp2_with fail
      go_ret
      exact ⟨ret_bool HR.out.symm, rfl⟩
end Go.Proofs.YtlkemhhkcanmoaaGreatDoor
namespace Go.Proofs.YtlkemhhkcanmoaaGreatDoor
open Go.RowKit
set_option linter.unusedVariables false
theorem l1Bit_quiet (b : Bool) (w : World) : Calls Tryz.prog 47 #[.bool b] w fun e w' => e = .returned (.string (bitS b)) ∧ w' = w :=
  (l1Bit_any b w).mono fun _ _ h => ⟨h.1, h.2.symm⟩
/-- Whether a letter is an x. -/
def letB (s : ByteArray) (x : Nat) : Bool := s.data.toList.getD x 0 == 120
def ltB (x y : Nat) : Bool := decide (x < y)
/-- The structure of a word. -/
def wordV (s : ByteArray) : Value := strV s.size (bitsOf (letB s) s.size) (gridOf ltB s.size)
theorem letB_at (s : ByteArray) (x : Nat) (h : x < s.size) : ((s[x].toNat : Int) == 120) = letB s x := by
  have e : s.data.toList.getD x 0 = s[x] := by
    have hx : x < s.data.toList.length := by simpa using h
    rw [List.getD_eq_getElem?_getD, List.getElem?_eq_getElem hx]
    rfl
  unfold letB
  rw [e]
  generalize s[x] = c
  rw [Bool.eq_iff_iff, beq_iff_eq, beq_iff_eq]
  constructor
  · intro h
    apply UInt8.toNat_inj.1
    have : (120 : UInt8).toNat = 120 := rfl
    omega
  · intro h
    rw [h]; rfl
theorem wordStr1_any (s : ByteArray) (x : Nat) (p : Addr) (W : World) (hx : x < s.size) (hs : s.size ≤ 8) (hp : W.cell? p = some (.string s)) :
    Calls Tryz.prog 43 (#[.int .i64 (x : Int)] ++ #[.pointer (some p)]) W fun e w' => e = .returned (.bool (letB s x)) ∧ Below W.heap.size W w' := by
  show Calls Tryz.prog 43 #[.int .i64 (x : Int), .pointer (some p)] W _
  have e1 := letB_at s x hx
  generalize letB s x = b at *
  go_enter Tryz.func43, Tryz.ntmps43
  go_wp2_with fail
  go_ret
  exact ⟨rfl, Below.refl _ _⟩
theorem wordStr2_any (x y : Nat) (W : World) (hx : x ≤ 8) (hy : y ≤ 8) :
    Calls Tryz.prog 44 (#[.int .i64 (x : Int), .int .i64 (y : Int)] ++ #[]) W fun e w' => e = .returned (.bool (ltB x y)) ∧ Below W.heap.size W w' := by
  show Calls Tryz.prog 44 #[.int .i64 (x : Int), .int .i64 (y : Int)] W _
  have e1 : decide ((x : Int) < (y : Int)) = ltB x y := by unfold ltB; rw [decide_eq_decide]; omega
  have HE := Lib.hid e1; clear e1
  by_cases h : (x : Int) < (y : Int)
  · go_enter Tryz.func44, Tryz.ntmps44
    go_wp2_with fail
    go_ret
    exact ⟨ret_bool (by rw [← HE.out]; simp; omega), Below.refl _ _⟩
  · go_enter Tryz.func44, Tryz.ntmps44
    go_wp2_with fail
    go_ret
    exact ⟨ret_bool (by rw [← HE.out]; simp; omega), Below.refl _ _⟩
theorem implWordStr_any (s : ByteArray) (w : World) (hs : s.size ≤ 8) :
    Calls Tryz.prog 22 #[.string s] w fun e w' => e = .returned (wordV s) ∧ Below w.heap.size w w' := by
  have hm := fun W k1 k2 hk1 hk2 h1 h2 => makeStructure_any s.size hs k1 k2 #[.pointer (some ⟨w.heap.size, 0, none⟩)] #[] (letB s) ltB W hk1 hk2 h1 h2
  have HM := Lib.hid hm; clear hm
  go_enter Tryz.func22, Tryz.ntmps22
  go_wp2_with fail
  refine (HM.out _ _ _ (fun _ _ => by kernel_rfl) (fun _ _ => by kernel_rfl) (fun x W hx hb => wordStr1_any s x _ W hx hs ?_) (fun x y W hx hy hb => wordStr2_any x y W (by omega) (by omega))).mono ?_
  · rw [hb.cell (by simp; omega)]
    go_simp
  · rintro e w1 ⟨rfl, hb⟩
    have hB : Below w.heap.size w w1 := (((Below.refl _ _).alloc (Nat.le_refl _) _).alloc (by simp) _).trans (hb.mono (by simp; omega))
    have hR : SBlk w1 (w.heap.size + 1) 0 ByteArray.empty ByteArray.empty := by
      have h := SBlk.new (w.alloc (.cells #[.string s] 9)) 0 ByteArray.empty ByteArray.empty
      have h := h.below hb (by simp)
      simpa using h
    have HB := Lib.hid hB
    have HR := Lib.hid hR
    clear hb hB HM
    obtain ⟨d0, d1, d2, g0, g1, g2, hb'⟩ := hR.cells
    clear hR
    unfold strV
    go_wp2_with fail
    refine bodyPost_ret (v := wordV s) ?_ rfl ⟨rfl, ?_⟩
    · exact results_str rfl rfl HR.out.set3
    · exact ((HB.out.setCell (by simp) _).setCell (by simp) _).setCell (by simp) _
set_option maxRecDepth 100000 in
set_option maxHeartbeats 1000000 in
theorem l12Structure_any (s : ByteArray) (w : World) (hs : s.size ≤ 8) :
    Calls Tryz.prog 25 #[.string s] w fun e w' => e = .returned (wordV s) ∧ Below w.heap.size w w' := by
  go_enter Tryz.func25, Tryz.ntmps25
  go_wp2_with fail
  have HI0 : Hid (MkInv w ((w.alloc (.cells #[.int .i64 0, .string ByteArray.empty, .string ByteArray.empty] 28)).alloc (.cells #[.int .i64 (s.size : Int), .string ByteArray.empty, .string ByteArray.empty] 28)) s.size (bitsOf (letB s) 0) (bitsOf (fun k => ltB (k / s.size) (k % s.size)) (0 * s.size))) := by
    refine ⟨?_, ?_, ((Below.refl _ _).alloc (Nat.le_refl _) _).alloc (by simp) _⟩
    · exact (Below.heap_alloc _ _ _ (by simp)).trans (SBlk.new w 0 ByteArray.empty ByteArray.empty)
    · have h := SBlk.new (w.alloc (.cells #[.int .i64 0, .string ByteArray.empty, .string ByteArray.empty] 28)) s.size ByteArray.empty ByteArray.empty
      simpa [bitsOf_zero] using h
  go_loopw [4, 5] (fun i _ wr => ∃ x : Nat, x ≤ s.size ∧ i = .int .i64 x ∧ Hid (MkInv w wr s.size (bitsOf (letB s) x) (bitsOf (fun k => ltB (k / s.size) (k % s.size)) (x * s.size)))) (fun i _ _ => s.size - (intOf i).toNat)
  case atStart => exact ⟨0, by omega, rfl, HI0.out⟩
  case round =>
    obtain ⟨x, hx, rfl, HI⟩ := hrel
    by_cases hlt : x < s.size
    · obtain ⟨c0, c1', c2', f0, f1, f2, hb⟩ := HI.out.out.cells
      have e1 := letB_at s x hlt
      have HG : Hid (bitsOf (letB s) (x + 1) = bitsOf (letB s) x ++ bitS (letB s x)) := bitsOf_succ _ _
      have z0 : (bitsOf (letB s) x).size ≤ 8 := by rw [bitsOf_size]; omega
      have z1 : ∀ b, (bitS b).size ≤ 1 := fun _ => Nat.le_refl _
      generalize bitsOf (letB s) x = G at *
      generalize letB s x = b at *
      go_wp2_with fail
      go_upto_region 5 with fail
      go_cut [] (fun wx => MkInv w wx s.size (G ++ bitS b) (bitsOf (fun k => ltB (k / s.size) (k % s.size)) (x * s.size)))
      case first =>
        refine wp_region_still_tail 9 (by kernel_rfl) (by kernel_rfl) ?_
        simp only [List.take_succ_cons, List.take_zero, List.drop_succ_cons, List.drop_zero]
        change wpStill _ _ wr.drew _ _ _
        iterate 6 still_step
        still_call (l1Bit_quiet b _)
        have hz : ¬ 9223372036854775807 < G.size + (bitS b).size := by have := z1 b; omega
        iterate 2 still_step
        clear hz
        refine wpStill_nil ?_
        change wpList _ _ _ _ _ wr.drew
        have HI2 := Lib.hid (HI.out.drew.set1 (G ++ bitS b))
        go_wp2_with fail
        go_meet
        exact HI2.out
      case rest =>
        have HI := Lib.hid hcut; clear hcut
        rw [← HG.out] at HI
        clear c0 c1' c2' f0 f1 f2 hb e1 z0 HG
        go_wp2_with fail
        go_loopw [5] (fun j wr => ∃ y : Nat, y ≤ s.size ∧ j = .int .i64 y ∧ Hid (MkInv w wr s.size (bitsOf (letB s) (x + 1)) (bitsOf (fun k => ltB (k / s.size) (k % s.size)) (x * s.size + y)))) (fun j _ => s.size - (intOf j).toNat)
        case atStart => exact ⟨0, by omega, rfl, HI.out⟩
        case round =>
          obtain ⟨y, hy, rfl, HJ⟩ := hrel
          by_cases hlt2 : y < s.size
          · obtain ⟨c0, c1', c2', f0, f1, f2, hb⟩ := HJ.out.out.cells
            have hxy : x * s.size + y ≤ 64 := by
              have h1 : x * s.size ≤ 7 * 8 := Nat.mul_le_mul (by omega) hs
              omega
            have z0 : (bitsOf (fun k => ltB (k / s.size) (k % s.size)) (x * s.size + y)).size ≤ 64 := by rw [bitsOf_size]; exact hxy
            have HG : Hid (bitsOf (fun k => ltB (k / s.size) (k % s.size)) (x * s.size + (y + 1)) = bitsOf (fun k => ltB (k / s.size) (k % s.size)) (x * s.size + y) ++ bitS (ltB x y)) := by
              show bitsOf (fun k => ltB (k / s.size) (k % s.size)) (x * s.size + y + 1) = _
              rw [bitsOf_succ]
              exact congrArg (fun b => bitsOf (fun k => ltB (k / s.size) (k % s.size)) (x * s.size + y) ++ bitS b) (grid_at (r := ltB) (x := x) hlt2)
            have e1 : decide ((x : Int) < (y : Int)) = ltB x y := by unfold ltB; rw [decide_eq_decide]; omega
            have e2 : decide (x < y) = ltB x y := rfl
            clear hxy
            generalize bitsOf (fun k => ltB (k / s.size) (k % s.size)) (x * s.size + y) = G2 at *
            generalize ltB x y = b2 at *
            go_wp2_with fail
            refine wp_region_still_tail 8 (by kernel_rfl) (by kernel_rfl) ?_
            simp only [List.take_succ_cons, List.take_zero, List.drop_succ_cons, List.drop_zero]
            change wpStill _ _ wr.drew _ _ _
            iterate 5 still_step
            still_call (l1Bit_quiet b2 _)
            have hz : ¬ 9223372036854775807 < G2.size + (bitS b2).size := by have := z1 b2; omega
            iterate 2 still_step
            clear hz
            refine wpStill_nil ?_
            change wpList _ _ _ _ _ wr.drew
            have HI2 := Lib.hid (HJ.out.drew.set2 (G2 ++ bitS b2))
            go_wp2_with fail
            go_roundw
            case rel =>
              refine ⟨y + 1, by omega, by go_num, ?_⟩
              rw [HG.out]
              exact HI2.out
            case measure => simp [intOf]; omega
          · have HI2 : Hid (MkInv w wr s.size (bitsOf (letB s) (x + 1)) (bitsOf (fun k => ltB (k / s.size) (k % s.size)) ((x + 1) * s.size))) := by
              have h := HJ.out
              rw [show x * s.size + y = (x + 1) * s.size by rw [Nat.add_mul, Nat.one_mul]; omega] at h
              exact h
            go_wp2_with fail
            go_roundw
            case rel => exact ⟨x + 1, by omega, by go_num, HI2.out⟩
            case measure => simp [intOf]; omega
    · obtain ⟨c0, c1', c2', f0, f1, f2, hb⟩ := HI.out.out.cells
      obtain ⟨d0, d1, d2, g0, g1, g2, hb'⟩ := HI.out.res.cells
      have hxn : x = s.size := by omega
      have HX := Lib.hid hxn; clear hxn
      go_wp2_with fail
      refine bodyPost_ret (v := wordV s) ?_ rfl ⟨rfl, ?_⟩
      · unfold wordV gridOf
        rw [← HX.out]
        have h := HI.out.res.set3 (n' := (s.size : Int)) (S' := bitsOf (letB s) x) (R' := bitsOf (fun k => ltB (k / s.size) (k % s.size)) (x * s.size))
        rw [← HX.out] at h
        exact results_str rfl rfl h
      · exact ((HI.out.old.setCell (by simp) _).setCell (by simp) _).setCell (by simp) _
end Go.Proofs.YtlkemhhkcanmoaaGreatDoor

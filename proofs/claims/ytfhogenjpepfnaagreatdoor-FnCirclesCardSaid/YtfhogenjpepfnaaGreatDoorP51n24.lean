/- Contracts of the program's functions and what they compute: part 24. Conditions: those that each theorem states. -/
import Derived.Test.YtfhogenjpepfnaaGreatDoorP51n5
import Derived.Test.YtfhogenjpepfnaaGreatDoorP51n20
namespace Go.Proofs.YtfhogenjpepfnaaGreatDoor
open Go.RowKit
set_option linter.unusedVariables false
set_option maxRecDepth 100000
def nearB (n : Nat) (R : ByteArray) (x y : Nat) : Bool := decide (y ≠ x) && (relAt n R x y || relAt n R y x)
/-- The elements next to one, among the first k. -/
def nearL (n : Nat) (R : ByteArray) (x k : Nat) : List Nat := (List.range k).filter (nearB n R x)
theorem nearL_succ (n : Nat) (R : ByteArray) (x k : Nat) : nearL n R x (k + 1) = if nearB n R x k then nearL n R x k ++ [k] else nearL n R x k := by
  unfold nearL
  rw [List.range_succ, List.filter_append]
  cases h : nearB n R x k
  · simp [h]
  · simp [h]
theorem nearL_len (n : Nat) (R : ByteArray) (x k : Nat) : (nearL n R x k).length ≤ k := by
  have := List.length_filter_le (nearB n R x) (List.range k)
  rwa [List.length_range] at this
theorem nearL_lt {n : Nat} {R : ByteArray} {x k y : Nat} (h : y ∈ nearL n R x k) : y < k := List.mem_range.1 (List.mem_filter.1 h).1
/-- The structure's box and the list that is built. -/
structure Nr (w : World) (n : Int) (S R : ByteArray) (v : Value) (L : List Nat) (wr : World) : Prop where
  a : SBlk wr w.heap.size n S R
  own : Own (w.heap.size + 1) wr v L
  old : Below w.heap.size w wr
theorem Nr.below {w wr w' : World} {n : Int} {S R : ByteArray} {v : Value} {L : List Nat} (h : Nr w n S R v L wr) (hb : Below wr.heap.size wr w') : Nr w n S R v L w' :=
  ⟨h.a.below hb h.a.cells.2.2.2.2.2.2, h.own.below hb, h.old.trans (hb.mono h.old.size)⟩
theorem Nr.push {w wr w' : World} {n : Int} {S R : ByteArray} {v v' : Value} {L L' : List Nat} (h : Nr w n S R v L wr) (ho : Own (w.heap.size + 1) w' v' L') (hg : wr.grownBy w' v.ownBlock) : Nr w n S R v' L' w' := by
  have hlo := h.own.low
  have hr : ∀ k, v.ownBlock = some k → w.heap.size + 1 ≤ k := fun k hk => (h.own.own.lt k hk).1
  exact ⟨(hg.block _ (by omega) (fun e => by have := hr _ e.symm; omega)).trans h.a, ho, h.old.grown hg h.old.size (fun k hk => by have := hr k hk; omega)⟩
/-- A list that a call has built. -/
def ListO (L : List Nat) (w : World) (e : Ending) (w' : World) : Prop := ∃ v, e = .returned v ∧ Own w.heap.size w' v L ∧ Below w.heap.size w w'
theorem Own.monoN {B B' : Nat} {w : World} {v : Value} {L : List Nat} (h : Own B w v L) (hB : B' ≤ B) : Own B' w v L := by
  refine ⟨⟨h.own.1, ?_⟩, h.ne, Nat.le_trans hB h.low⟩
  rcases h.own.2 with hn | ⟨g, cap, cur, rfl, hb', rest⟩
  · exact .inl hn
  · exact .inr ⟨g, cap, cur, rfl, Nat.le_trans hB hb', rest⟩
set_option maxHeartbeats 1000000 in
theorem implnearOf_any (n : Nat) (S R : ByteArray) (x : Nat) (hn : n ≤ 8) (hR : R.size = n * n) (hx : x < n) (w : World) :
    Calls Tryz.prog 49 #[strV n S R, .int .i64 (x : Int)] w (ListO (nearL n R x n) w) := by
  have HRL := Lib.hid (fun x y w hx hy => inRel_b n S R x y w hx hy hn hR)
  have hB : Below w.heap.size w (boxS w n S R) := boxS_below _ _ _ _
  have hX : SBlk (boxS w n S R) w.heap.size n S R := boxS_SBlk _ _ _ _
  have hz : (boxS w n S R).heap.size = w.heap.size + 1 := boxS_size _ _ _ _
  obtain ⟨W, hW⟩ : ∃ W, boxS w n S R = W := ⟨_, rfl⟩
  rw [hW] at hB hX hz
  unfold boxS at hW
  have HW := Lib.hid hW
  have HP0 : Hid (Nr w n S R (.slice (some ⟨W.heap.size, 0, none⟩) 0 0) (nearL n R x 0) (W.alloc (.cells #[] 3))) :=
    ⟨hX.below ((Below.refl _ _).alloc (Nat.le_refl _) _) (by omega), by rw [← hz]; exact Own.lit0 _ W (Nat.le_refl _), hB.trans (((Below.refl W.heap.size W).alloc (Nat.le_refl _) _).mono (by omega))⟩
  clear hW hB hX hz hR
  unfold strV at HRL
  unfold strV
  go_enter Tryz.func49, Tryz.ntmps49
  go_upto_region 1 with fail
  rw [HW.out]
  obtain ⟨c0, c1, c2, f0, f1, f2, hl⟩ := HP0.out.a.cells
  go_wp2_with fail
  go_loopw [10, 5, 6] (fun q o p wr => ∃ k : Nat, k ≤ n ∧ q = .int .i64 (k : Int) ∧ Hid (Nr w n S R o (nearL n R x k) wr)) (fun q _ _ _ => n - (intOf q).toNat)
  case atStart => exact ⟨0, by omega, rfl, HP0.out⟩
  case round =>
    clear HP0 c0 c1 c2 f0 f1 f2 hl
    obtain ⟨k, hk, rfl, HP1⟩ := hrel
    by_cases hlt : k < n
    · have hkI : (k : Int) < (n : Int) := by omega
      have HYES : Hid (nearB n R x k = true → nearL n R x (k + 1) = nearL n R x k ++ [k]) := fun h => by rw [nearL_succ, if_pos h]
      have HNO : Hid (nearB n R x k = false → nearL n R x (k + 1) = nearL n R x k) := fun h => by rw [nearL_succ, if_neg (by rw [h]; simp)]
      obtain ⟨c0, c1, c2, f0, f1, f2, hl⟩ := HP1.out.a.cells
      by_cases hkx : k = x
      · have hkB : ((k : Int) != (x : Int)) = false := by simp [hkx]
        replace HNO := Lib.hid (HNO.out (by unfold nearB; simp [hkx]))
        clear HYES
        go_wp2_with fail
        go_roundw
        case rel => exact ⟨k + 1, by omega, by go_num, by rw [HNO.out]; exact HP1.out⟩
        case measure => simp [intOf]; omega
      · have hkB : ((k : Int) != (x : Int)) = true := by simp; omega
        have H1 := Lib.hid (fun w => HRL.out x k w hx hlt)
        have H2 := Lib.hid (fun w => HRL.out k x w hlt hx)
        have HNB : Hid (nearB n R x k = (relAt n R x k || relAt n R k x)) := by show _ = _; unfold nearB; simp [hkx]
        generalize relAt n R x k = r1 at *
        generalize relAt n R k x = r2 at *
        cases r1 with
        | true =>
          replace HYES := Lib.hid (HYES.out (by rw [HNB.out]; rfl))
          go_wp2_with fail
          refine (H1.out _).mono ?_; rintro e w2 ⟨rfl, hb⟩
          have HP2 := Lib.hid (HP1.out.below hb)
          clear hb c0 c1 c2 f0 f1 f2 hl
          obtain ⟨c0, c1, c2, f0, f1, f2, hl⟩ := HP2.out.a.cells
          have HLL : Hid ((nearL n R x k).length ≤ 2000000) := by have := nearL_len n R x k; show _ ≤ _; omega
          go_wp2_with (first | (at_builtin; refine wpList_own1 HP2.out.own HLL.out rfl (.tmp 28) (.tmp 30) rfl k _ rfl rfl rfl ?_; intro v' w' ho hg; have HP9 := Lib.hid (HP2.out.push ho hg); clear ho hg) | fail)
          go_roundw
          case rel => exact ⟨k + 1, by omega, by go_num, by rw [HYES.out]; exact HP9.out⟩
          case measure => simp [intOf]; omega
        | false =>
          cases r2 with
          | true =>
            replace HYES := Lib.hid (HYES.out (by rw [HNB.out]; rfl))
            go_wp2_with fail
            refine (H1.out _).mono ?_; rintro e w2 ⟨rfl, hb⟩
            have HP2 := Lib.hid (HP1.out.below hb)
            clear hb c0 c1 c2 f0 f1 f2 hl
            obtain ⟨c0, c1, c2, f0, f1, f2, hl⟩ := HP2.out.a.cells
            go_wp2_with fail
            refine (H2.out _).mono ?_; rintro e w3 ⟨rfl, hb⟩
            have HP3 := Lib.hid (HP2.out.below hb)
            clear hb c0 c1 c2 f0 f1 f2 hl
            obtain ⟨c0, c1, c2, f0, f1, f2, hl⟩ := HP3.out.a.cells
            have HLL : Hid ((nearL n R x k).length ≤ 2000000) := by have := nearL_len n R x k; show _ ≤ _; omega
            go_wp2_with (first | (at_builtin; refine wpList_own1 HP3.out.own HLL.out rfl (.tmp 28) (.tmp 30) rfl k _ rfl rfl rfl ?_; intro v' w' ho hg; have HP9 := Lib.hid (HP3.out.push ho hg); clear ho hg) | fail)
            go_roundw
            case rel => exact ⟨k + 1, by omega, by go_num, by rw [HYES.out]; exact HP9.out⟩
            case measure => simp [intOf]; omega
          | false =>
            replace HNO := Lib.hid (HNO.out (by rw [HNB.out]; rfl))
            go_wp2_with fail
            refine (H1.out _).mono ?_; rintro e w2 ⟨rfl, hb⟩
            have HP2 := Lib.hid (HP1.out.below hb)
            clear hb c0 c1 c2 f0 f1 f2 hl
            obtain ⟨c0, c1, c2, f0, f1, f2, hl⟩ := HP2.out.a.cells
            go_wp2_with fail
            refine (H2.out _).mono ?_; rintro e w3 ⟨rfl, hb⟩
            have HP3 := Lib.hid (HP2.out.below hb)
            clear hb c0 c1 c2 f0 f1 f2 hl
            obtain ⟨c0, c1, c2, f0, f1, f2, hl⟩ := HP3.out.a.cells
            go_wp2_with fail
            go_roundw
            case rel => exact ⟨k + 1, by omega, by go_num, by rw [HNO.out]; exact HP3.out⟩
            case measure => simp [intOf]; omega
    · obtain rfl : k = n := by omega
      have HF : Hid (ListO (nearL k R x k) w (.returned u5) wr) := ⟨_, rfl, HP1.out.own.monoN (by omega), HP1.out.old⟩
      go_wp2_with fail
      go_ret
      exact HF.out
end Go.Proofs.YtfhogenjpepfnaaGreatDoor

/- Contracts of the program's functions and what they compute: part 14. Conditions: those that each theorem states. -/
import Derived.Test.YtdonjgjkhndfcaaGreatDoorP52n7
import Derived.Test.YtdonjgjkhndfcaaGreatDoorP52n10
import Derived.Test.YtdonjgjkhndfcaaGreatDoorP52n1
namespace Go.Proofs.YtdonjgjkhndfcaaGreatDoor
open Go.RowKit
set_option linter.unusedVariables false
set_option maxRecDepth 100000
def nearB (n : Nat) (R : ByteArray) (x y : Nat) : Bool := decide (y ≠ x) && (relAt n R x y || relAt n R y x)
/-- The elements next to one, among the first k. -/
def nearL (n : Nat) (R : ByteArray) (x k : Nat) : List Nat := (List.range k).filter (nearB n R x)
theorem nearL_succ (n : Nat) (R : ByteArray) (x k : Nat) : nearL n R x (k + 1) = if nearB n R x k then nearL n R x k ++ [k] else nearL n R x k := by
  unfold nearL
  rw [List.range_succ, List.filter_append]
  cases h : nearB n R x k
  · simp [h]
  · simp [h]
theorem nearL_len (n : Nat) (R : ByteArray) (x k : Nat) : (nearL n R x k).length ≤ k := by
  have := List.length_filter_le (nearB n R x) (List.range k)
  rwa [List.length_range] at this
theorem nearL_lt {n : Nat} {R : ByteArray} {x k y : Nat} (h : y ∈ nearL n R x k) : y < k := List.mem_range.1 (List.mem_filter.1 h).1
/-- The structure's box and the list that is built. -/
structure Nr (w : World) (n : Int) (S R : ByteArray) (v : Value) (L : List Nat) (wr : World) : Prop where
  a : SBlk wr w.heap.size n S R
  own : Own (w.heap.size + 1) wr v L
  old : Below w.heap.size w wr
theorem Nr.below {w wr w' : World} {n : Int} {S R : ByteArray} {v : Value} {L : List Nat} (h : Nr w n S R v L wr) (hb : Below wr.heap.size wr w') : Nr w n S R v L w' :=
  ⟨h.a.below hb h.a.cells.2.2.2.2.2.2, h.own.below hb, h.old.trans (hb.mono h.old.size)⟩
theorem Nr.push {w wr w' : World} {n : Int} {S R : ByteArray} {v v' : Value} {L L' : List Nat} (h : Nr w n S R v L wr) (ho : Own (w.heap.size + 1) w' v' L') (hg : wr.grownBy w' v.ownBlock) : Nr w n S R v' L' w' := by
  have hlo := h.own.low
  have hr : ∀ k, v.ownBlock = some k → w.heap.size + 1 ≤ k := fun k hk => (h.own.own.lt k hk).1
  exact ⟨(hg.block _ (by omega) (fun e => by have := hr _ e.symm; omega)).trans h.a, ho, h.old.grown hg h.old.size (fun k hk => by have := hr k hk; omega)⟩
/-- A list that a call has built. -/
def ListO (L : List Nat) (w : World) (e : Ending) (w' : World) : Prop := ∃ v, e = .returned v ∧ Own w.heap.size w' v L ∧ Below w.heap.size w w'
theorem Own.monoN {B B' : Nat} {w : World} {v : Value} {L : List Nat} (h : Own B w v L) (hB : B' ≤ B) : Own B' w v L := by
  refine ⟨⟨h.own.1, ?_⟩, h.ne, Nat.le_trans hB h.low⟩
  rcases h.own.2 with hn | ⟨g, cap, cur, rfl, hb', rest⟩
  · exact .inl hn
  · exact .inr ⟨g, cap, cur, rfl, Nat.le_trans hB hb', rest⟩
set_option maxHeartbeats 1000000 in
theorem implnearOf_any (n : Nat) (S R : ByteArray) (x : Nat) (hn : n ≤ 8) (hR : R.size = n * n) (hx : x < n) (w : World) :
    Calls Tryz.prog 59 #[strV n S R, .int .i64 (x : Int)] w (ListO (nearL n R x n) w) := by
  have HRL := Lib.hid (fun x y w hx hy => inRel_b n S R x y w hx hy hn hR)
  have hB : Below w.heap.size w (boxS w n S R) := boxS_below _ _ _ _
  have hX : SBlk (boxS w n S R) w.heap.size n S R := boxS_SBlk _ _ _ _
  have hz : (boxS w n S R).heap.size = w.heap.size + 1 := boxS_size _ _ _ _
  obtain ⟨W, hW⟩ : ∃ W, boxS w n S R = W := ⟨_, rfl⟩
  rw [hW] at hB hX hz
  unfold boxS at hW
  have HW := Lib.hid hW
  have HP0 : Hid (Nr w n S R (.slice (some ⟨W.heap.size, 0, none⟩) 0 0) (nearL n R x 0) (W.alloc (.cells #[] 3))) :=
    ⟨hX.below ((Below.refl _ _).alloc (Nat.le_refl _) _) (by omega), by rw [← hz]; exact Own.lit0 _ W (Nat.le_refl _), hB.trans (((Below.refl W.heap.size W).alloc (Nat.le_refl _) _).mono (by omega))⟩
  clear hW hB hX hz hR
  unfold strV at HRL
  unfold strV
  go_enter Tryz.func59, Tryz.ntmps59
  go_upto_region 1 with fail
  rw [HW.out]
  obtain ⟨c0, c1, c2, f0, f1, f2, hl⟩ := HP0.out.a.cells
  go_wp2_with fail
  go_loopw [10, 5, 6] (fun q o p wr => ∃ k : Nat, k ≤ n ∧ q = .int .i64 (k : Int) ∧ Hid (Nr w n S R o (nearL n R x k) wr)) (fun q _ _ _ => n - (intOf q).toNat)
  case atStart => exact ⟨0, by omega, rfl, HP0.out⟩
  case round =>
    clear HP0 c0 c1 c2 f0 f1 f2 hl
    obtain ⟨k, hk, rfl, HP1⟩ := hrel
    by_cases hlt : k < n
    · have hkI : (k : Int) < (n : Int) := by omega
      have HYES : Hid (nearB n R x k = true → nearL n R x (k + 1) = nearL n R x k ++ [k]) := fun h => by rw [nearL_succ, if_pos h]
      have HNO : Hid (nearB n R x k = false → nearL n R x (k + 1) = nearL n R x k) := fun h => by rw [nearL_succ, if_neg (by rw [h]; simp)]
      obtain ⟨c0, c1, c2, f0, f1, f2, hl⟩ := HP1.out.a.cells
      by_cases hkx : k = x
      · have hkB : ((k : Int) != (x : Int)) = false := by simp [hkx]
        replace HNO := Lib.hid (HNO.out (by unfold nearB; simp [hkx]))
        clear HYES
        go_wp2_with fail
        go_roundw
        case rel => exact ⟨k + 1, by omega, by go_num, by rw [HNO.out]; exact HP1.out⟩
        case measure => simp [intOf]; omega
      · have hkB : ((k : Int) != (x : Int)) = true := by simp; omega
        have H1 := Lib.hid (fun w => HRL.out x k w hx hlt)
        have H2 := Lib.hid (fun w => HRL.out k x w hlt hx)
        have HNB : Hid (nearB n R x k = (relAt n R x k || relAt n R k x)) := by show _ = _; unfold nearB; simp [hkx]
        generalize relAt n R x k = r1 at *
        generalize relAt n R k x = r2 at *
        cases r1 with
        | true =>
          replace HYES := Lib.hid (HYES.out (by rw [HNB.out]; rfl))
          go_wp2_with fail
          refine (H1.out _).mono ?_; rintro e w2 ⟨rfl, hb⟩
          have HP2 := Lib.hid (HP1.out.below hb)
          clear hb c0 c1 c2 f0 f1 f2 hl
          obtain ⟨c0, c1, c2, f0, f1, f2, hl⟩ := HP2.out.a.cells
          have HLL : Hid ((nearL n R x k).length ≤ 2000000) := by have := nearL_len n R x k; show _ ≤ _; omega
          go_wp2_with (first | (at_builtin; refine wpList_own1 HP2.out.own HLL.out rfl (.tmp 28) (.tmp 30) rfl k _ rfl rfl rfl ?_; intro v' w' ho hg; have HP9 := Lib.hid (HP2.out.push ho hg); clear ho hg) | fail)
          go_roundw
          case rel => exact ⟨k + 1, by omega, by go_num, by rw [HYES.out]; exact HP9.out⟩
          case measure => simp [intOf]; omega
        | false =>
          cases r2 with
          | true =>
            replace HYES := Lib.hid (HYES.out (by rw [HNB.out]; rfl))
            go_wp2_with fail
            refine (H1.out _).mono ?_; rintro e w2 ⟨rfl, hb⟩
            have HP2 := Lib.hid (HP1.out.below hb)
            clear hb c0 c1 c2 f0 f1 f2 hl
            obtain ⟨c0, c1, c2, f0, f1, f2, hl⟩ := HP2.out.a.cells
            go_wp2_with fail
            refine (H2.out _).mono ?_; rintro e w3 ⟨rfl, hb⟩
            have HP3 := Lib.hid (HP2.out.below hb)
            clear hb c0 c1 c2 f0 f1 f2 hl
            obtain ⟨c0, c1, c2, f0, f1, f2, hl⟩ := HP3.out.a.cells
            have HLL : Hid ((nearL n R x k).length ≤ 2000000) := by have := nearL_len n R x k; show _ ≤ _; omega
            go_wp2_with (first | (at_builtin; refine wpList_own1 HP3.out.own HLL.out rfl (.tmp 28) (.tmp 30) rfl k _ rfl rfl rfl ?_; intro v' w' ho hg; have HP9 := Lib.hid (HP3.out.push ho hg); clear ho hg) | fail)
            go_roundw
            case rel => exact ⟨k + 1, by omega, by go_num, by rw [HYES.out]; exact HP9.out⟩
            case measure => simp [intOf]; omega
          | false =>
            replace HNO := Lib.hid (HNO.out (by rw [HNB.out]; rfl))
            go_wp2_with fail
            refine (H1.out _).mono ?_; rintro e w2 ⟨rfl, hb⟩
            have HP2 := Lib.hid (HP1.out.below hb)
            clear hb c0 c1 c2 f0 f1 f2 hl
            obtain ⟨c0, c1, c2, f0, f1, f2, hl⟩ := HP2.out.a.cells
            go_wp2_with fail
            refine (H2.out _).mono ?_; rintro e w3 ⟨rfl, hb⟩
            have HP3 := Lib.hid (HP2.out.below hb)
            clear hb c0 c1 c2 f0 f1 f2 hl
            obtain ⟨c0, c1, c2, f0, f1, f2, hl⟩ := HP3.out.a.cells
            go_wp2_with fail
            go_roundw
            case rel => exact ⟨k + 1, by omega, by go_num, by rw [HNO.out]; exact HP3.out⟩
            case measure => simp [intOf]; omega
    · obtain rfl : k = n := by omega
      have HF : Hid (ListO (nearL k R x k) w (.returned u5) wr) := ⟨_, rfl, HP1.out.own.monoN (by omega), HP1.out.old⟩
      go_wp2_with fail
      go_ret
      exact HF.out
end Go.Proofs.YtdonjgjkhndfcaaGreatDoor

namespace Go.Proofs.YtdonjgjkhndfcaaGreatDoor
open Go.RowKit
set_option linter.unusedVariables false
set_option maxRecDepth 100000
/-- The slice v of the world w is the call's own since block B, and holds the numbers L. -/
structure OwnI (B : Nat) (w : World) (v : Value) (L : List Int) : Prop where
  own : w.ownsRow B 3 1 v L.length (L.map (Value.int .i64))
  ne : v ≠ .slice none 0 0
  low : B ≤ w.heap.size
theorem OwnI.cells {B : Nat} {w : World} {v : Value} {L : List Int} (h : OwnI B w v L) :
    ∃ g cap, v = .slice (some ⟨g, 0, none⟩) L.length cap ∧ B ≤ g ∧ g < w.heap.size ∧ L.length ≤ cap ∧ cap ≤ maxLen ∧ ∀ j, j < L.length → w.cell? ⟨g, j, none⟩ = some (.int .i64 (L.getD j 0)) := by
  rcases h.own.2 with ⟨h1, h2⟩ | ⟨g, cap, cur, rfl, hb, hg, hnc, hcm, hcs, htake⟩
  · exact absurd h1 h.ne
  · refine ⟨g, cap, rfl, hb, (h.own.lt g rfl).2, hnc, hcm, fun j hj => ?_⟩
    rw [h.own.cellAt j (by omega)]
    simp [hj]
theorem OwnI.lit0 (B : Nat) (w : World) (hB : B ≤ w.heap.size) : OwnI B (w.alloc (.cells #[] 3)) (.slice (some ⟨w.heap.size, 0, none⟩) 0 0) [] :=
  ⟨World.ownsRow_made w #[] 0 hB (by decide) rfl, by simp, by simp; omega⟩
theorem OwnI.kept {B : Nat} {w w' : World} {v : Value} {L : List Int} (h : OwnI B w v L) (hb : ∀ k, v.ownBlock = some k → k < w.heap.size → w'.heap[k]? = w.heap[k]?) (hs : w.heap.size ≤ w'.heap.size) : OwnI B w' v L := by
  refine ⟨⟨h.own.1, ?_⟩, h.ne, Nat.le_trans h.low hs⟩
  rcases h.own.2 with hn | ⟨g, cap, cur, rfl, hb', hgg, rest⟩
  · exact .inl hn
  · exact .inr ⟨g, cap, cur, rfl, hb', by rw [hb g rfl (Array.getElem?_eq_some_iff.1 hgg).1]; exact hgg, rest⟩
theorem OwnI.below {B : Nat} {w w' : World} {v : Value} {L : List Int} (h : OwnI B w v L) (hb : Below w.heap.size w w') : OwnI B w' v L := h.kept (fun k _ hk => hb.block k hk) hb.size
theorem OwnI.mono {B B' : Nat} {w : World} {v : Value} {L : List Int} (h : OwnI B w v L) (hB : B' ≤ B) : OwnI B' w v L := by
  refine ⟨⟨h.own.1, ?_⟩, h.ne, Nat.le_trans hB h.low⟩
  rcases h.own.2 with hn | ⟨g, cap, cur, rfl, hb', rest⟩
  · exact .inl hn
  · exact .inr ⟨g, cap, cur, rfl, Nat.le_trans hB hb', rest⟩
theorem OwnI.block {B : Nat} {w : World} {v : Value} {L : List Int} (h : OwnI B w v L) : ∃ k, v.ownBlock = some k ∧ B ≤ k ∧ k < w.heap.size := by
  obtain ⟨g, cap, rfl, h1, h2, _⟩ := h.cells
  exact ⟨g, rfl, h1, h2⟩
theorem OwnI.grown {B b : Nat} {w w' : World} {v : Value} {L : List Int} (h : OwnI B w v L) (hg : w.grownBy w' (some b)) (hb : b < B) : OwnI B w' v L :=
  h.kept (fun k hk hl => hg.block k hl (by
    obtain ⟨j, hj, h1, _⟩ := h.block
    rw [hk] at hj; injection hj with hj
    intro e; injection e with e; omega)) hg.size
/-- One number is appended to a slice of the call's own. -/
theorem wpList_ownI1 {ops : Array Oper} {rest : List Oper} {o : Oper} {a : Act} {Q : Exit → Act → World → Prop} {B : Nat} {w : World} {v : Value} {L : List Int}
    (hown : OwnI B w v L) (hL : L.length ≤ 2000000) (hgd : o.guard = none) (s x : Operand)
    (ho : o.op = .call { callee := .builtin .append, args := #[s, x], argTypes := #[29, 29] }) (y : Int) (b : Nat) (hb : w.heap.size = b)
    (hs : a.eval s = v) (hx : a.eval x = .slice (some ⟨b, 0, none⟩) 1 1)
    (h : ∀ v' w', OwnI B w' v' (L ++ [y]) → w.grownBy w' v.ownBlock → wpList Tryz.prog ops Q rest (a.put o.dst v') w') :
    wpList Tryz.prog ops Q (o :: rest) a (w.alloc (.cells #[.int .i64 y] 3)) := by
  subst hb
  obtain ⟨i, hi, hz, h1, h2⟩ := info_parts natInfo3
  have hbase : B ≤ w.heap.size := hown.low
  have hown' : (w.alloc (.cells #[.int .i64 y] 3)).ownsRow B 3 1 v L.length (L.map (Value.int .i64)) := (hown.below ((Below.refl _ _).alloc (Nat.le_refl _) _)).own
  refine wpList_append_own _ hgd s x 29 ho B 3 i (.int .i64 0) 1 8 Tryz.underlying29 hi hz h1 h2 rfl (by decide) v L.length _ hs hown' ⟨w.heap.size, 0, none⟩ 1 1 [.int .i64 y] hx rfl ?_ ?_ ?_ ?_ ?_ ?_
  · intro j u hj
    match j, hj with
    | 0, hj => simp at hj; subst hj; simp [Addr.add]
  · intro u hu
    simp at hu; subst hu; rfl
  · unfold maxLen; omega
  · omega
  · simp; omega
  · intro v' w' h2 h3 h4
    refine h v' w' ⟨?_, ?_, ?_⟩ ?_
    · simpa using h2
    · intro e
      exact hown.ne (h4.1 e).1
    · have := h3.size
      simp at this
      omega
    · refine ⟨h3.os, h3.tape, h3.output, ?_, fun k hk hne => ?_⟩
      · have := h3.size
        simp at this
        omega
      · rw [h3.block k (by simp; omega) hne]
        exact Below.heap_alloc _ _ _ hk
end Go.Proofs.YtdonjgjkhndfcaaGreatDoor

namespace Go.Proofs.YtdonjgjkhndfcaaGreatDoor
open Go.RowKit
set_option linter.unusedVariables false
set_option maxRecDepth 100000
/-- A list of numbers that a call has built. -/
def ListI (L : List Int) (w : World) (e : Ending) (w' : World) : Prop := ∃ v, e = .returned v ∧ OwnI w.heap.size w' v L ∧ Below w.heap.size w w'
theorem besides_any (n : Nat) (hn : n ≤ 1000) (w : World) : Calls Tryz.prog 58 #[.int .i64 (n : Int)] w (ListI (List.replicate n (-1)) w) := by
  have HP0 : Hid (OwnI w.heap.size (w.alloc (.cells #[] 3)) (.slice (some ⟨w.heap.size, 0, none⟩) 0 0) (List.replicate 0 (-1)) ∧ Below w.heap.size w (w.alloc (.cells #[] 3))) := ⟨OwnI.lit0 _ _ (Nat.le_refl _), (Below.refl _ _).alloc (Nat.le_refl _) _⟩
  go_enter Tryz.func58, Tryz.ntmps58
  go_wp2_with fail
  go_loopw [6, 3] (fun q o wr => ∃ k : Nat, k ≤ n ∧ q = .int .i64 (k : Int) ∧ Hid (OwnI w.heap.size wr o (List.replicate k (-1)) ∧ Below w.heap.size w wr)) (fun q _ _ => n - (intOf q).toNat)
  case atStart => exact ⟨0, by omega, rfl, HP0.out⟩
  case round =>
    clear HP0
    obtain ⟨k, hk, rfl, HP⟩ := hrel
    by_cases hlt : k < n
    · have hkI : (k : Int) < (n : Int) := by omega
      have HLL : Hid ((List.replicate k (-1 : Int)).length ≤ 2000000) := by show _ ≤ _; rw [List.length_replicate]; omega
      go_wp2_with (first | (at_builtin; refine wpList_ownI1 HP.out.1 HLL.out rfl (.tmp 8) (.tmp 9) rfl (-1) _ rfl rfl rfl ?_; intro v' w' ho hg; have HP2 : Hid (OwnI w.heap.size w' v' (List.replicate (k + 1) (-1)) ∧ Below w.heap.size w w') := ⟨by rw [List.replicate_succ']; exact ho, HP.out.2.grown hg HP.out.2.size (fun j hj => (HP.out.1.own.lt j hj).1)⟩; clear ho hg) | fail)
      go_roundw
      case rel => exact ⟨k + 1, by omega, by go_num, HP2.out⟩
      case measure => simp [intOf]; omega
    · obtain rfl : k = n := by omega
      have HF : Hid (ListI (List.replicate k (-1)) w (.returned u3) wr) := ⟨_, rfl, HP.out.1, HP.out.2⟩
      go_wp2_with fail
      go_ret
      exact HF.out
end Go.Proofs.YtdonjgjkhndfcaaGreatDoor

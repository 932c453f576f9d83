/- Contracts of the program's functions and what they compute: part 8. Conditions: those that each theorem states. -/
import Derived.Test.YtofmagiahmmmgaaGreatDoorP53n7
import Derived.Test.YtofmagiahmmmgaaGreatDoorP53n1
namespace Go.Proofs.YtofmagiahmmmgaaGreatDoor
open Go.RowKit
set_option linter.unusedVariables false
set_option maxRecDepth 100000
/-- Bools as cells. -/
def boolC (l : List Bool) : Array Value := (l.map Value.bool).toArray
section
variable {W : World} {g : Nat} {l : List Bool} {t : TypeId}
theorem boolC_cell (h : W.heap[g]? = some (.cells (boolC l) t (0, 0))) (k : Nat) (hk : k < l.length) : W.cell? ⟨g, k, none⟩ = some (.bool (l.getD k false)) ∧ W.frozen? ⟨g, k, none⟩ = false := by
  refine ⟨?_, by unfold World.frozen?; rw [h]; rfl⟩
  unfold World.cell?
  rw [h]
  simp [boolC, hk]
theorem boolC_set (h : W.heap[g]? = some (.cells (boolC l) t (0, 0))) (k : Nat) (c : Bool) : (W.setCell ⟨g, k, none⟩ (.bool c)).heap[g]? = some (.cells (boolC (l.set k c)) t (0, 0)) := by
  have e : (boolC l).setIfInBounds k (.bool c) = boolC (l.set k c) := by
    unfold boolC
    rw [List.map_set]
    simp
  rw [← e]
  simp [World.setCell, Array.getElem?_modify, h]
end
theorem make_bools (n : Nat) (h1 : 1 ≤ n) (h8 : n ≤ 8) (w : World) : (Instr.makeSlice 54 (.int .i64 (n : Int)) (.int .i64 (n : Int))).run Tryz.prog w = .ok (.slice (some ⟨w.heap.size, 0, none⟩) n n) (w.alloc (.cells (boolC (List.replicate n false)) 4)) := by
  rcases (by omega : n = 1 ∨ n = 2 ∨ n = 3 ∨ n = 4 ∨ n = 5 ∨ n = 6 ∨ n = 7 ∨ n = 8) with rfl | rfl | rfl | rfl | rfl | rfl | rfl | rfl
  all_goals kernel_rfl
theorem boolInfo4 : (Tryz.prog.info? 4).map (fun i => (i.zero, i.size, i.bytes)) = some (some (.bool false), 1, 1) := by kernel_rfl
/-- A slice of at least one cell that reads as bools. -/
def BoolsAt (w : World) (v : Value) (L : List Bool) : Prop :=
  ∃ g cap, v = .slice (some ⟨g, 0, none⟩) L.length cap ∧ L.length ≤ cap ∧ cap ≤ maxLen ∧ g < w.heap.size ∧ ∀ j, j < L.length → w.cell? ⟨g, j, none⟩ = some (.bool (L.getD j false))
theorem BoolsAt.kept {w w' : World} {v : Value} {L : List Bool} (h : BoolsAt w v L) (hb : ∀ k, v.ownBlock = some k → k < w.heap.size → w'.heap[k]? = w.heap[k]?) (hs : w.heap.size ≤ w'.heap.size) : BoolsAt w' v L := by
  obtain ⟨g, cap, rfl, h1, h2, h3, h4⟩ := h
  exact ⟨g, cap, rfl, h1, h2, by omega, fun j hj => (World.cell?_of_block (hb g rfl h3)).trans (h4 j hj)⟩
theorem BoolsAt.below {w w' : World} {v : Value} {L : List Bool} (h : BoolsAt w v L) (hb : Below w.heap.size w w') : BoolsAt w' v L := h.kept (fun k _ hk => hb.block k hk) hb.size
theorem BoolsAt.block {w : World} {v : Value} {L : List Bool} (h : BoolsAt w v L) : ∃ k, v.ownBlock = some k ∧ k < w.heap.size := by
  obtain ⟨g, cap, rfl, h1, h2, h3, h4⟩ := h
  exact ⟨g, rfl, h3⟩
/-- The slice v of the world w is the call's own since block B, and holds the bools L; it may be nil. -/
structure OwnL (B : Nat) (w : World) (v : Value) (L : List Bool) : Prop where
  own : w.ownsRow B 4 1 v L.length (L.map Value.bool)
  low : B ≤ w.heap.size
theorem OwnL.nil (B : Nat) (w : World) (hB : B ≤ w.heap.size) : OwnL B w (.slice none 0 0) [] := ⟨World.ownsRow_nil w B 4 1, hB⟩
theorem OwnL.lit0 (B : Nat) (w : World) (hB : B ≤ w.heap.size) : OwnL B (w.alloc (.cells #[] 4)) (.slice (some ⟨w.heap.size, 0, none⟩) 0 0) [] :=
  ⟨World.ownsRow_made w #[] 0 hB (by decide) rfl, by simp; omega⟩
theorem OwnL.cells {B : Nat} {w : World} {v : Value} {L : List Bool} (h : OwnL B w v L) (hne : 0 < L.length) :
    ∃ g cap, v = .slice (some ⟨g, 0, none⟩) L.length cap ∧ B ≤ g ∧ g < w.heap.size ∧ L.length ≤ cap ∧ cap ≤ maxLen ∧ (∀ j, j < L.length → w.cell? ⟨g, j, none⟩ = some (.bool (L.getD j false))) ∧ ∀ j, w.frozen? ⟨g, j, none⟩ = false := by
  rcases h.own.2 with ⟨h1, h2⟩ | ⟨g, cap, cur, rfl, hb, hg, hnc, hcm, hcs, htake⟩
  · omega
  · refine ⟨g, cap, rfl, hb, (h.own.lt g rfl).2, hnc, hcm, fun j hj => ?_, fun j => h.own.frozenAt j⟩
    rw [h.own.cellAt j (by omega)]
    simp [hj]
theorem OwnL.bools {B : Nat} {w : World} {v : Value} {L : List Bool} (h : OwnL B w v L) (hne : 0 < L.length) : BoolsAt w v L := by
  obtain ⟨g, cap, rfl, h1, h2, h3, h4, h5, _⟩ := h.cells hne
  exact ⟨g, cap, rfl, h3, h4, h2, h5⟩
theorem OwnL.kept {B : Nat} {w w' : World} {v : Value} {L : List Bool} (h : OwnL B w v L) (hb : ∀ k, v.ownBlock = some k → k < w.heap.size → w'.heap[k]? = w.heap[k]?) (hs : w.heap.size ≤ w'.heap.size) : OwnL B w' v L := by
  refine ⟨⟨h.own.1, ?_⟩, Nat.le_trans h.low hs⟩
  rcases h.own.2 with hn | ⟨g, cap, cur, rfl, hb', hgg, rest⟩
  · exact .inl hn
  · exact .inr ⟨g, cap, cur, rfl, hb', by rw [hb g rfl (Array.getElem?_eq_some_iff.1 hgg).1]; exact hgg, rest⟩
theorem OwnL.below {B : Nat} {w w' : World} {v : Value} {L : List Bool} (h : OwnL B w v L) (hb : Below w.heap.size w w') : OwnL B w' v L := h.kept (fun k _ hk => hb.block k hk) hb.size
theorem OwnL.lt {B : Nat} {w : World} {v : Value} {L : List Bool} (h : OwnL B w v L) : ∀ k, v.ownBlock = some k → B ≤ k ∧ k < w.heap.size := h.own.lt
theorem OwnL.monoL {B B' : Nat} {w : World} {v : Value} {L : List Bool} (h : OwnL B w v L) (hB : B' ≤ B) : OwnL B' w v L := by
  refine ⟨⟨h.own.1, ?_⟩, Nat.le_trans hB h.low⟩
  rcases h.own.2 with hn | ⟨g, cap, cur, rfl, hb', rest⟩
  · exact .inl hn
  · exact .inr ⟨g, cap, cur, rfl, Nat.le_trans hB hb', rest⟩
theorem OwnL.set {B g n cap : Nat} {w : World} {L : List Bool} (h : OwnL B w (.slice (some ⟨g, 0, none⟩) n cap) L) (hn : L.length = n) (j : Nat) (b : Bool) : OwnL B (w.setCell ⟨g, j, none⟩ (.bool b)) (.slice (some ⟨g, 0, none⟩) n cap) (L.set j b) := by
  have h1 := h.own
  rw [hn] at h1
  refine ⟨?_, by simpa [World.setCell] using h.low⟩
  rw [List.length_set, List.map_set, hn]
  exact (h1.stored j (.bool b)).1
/-- One bool is appended to a slice of the call's own. -/
theorem wpList_ownL1 {ops : Array Oper} {rest : List Oper} {o : Oper} {a : Act} {Q : Exit → Act → World → Prop} {B : Nat} {w : World} {v : Value} {L : List Bool}
    (hown : OwnL B w v L) (hL : L.length ≤ 2000000) (hgd : o.guard = none) (s x : Operand)
    (ho : o.op = .call { callee := .builtin .append, args := #[s, x], argTypes := #[54, 54] }) (y : Bool) (b : Nat) (hb : w.heap.size = b)
    (hs : a.eval s = v) (hx : a.eval x = .slice (some ⟨b, 0, none⟩) 1 1)
    (h : ∀ v' w', OwnL B w' v' (L ++ [y]) → w.grownBy w' v.ownBlock → wpList Tryz.prog ops Q rest (a.put o.dst v') w') :
    wpList Tryz.prog ops Q (o :: rest) a (w.alloc (.cells #[.bool y] 4)) := by
  subst hb
  obtain ⟨i, hi, hz, h1, h2⟩ := info_parts boolInfo4
  have hbase : B ≤ w.heap.size := hown.low
  refine wpList_append_own _ hgd s x 54 ho B 4 i (.bool false) 1 1 Tryz.underlying54 hi hz h1 h2 rfl (by decide) v L.length _ hs (hown.own.alloc _) ⟨w.heap.size, 0, none⟩ 1 1 [.bool y] hx rfl ?_ ?_ ?_ ?_ ?_ ?_
  · intro j u hj
    match j, hj with
    | 0, hj => simp at hj; subst hj; simp [Addr.add]
  · intro u hu
    simp at hu; subst hu; rfl
  · unfold maxLen; omega
  · omega
  · simp; omega
  · intro v' w' h2 h3 h4
    refine h v' w' ⟨?_, ?_⟩ ?_
    · simpa using h2
    · have := h3.size
      simp at this
      omega
    · refine ⟨h3.os, h3.tape, h3.output, ?_, fun k hk hne => ?_⟩
      · have := h3.size
        simp at this
        omega
      · rw [h3.block k (by simp; omega) hne]
        exact Below.heap_alloc _ _ _ hk
/-- All bools of a slice are appended. -/
theorem wpList_ownLAll {ops : Array Oper} {rest : List Oper} {o : Oper} {a : Act} {Q : Exit → Act → World → Prop} {B : Nat} {w : World} {v u : Value} {L M : List Bool}
    (hown : OwnL B w v L) (hM : BoolsAt w u M) (hL : L.length + M.length ≤ 2000000) (hgd : o.guard = none) (s x : Operand)
    (ho : o.op = .call { callee := .builtin .append, args := #[s, x], argTypes := #[54, 54] })
    (hs : a.eval s = v) (hx : a.eval x = u)
    (h : ∀ v' w', OwnL B w' v' (L ++ M) → w.grownBy w' v.ownBlock → wpList Tryz.prog ops Q rest (a.put o.dst v') w') :
    wpList Tryz.prog ops Q (o :: rest) a w := by
  obtain ⟨i, hi, hz, h1, h2⟩ := info_parts boolInfo4
  obtain ⟨g, cap, rfl, m1, m2, mg, mc⟩ := hM
  refine wpList_append_own _ hgd s x 54 ho B 4 i (.bool false) 1 1 Tryz.underlying54 hi hz h1 h2 rfl (by decide) v L.length _ hs hown.own ⟨g, 0, none⟩ M.length cap (M.map Value.bool) hx (by simp) ?_ ?_ ?_ ?_ hown.low ?_
  · intro j u hj
    have hj' : j < M.length := by
      have := (List.getElem?_eq_some_iff.1 hj).1
      simpa using this
    have e : (⟨g, 0, none⟩ : Addr).add j = ⟨g, j, none⟩ := by unfold Addr.add; split <;> simp_all
    rw [e, mc j hj']
    simpa [hj'] using hj
  · intro u hu
    obtain ⟨n, _, rfl⟩ := List.mem_map.1 hu
    rfl
  · unfold maxLen; omega
  · omega
  · intro v' w' h2 h3 h4
    refine h v' w' ⟨?_, ?_⟩ h3
    · simpa using h2
    · have := h3.size
      have := hown.low
      omega
/-- One bool is appended to a slice of the call's own: as one step of a region whose order is open. -/
theorem step_ownL1 {ops : Array Oper} {o : Oper} {a : Act} {K : Act → World → Prop} {Q : Exit → Act → World → Prop} {E : Prop} {B : Nat} {w : World} {v : Value} {L : List Bool}
    (hown : OwnL B w v L) (hL : Hid (L.length ≤ 2000000)) (hgd : o.guard = none) (s x : Operand)
    (ho : o.op = .call { callee := .builtin .append, args := #[s, x], argTypes := #[54, 54] }) (y : Bool) (b : Nat) (hb : w.heap.size = b)
    (hs : a.eval s = v) (hx : a.eval x = .slice (some ⟨b, 0, none⟩) 1 1)
    (h : ∀ v' w', OwnL B w' v' (L ++ [y]) → w.grownBy w' v.ownBlock → K (a.put o.dst v') w') :
    if Region.wanted o (yielded ops a.tmps) = true then Oper.wp Tryz.prog o a (w.alloc (.cells #[.bool y] 4)) K Q else E := by
  have hw : Region.wanted o (yielded ops a.tmps) = true := by simp [Region.wanted, hgd]
  rw [if_pos hw]
  have hL := hL.out
  subst hb
  obtain ⟨i, hi, hz, h1, h2⟩ := info_parts boolInfo4
  have hbase : B ≤ w.heap.size := hown.low
  refine wp_append_own _ s x 54 ho B 4 i (.bool false) 1 1 Tryz.underlying54 hi hz h1 h2 rfl (by decide) v L.length _ hs (hown.own.alloc _) ⟨w.heap.size, 0, none⟩ 1 1 [.bool y] hx rfl ?_ ?_ ?_ ?_ ?_ ?_
  · intro j u hj
    match j, hj with
    | 0, hj => simp at hj; subst hj; simp [Addr.add]
  · intro u hu
    simp at hu; subst hu; rfl
  · unfold maxLen; omega
  · omega
  · simp; omega
  · intro v' w' h2 h3 h4
    refine h v' w' ⟨?_, ?_⟩ ?_
    · simpa using h2
    · have := h3.size
      simp at this
      omega
    · refine ⟨h3.os, h3.tape, h3.output, ?_, fun k hk hne => ?_⟩
      · have := h3.size
        simp at this
        omega
      · rw [h3.block k (by simp; omega) hne]
        exact Below.heap_alloc _ _ _ hk
theorem index_false (v : Value) (L : List Bool) (w : World) (hv : BoolsAt w v L) : Calls Tryz.prog 162 #[v, .bool false] w fun e w' => (∃ z : Int, e = .returned (.int .i64 z) ∧ decide (0 ≤ z) = !(L.all id)) ∧ w' = w := by
  obtain ⟨g, cap, rfl, h1, h2, hg, h3⟩ := hv
  have HC := Lib.hid h3
  clear h3 hg
  unfold maxLen at h2
  go_enter Tryz.func162, Tryz.ntmps162
  go_wp2_with fail
  go_loopw [8, 5] (fun i _ wr => (∃ k : Nat, k ≤ L.length ∧ i = .int .i64 (k : Int) ∧ Hid (∀ j, j < k → L.getD j false = true)) ∧ wr = w) (fun i _ _ => L.length - (intOf i).toNat)
  case atStart => exact ⟨⟨0, by omega, rfl, fun j hj => by omega⟩, rfl⟩
  case round =>
    obtain ⟨⟨k, hk, rfl, HK⟩, hw⟩ := hrel
    rw [hw]; clear hw
    by_cases hlt : k < L.length
    · have d1 := HC.out k hlt
      obtain ⟨x, hx⟩ : ∃ x, L.getD k false = x := ⟨_, rfl⟩
      rw [hx] at d1
      have hkI : (k : Int) < (L.length : Int) := by omega
      cases x
      · have HE : Hid (decide ((0 : Int) ≤ (k : Int)) = !(L.all id)) := by
          show _ = _
          have h5 : L.all id = false := by
            rw [List.all_eq_false]
            refine ⟨L[k], List.getElem_mem hlt, ?_⟩
            rw [List.getD_eq_getElem?_getD, List.getElem?_eq_getElem hlt] at hx
            have h6 : L[k] = false := hx
            rw [h6]; decide
          rw [h5]; simp
        clear hx
        go_wp2_with fail
        go_ret
        exact ⟨⟨_, rfl, HE.out⟩, rfl⟩
      · have HX := Lib.hid hx
        clear hx
        go_wp2_with fail
        go_roundw
        case rel =>
          refine ⟨⟨k + 1, by omega, by go_num, fun j hj => ?_⟩, trivial⟩
          by_cases hjk : j = k
          · rw [hjk]; exact HX.out
          · exact HK.out j (by omega)
        case measure => simp [intOf]; omega
    · have HE : Hid (decide ((0 : Int) ≤ -1) = !(L.all id)) := by
        show _ = _
        have h5 : L.all id = true := by
          rw [List.all_eq_true]
          intro x hx
          obtain ⟨j, hj, rfl⟩ := List.mem_iff_getElem.1 hx
          have := HK.out j (by omega)
          rw [List.getD_eq_getElem?_getD, List.getElem?_eq_getElem hj] at this
          exact this
        rw [h5]; simp
      go_wp2_with fail
      go_ret
      exact ⟨⟨_, rfl, HE.out⟩, rfl⟩
theorem contains_false (v : Value) (L : List Bool) (w : World) (hv : BoolsAt w v L) : Calls Tryz.prog 98 #[v, .bool false] w fun e w' => e = .returned (.bool (!(L.all id))) ∧ w' = w := by
  have HI := Lib.hid (index_false v L w hv)
  obtain ⟨g, cap, rfl, h1, h2, hg, h3⟩ := hv
  clear h3
  go_enter Tryz.func98, Tryz.ntmps98
  go_wp2_with fail
  refine HI.out.mono ?_; rintro e w1 ⟨⟨z, rfl, hz⟩, hw⟩; rw [hw]; clear hw
  have HZ := Lib.hid hz; clear hz
  go_wp2_with fail
  go_ret
  exact ⟨ret_bool HZ.out, rfl⟩
theorem below_drewQ {B : Nat} {w w' : World} (h : Below B w w') : ∀ n, Below B w (w'.drewN n) := fun n => ⟨h.os, h.tape, h.output, h.size, h.block⟩
theorem equal_bools (v u : Value) (L M : List Bool) (w : World) (hv : BoolsAt w v L) (hu : BoolsAt w u M) (hl : L.length = M.length) : Calls Tryz.prog 58 #[v, u] w fun e w' => e = .returned (.bool (decide (L = M))) ∧ Below w.heap.size w w' := by
  obtain ⟨g, cap, rfl, h1, h2, hg, h3⟩ := hv
  obtain ⟨g', cap', rfl, h1', h2', hg', h3'⟩ := hu
  have HC := Lib.hid h3
  have HC' := Lib.hid h3'
  have HL := Lib.hid hl
  obtain ⟨r, hr⟩ : ∃ r, decide (L = M) = r := ⟨_, rfl⟩
  rw [hr]
  have HR := Lib.hid hr
  clear h3 h3' hr
  unfold maxLen at h2 h2'
  rw [← hl] at h1' ⊢
  clear hl
  go_enter Tryz.func58, Tryz.ntmps58
  go_wp2_with fail
  go_loopw [13, 5] (fun i _ wr => ∃ k : Nat, k ≤ L.length ∧ i = .int .i64 (k : Int) ∧ Hid (∀ j, j < k → L.getD j false = M.getD j false) ∧ Hid (Below w.heap.size w wr)) (fun i _ _ => L.length - (intOf i).toNat)
  case atStart => exact ⟨0, by omega, rfl, fun j hj => by omega, Below.refl _ _⟩
  case round =>
    obtain ⟨k, hk, rfl, HK, HB⟩ := hrel
    by_cases hlt : k < L.length
    · have d1 := (HB.out.cell (p := ⟨g, k, none⟩) hg).trans (HC.out k hlt)
      have d2 := (HB.out.cell (p := ⟨g', k, none⟩) hg').trans (HC'.out k (by rw [← HL.out]; exact hlt))
      obtain ⟨x, hx⟩ : ∃ x, L.getD k false = x := ⟨_, rfl⟩
      obtain ⟨y, hy⟩ : ∃ x, M.getD k false = x := ⟨_, rfl⟩
      rw [hx] at d1
      rw [hy] at d2
      have hkI : (k : Int) < (L.length : Int) := by omega
      have HXY : Hid (L.getD k false = x ∧ M.getD k false = y) := ⟨hx, hy⟩
      clear hx hy
      have HB2 := Lib.hid (HB.out.drew)
      by_cases hxy : x = y
      · subst hxy
        have e1 : (x != x) = false := by simp
        cases x
        all_goals
          go_wp2_with fail
          go_quiet (fail)
          go_wp2_with fail
          go_roundw
          case rel =>
            refine ⟨k + 1, by omega, by go_num, fun j hj => ?_, below_drewQ HB.out _⟩
            by_cases hjk : j = k
            · rw [hjk, HXY.out.1, HXY.out.2]
            · exact HK.out j (by omega)
          case measure => simp [intOf]; omega
      · have HE : Hid (false = r) := by
          show _ = _
          rw [← HR.out]
          symm
          rw [decide_eq_false_iff_not]
          intro e
          apply hxy
          rw [← HXY.out.1, ← HXY.out.2, e]
        cases x <;> cases y
        · exact absurd rfl hxy
        · go_wp2_with fail
          go_quiet (fail)
          go_wp2_with fail
          go_ret
          exact ⟨ret_bool HE.out, below_drewQ HB.out _⟩
        · go_wp2_with fail
          go_quiet (fail)
          go_wp2_with fail
          go_ret
          exact ⟨ret_bool HE.out, below_drewQ HB.out _⟩
        · exact absurd rfl hxy
    · have HE : Hid (true = r) := by
        show _ = _
        rw [← HR.out]
        symm
        rw [decide_eq_true_iff]
        apply List.ext_getElem HL.out
        intro j h1 h2
        have := HK.out j (by omega)
        rw [List.getD_eq_getElem?_getD, List.getElem?_eq_getElem h1, List.getD_eq_getElem?_getD, List.getElem?_eq_getElem h2] at this
        exact this
      go_wp2_with fail
      go_ret
      exact ⟨ret_bool HE.out, HB.out⟩
end Go.Proofs.YtofmagiahmmmgaaGreatDoor

namespace Go.Proofs.YtofmagiahmmmgaaGreatDoor
open Go.RowKit
set_option linter.unusedVariables false
set_option maxRecDepth 100000
/-- A slice that reads as numbers. -/
def IntsAt (w : World) (v : Value) (L : List Int) : Prop :=
  (v = .slice none 0 0 ∧ L = []) ∨ ∃ g o cap, v = .slice (some ⟨g, o, none⟩) L.length cap ∧ L.length ≤ cap ∧ cap ≤ maxLen ∧ g < w.heap.size ∧ ∀ j, j < L.length → w.cell? ⟨g, o + j, none⟩ = some (.int .i64 (L.getD j 0))
theorem IntsAt.view {w : World} {v : Value} {L : List Int} (h : IntsAt w v L) : ∃ (a : Option Addr) (cap : Nat), v = .slice a L.length cap ∧ L.length ≤ cap ∧ cap ≤ maxLen ∧
    (0 < L.length → ∃ g o, a = some ⟨g, o, none⟩ ∧ g < w.heap.size ∧ ∀ j, j < L.length → w.cell? ⟨g, o + j, none⟩ = some (.int .i64 (L.getD j 0))) := by
  rcases h with ⟨rfl, rfl⟩ | ⟨g, o, cap, rfl, h1, h2, h3, h4⟩
  · exact ⟨none, 0, rfl, Nat.le_refl _, by decide, fun h => absurd h (by simp)⟩
  · exact ⟨_, cap, rfl, h1, h2, fun _ => ⟨g, o, rfl, h3, h4⟩⟩
theorem IntsAt.below {w w' : World} {v : Value} {L : List Int} (h : IntsAt w v L) (hb : Below w.heap.size w w') : IntsAt w' v L := by
  rcases h with h | ⟨g, o, cap, rfl, h1, h2, hg, hc⟩
  · exact .inl h
  · exact .inr ⟨g, o, cap, rfl, h1, h2, Nat.lt_of_lt_of_le hg hb.size, fun j hj => (hb.cell (p := ⟨g, o + j, none⟩) hg).trans (hc j hj)⟩
theorem NumsAt.ints {w : World} {v : Value} {L : List Nat} (h : NumsAt w v L) : IntsAt w v (List.map (fun x : Nat => (x : Int)) L) := by
  rcases h with ⟨rfl, rfl⟩ | ⟨g, o, cap, rfl, h1, h2, hg, hc⟩
  · exact .inl ⟨rfl, rfl⟩
  · refine .inr ⟨g, o, cap, by rw [List.length_map], by rw [List.length_map]; exact h1, h2, hg, fun j hj => ?_⟩
    rw [List.length_map] at hj
    rw [hc j hj]
    simp [hj]
theorem IntsAt.nums {w : World} {v : Value} {L : List Int} (h : IntsAt w v L) (h0 : ∀ x ∈ L, 0 ≤ x) : NumsAt w v (L.map Int.toNat) := by
  rcases h with ⟨rfl, rfl⟩ | ⟨g, o, cap, rfl, h1, h2, hg, hc⟩
  · exact .inl ⟨rfl, rfl⟩
  · refine .inr ⟨g, o, cap, by rw [List.length_map], by rw [List.length_map]; exact h1, h2, hg, fun j hj => ?_⟩
    rw [List.length_map] at hj
    rw [hc j hj]
    have h2 := h0 _ (List.getElem_mem hj)
    have e : L.getD j 0 = (((L.map Int.toNat).getD j 0 : Nat) : Int) := by
      simp [hj]; omega
    rw [e]
/-- The slice v of the world w is the call's own since block B, and holds the numbers L. -/
structure OwnI (B : Nat) (w : World) (v : Value) (L : List Int) : Prop where
  own : w.ownsRow B 3 1 v L.length (L.map (Value.int .i64))
  ne : v ≠ .slice none 0 0
  low : B ≤ w.heap.size
theorem OwnI.cells {B : Nat} {w : World} {v : Value} {L : List Int} (h : OwnI B w v L) :
    ∃ g cap, v = .slice (some ⟨g, 0, none⟩) L.length cap ∧ B ≤ g ∧ g < w.heap.size ∧ L.length ≤ cap ∧ cap ≤ maxLen ∧ ∀ j, j < L.length → w.cell? ⟨g, j, none⟩ = some (.int .i64 (L.getD j 0)) := by
  rcases h.own.2 with ⟨h1, h2⟩ | ⟨g, cap, cur, rfl, hb, hg, hnc, hcm, hcs, htake⟩
  · exact absurd h1 h.ne
  · refine ⟨g, cap, rfl, hb, (h.own.lt g rfl).2, hnc, hcm, fun j hj => ?_⟩
    rw [h.own.cellAt j (by omega)]
    simp [hj]
theorem OwnI.ints {B : Nat} {w : World} {v : Value} {L : List Int} (h : OwnI B w v L) : IntsAt w v L := by
  obtain ⟨g, cap, rfl, h1, h2, h3, h4, h5⟩ := h.cells
  exact .inr ⟨g, 0, cap, rfl, h3, h4, h2, fun j hj => by rw [Nat.zero_add]; exact h5 j hj⟩
theorem OwnI.lit0 (B : Nat) (w : World) (hB : B ≤ w.heap.size) : OwnI B (w.alloc (.cells #[] 3)) (.slice (some ⟨w.heap.size, 0, none⟩) 0 0) [] :=
  ⟨World.ownsRow_made w #[] 0 hB (by decide) rfl, by simp, by simp; omega⟩
theorem OwnI.kept {B : Nat} {w w' : World} {v : Value} {L : List Int} (h : OwnI B w v L) (hb : ∀ k, v.ownBlock = some k → k < w.heap.size → w'.heap[k]? = w.heap[k]?) (hs : w.heap.size ≤ w'.heap.size) : OwnI B w' v L := by
  refine ⟨⟨h.own.1, ?_⟩, h.ne, Nat.le_trans h.low hs⟩
  rcases h.own.2 with hn | ⟨g, cap, cur, rfl, hb', hgg, rest⟩
  · exact .inl hn
  · exact .inr ⟨g, cap, cur, rfl, hb', by rw [hb g rfl (Array.getElem?_eq_some_iff.1 hgg).1]; exact hgg, rest⟩
theorem OwnI.below {B : Nat} {w w' : World} {v : Value} {L : List Int} (h : OwnI B w v L) (hb : Below w.heap.size w w') : OwnI B w' v L := h.kept (fun k _ hk => hb.block k hk) hb.size
theorem OwnI.mono {B B' : Nat} {w : World} {v : Value} {L : List Int} (h : OwnI B w v L) (hB : B' ≤ B) : OwnI B' w v L := by
  refine ⟨⟨h.own.1, ?_⟩, h.ne, Nat.le_trans hB h.low⟩
  rcases h.own.2 with hn | ⟨g, cap, cur, rfl, hb', rest⟩
  · exact .inl hn
  · exact .inr ⟨g, cap, cur, rfl, Nat.le_trans hB hb', rest⟩
theorem OwnI.block {B : Nat} {w : World} {v : Value} {L : List Int} (h : OwnI B w v L) : ∃ k, v.ownBlock = some k ∧ B ≤ k ∧ k < w.heap.size := by
  obtain ⟨g, cap, rfl, h1, h2, _⟩ := h.cells
  exact ⟨g, rfl, h1, h2⟩
theorem OwnI.grown {B b : Nat} {w w' : World} {v : Value} {L : List Int} (h : OwnI B w v L) (hg : w.grownBy w' (some b)) (hb : b < B) : OwnI B w' v L :=
  h.kept (fun k hk hl => hg.block k hl (by
    obtain ⟨j, hj, h1, _⟩ := h.block
    rw [hk] at hj; injection hj with hj
    intro e; injection e with e; omega)) hg.size
/-- One number is appended to a slice of the call's own. -/
theorem wpList_ownI1 {ops : Array Oper} {rest : List Oper} {o : Oper} {a : Act} {Q : Exit → Act → World → Prop} {B : Nat} {w : World} {v : Value} {L : List Int}
    (hown : OwnI B w v L) (hL : L.length ≤ 2000000) (hgd : o.guard = none) (s x : Operand)
    (ho : o.op = .call { callee := .builtin .append, args := #[s, x], argTypes := #[33, 33] }) (y : Int) (b : Nat) (hb : w.heap.size = b)
    (hs : a.eval s = v) (hx : a.eval x = .slice (some ⟨b, 0, none⟩) 1 1)
    (h : ∀ v' w', OwnI B w' v' (L ++ [y]) → w.grownBy w' v.ownBlock → wpList Tryz.prog ops Q rest (a.put o.dst v') w') :
    wpList Tryz.prog ops Q (o :: rest) a (w.alloc (.cells #[.int .i64 y] 3)) := by
  subst hb
  obtain ⟨i, hi, hz, h1, h2⟩ := info_parts natInfo3
  have hbase : B ≤ w.heap.size := hown.low
  have hown' : (w.alloc (.cells #[.int .i64 y] 3)).ownsRow B 3 1 v L.length (L.map (Value.int .i64)) := (hown.below ((Below.refl _ _).alloc (Nat.le_refl _) _)).own
  refine wpList_append_own _ hgd s x 33 ho B 3 i (.int .i64 0) 1 8 Tryz.underlying33 hi hz h1 h2 rfl (by decide) v L.length _ hs hown' ⟨w.heap.size, 0, none⟩ 1 1 [.int .i64 y] hx rfl ?_ ?_ ?_ ?_ ?_ ?_
  · intro j u hj
    match j, hj with
    | 0, hj => simp at hj; subst hj; simp [Addr.add]
  · intro u hu
    simp at hu; subst hu; rfl
  · unfold maxLen; omega
  · omega
  · simp; omega
  · intro v' w' h2 h3 h4
    refine h v' w' ⟨?_, ?_, ?_⟩ ?_
    · simpa using h2
    · intro e
      exact hown.ne (h4.1 e).1
    · have := h3.size
      simp at this
      omega
    · refine ⟨h3.os, h3.tape, h3.output, ?_, fun k hk hne => ?_⟩
      · have := h3.size
        simp at this
        omega
      · rw [h3.block k (by simp; omega) hne]
        exact Below.heap_alloc _ _ _ hk
end Go.Proofs.YtofmagiahmmmgaaGreatDoor

/- Contracts of the program's functions and what they compute: part 9. Conditions: those that each theorem states. -/
import Derived.Test.YtofmagiahmmmgaaGreatDoorP53n7
import Derived.Deep.RegionLaw
import Derived.Maps.AppendAt
namespace Go.Proofs.YtofmagiahmmmgaaGreatDoor
open Go.RowKit
set_option linter.unusedVariables false
/-- What a function leaves that returns a new list. -/
def NewNums (w : World) (L : List Nat) (e : Ending) (w' : World) : Prop := ∃ v, e = .returned v ∧ Own w.heap.size w' v L ∧ Below w.heap.size w w'
theorem with_any (va : Value) (la : List Nat) (x : Nat) (w : World) (hva : NumsAt w va la) (hl : la.length ≤ 1000) :
    Calls Tryz.prog 50 #[va, .int .i64 (x : Int)] w (NewNums w (la ++ [x])) := by
  have HO := Lib.hid (Own.lit0 w.heap.size w (Nat.le_refl _))
  have HV := Lib.hid (hva.below ((Below.refl _ _).alloc (Nat.le_refl _) (.cells #[] 3)))
  have HB := Lib.hid ((Below.refl w.heap.size w).alloc (Nat.le_refl _) (.cells #[] 3))
  have HL := Lib.hid (show ([] : List Nat).length + la.length ≤ 2000000 by simp; omega)
  have HL1 := Lib.hid (show ([] ++ la).length ≤ 2000000 by simp; omega)
  clear hva hl
  go_enter Tryz.func50, Tryz.ntmps50
  go_wp2_with (first | (at_builtin; refine wpList_ownAll HO.out HV.out HL.out rfl (.tmp 5) (.tmp 6) rfl rfl rfl ?_; intro v1 w1 ho hg; have HO1 := Lib.hid ho; have HB1 := Lib.hid (HB.out.grown hg (by simp) (fun k hk => (HO.out.own.lt k hk).1)); clear ho hg) | (at_builtin; refine wpList_own1 HO1.out HL1.out rfl (.tmp 7) (.tmp 9) rfl _ _ rfl rfl rfl ?_; intro v2 w2 ho hg; have HO2 := Lib.hid ho; have HB2 := Lib.hid (HB1.out.grown hg HB1.out.size (fun k hk => (HO1.out.own.lt k hk).1)); clear ho hg) | fail)
  go_ret
  exact ⟨_, rfl, by simpa using HO2.out, HB2.out⟩
theorem l4With_any (va : Value) (la : List Nat) (x : Nat) (w : World) (hva : NumsAt w va la) (hl : la.length ≤ 1000) :
    Calls Tryz.prog 147 #[va, .int .i64 (x : Int)] w (NewNums w (la ++ [x])) := by
  have HO := Lib.hid (Own.lit0 w.heap.size w (Nat.le_refl _))
  have HV := Lib.hid (hva.below ((Below.refl _ _).alloc (Nat.le_refl _) (.cells #[] 3)))
  have HB := Lib.hid ((Below.refl w.heap.size w).alloc (Nat.le_refl _) (.cells #[] 3))
  have HL := Lib.hid (show ([] : List Nat).length + la.length ≤ 2000000 by simp; omega)
  have HL1 := Lib.hid (show ([] ++ la).length ≤ 2000000 by simp; omega)
  clear hva hl
  go_enter Tryz.func147, Tryz.ntmps147
  go_wp2_with (first | (at_builtin; refine wpList_ownAll HO.out HV.out HL.out rfl (.tmp 5) (.tmp 6) rfl rfl rfl ?_; intro v1 w1 ho hg; have HO1 := Lib.hid ho; have HB1 := Lib.hid (HB.out.grown hg (by simp) (fun k hk => (HO.out.own.lt k hk).1)); clear ho hg) | (at_builtin; refine wpList_own1 HO1.out HL1.out rfl (.tmp 7) (.tmp 9) rfl _ _ rfl rfl rfl ?_; intro v2 w2 ho hg; have HO2 := Lib.hid ho; have HB2 := Lib.hid (HB1.out.grown hg HB1.out.size (fun k hk => (HO1.out.own.lt k hk).1)); clear ho hg) | fail)
  go_ret
  exact ⟨_, rfl, by simpa using HO2.out, HB2.out⟩
theorem same_no {a b : Gs.St} {la lb : List Nat} {k : Nat} (hk : k < la.length) (h : Gs.still a (la.take k) b (lb.take k) (la.getD k 0) (lb.getD k 0) = false) : Gs.same a la b lb = false := by
  rw [← Bool.not_eq_true]
  intro hh
  have := List.all_eq_true.1 hh k (List.mem_range.2 hk)
  rw [h] at this; cases this
theorem same_yes {a b : Gs.St} {la lb : List Nat} (h : ∀ k, k < la.length → Gs.still a (la.take k) b (lb.take k) (la.getD k 0) (lb.getD k 0) = true) : Gs.same a la b lb = true :=
  List.all_eq_true.2 fun k hk => h k (List.mem_range.1 hk)
set_option maxRecDepth 100000 in
set_option maxHeartbeats 1000000 in
theorem sameWay_any (n : Nat) (S R : ByteArray) (m : Nat) (S2 R2 : ByteArray) (va vb : Value) (la lb : List Nat) (w : World)
    (hS : S.size = n) (hR : R.size = n * n) (hn : n ≤ 8) (hS2 : S2.size = m) (hR2 : R2.size = m * m) (hm : m ≤ 8)
    (hva : NumsAt w va la) (hvb : NumsAt w vb lb) (hl : la.length = lb.length) (hl8 : la.length ≤ 8) (ha : ∀ z ∈ la, z < n) (hb : ∀ z ∈ lb, z < m) :
    Calls Tryz.prog 46 #[strV n S R, va, strV m S2 R2, vb] w fun e w' => e = .returned (.bool (Gs.same (stOf n S R) la (stOf m S2 R2) lb)) ∧ Below w.heap.size w w' := by
  have HNA := Lib.hid hva; have HNB := Lib.hid hvb
  obtain ⟨aa, ca, rfl, ca1, ca2, hca⟩ := hva.view
  obtain ⟨ab, cb, rfl, cb1, cb2, hcb⟩ := hvb.view
  unfold maxLen at ca2 cb2
  have HCA := Lib.hid hca; have HCB := Lib.hid hcb; clear hca hcb hva hvb
  have HL := Lib.hid hl
  have HA := Lib.hid ha; have HB := Lib.hid hb
  have HS := Lib.hid (fun va vb la lb x y w h1 h2 h3 h4 h5 h6 h7 h8 => stillSame_any n S R m S2 R2 va vb la lb x y w hS hR hn hS2 hR2 hm h1 h2 h3 h4 h5 h6 h7 h8)
  have HT := Lib.hid (Two.new w n S R m S2 R2)
  unfold boxS at HT
  rw [← hl] at cb1 HCB ⊢
  obtain ⟨RES, hres⟩ : ∃ p, Gs.same (stOf n S R) la (stOf m S2 R2) lb = p := ⟨_, rfl⟩
  rw [hres]
  have HRES := Lib.hid hres
  clear hres ha hb hl hS hS2 hR hR2
  unfold strV
  go_enter Tryz.func46, Tryz.ntmps46
  go_wp2_with fail
  go_loopw [12] (fun i wr => ∃ k : Nat, k ≤ la.length ∧ i = .int .i64 k ∧ Hid (Two w wr n S R m S2 R2) ∧ Hid (∀ j, j < k → Gs.still (stOf n S R) (la.take j) (stOf m S2 R2) (lb.take j) (la.getD j 0) (lb.getD j 0) = true)) (fun i _ => la.length - (intOf i).toNat)
  case atStart => exact ⟨0, by omega, rfl, HT.out, fun j hj => by omega⟩
  case round =>
    obtain ⟨k, hk, rfl, HT2, HK⟩ := hrel
    by_cases hlt : k < la.length
    · have NA := Lib.hid ((HNA.out.below HT2.out.old).take k (by omega) (by omega))
      have NB := Lib.hid ((HNB.out.below HT2.out.old).take k (by rw [← HL.out]; omega) (by rw [← HL.out]; omega))
      obtain ⟨ga, oa, rfl, hga, hcka⟩ := HCA.out (by omega)
      obtain ⟨gb, ob, rfl, hgb, hckb⟩ := HCB.out (by omega)
      have hkb : k < lb.length := by rw [← HL.out]; exact hlt
      have d1 := (HT2.out.old.cell (p := ⟨ga, oa + k, none⟩) hga).trans (hcka k hlt)
      have d2 := (HT2.out.old.cell (p := ⟨gb, ob + k, none⟩) hgb).trans (hckb k (by first | exact hlt | exact hkb))
      have hv : la.getD k 0 < n := HA.out _ (by simp [hlt])
      have hu : lb.getD k 0 < m := HB.out _ (by simp [hkb])
      have j1 := fun (s : Since wr) => HS.out _ _ _ _ (la.getD k 0) (lb.getD k 0) s.w (NA.out.below s.below) (NB.out.below s.below) (by rw [List.length_take, List.length_take, ← HL.out]) (by rw [List.length_take]; omega) (fun z hz => HA.out z (List.mem_of_mem_take hz)) (fun z hz => HB.out z (List.mem_of_mem_take hz)) hv hu
      have HNO := Lib.hid (fun h => same_no (a := stOf n S R) (b := stOf m S2 R2) (lb := lb) hlt h)
      obtain ⟨c, hc⟩ : ∃ c, Gs.still (stOf n S R) (la.take k) (stOf m S2 R2) (lb.take k) (la.getD k 0) (lb.getD k 0) = c := ⟨_, rfl⟩
      rw [hc] at j1 HNO
      have HC := Lib.hid hc
      clear hc hcka hckb hkb
      obtain ⟨v, hx⟩ : ∃ v, la.getD k 0 = v := ⟨_, rfl⟩
      obtain ⟨u, hy⟩ : ∃ v, lb.getD k 0 = v := ⟨_, rfl⟩
      rw [hx] at j1 d1 hv HC
      rw [hy] at j1 d2 hu HC
      have HX := Lib.hid hx; have HY := Lib.hid hy
      clear hx hy
      unfold strV at j1
      have J1 := Lib.hid j1
      clear j1
      cases c
      · go_wp2_with fail
        have f0 := fun s => Since.cell HT2.out.a.cells.1 s
        have f1 := fun s => Since.cell HT2.out.a.cells.2.1 s
        have f2 := fun s => Since.cell HT2.out.a.cells.2.2.1 s
        have g0 := fun s => Since.cell HT2.out.b.cells.1 s
        have g1 := fun s => Since.cell HT2.out.b.cells.2.1 s
        have g2 := fun s => Since.cell HT2.out.b.cells.2.2.1 s
        have f3 := fun s => Since.cell d1 s
        have g3 := fun s => Since.cell d2 s
        refine wp_region_since (by kernel_rfl) (by kernel_rfl) ?_
        repeat (go_big_quiet_step ((with_reducible exact Since.call (J1.out _))))
        refine wpQuiet_nil ?_
        intro w1 hb1
        have HT3 := Lib.hid (HT2.out.below hb1)
        clear f0 f1 f2 g0 g1 g2 f3 g3 hb1
        go_wp2_with fail
        go_ret
        exact ⟨ret_bool (by rw [← HRES.out]; exact (HNO.out (by simp)).symm), HT3.out.old⟩
      · go_wp2_with fail
        have f0 := fun s => Since.cell HT2.out.a.cells.1 s
        have f1 := fun s => Since.cell HT2.out.a.cells.2.1 s
        have f2 := fun s => Since.cell HT2.out.a.cells.2.2.1 s
        have g0 := fun s => Since.cell HT2.out.b.cells.1 s
        have g1 := fun s => Since.cell HT2.out.b.cells.2.1 s
        have g2 := fun s => Since.cell HT2.out.b.cells.2.2.1 s
        have f3 := fun s => Since.cell d1 s
        have g3 := fun s => Since.cell d2 s
        refine wp_region_since (by kernel_rfl) (by kernel_rfl) ?_
        repeat (go_big_quiet_step ((with_reducible exact Since.call (J1.out _))))
        refine wpQuiet_nil ?_
        intro w1 hb1
        have HT3 := Lib.hid (HT2.out.below hb1)
        clear f0 f1 f2 g0 g1 g2 f3 g3 hb1
        go_wp2_with fail
        go_roundw
        case rel =>
          refine ⟨k + 1, by omega, by go_num, HT3.out, fun j hj => ?_⟩
          by_cases hjk : j = k
          · rw [hjk, HX.out, HY.out]; exact HC.out
          · exact HK.out j (by omega)
        case measure => simp [intOf]; omega
    · have HE : Hid (Gs.same (stOf n S R) la (stOf m S2 R2) lb = true) := same_yes fun j hj => HK.out j (by omega)
      clear HK
      go_wp2_with fail
      go_ret
      exact ⟨ret_bool (by rw [← HRES.out]; exact HE.out.symm), HT2.out.old⟩
end Go.Proofs.YtofmagiahmmmgaaGreatDoor
namespace Go.Proofs.YtofmagiahmmmgaaGreatDoor
open Go.RowKit
set_option linter.unusedVariables false
/-- The numbers of a slice are appended to a slice of the call's own: as one step of a region whose order is open. -/
theorem step_ownAll {ops : Array Oper} {o : Oper} {a : Act} {K : Act → World → Prop} {Q : Exit → Act → World → Prop} {E : Prop} {B : Nat} {w : World} {v u : Value} {L M : List Nat}
    (hown : Own B w v L) (hM : NumsAt w u M) (hL : Hid (L.length + M.length ≤ 2000000)) (hgd : o.guard = none) (s x : Operand)
    (ho : o.op = .call { callee := .builtin .append, args := #[s, x], argTypes := #[33, 33] })
    (hs : a.eval s = v) (hx : a.eval x = u)
    (h : ∀ v' w', Own B w' v' (L ++ M) → w.grownBy w' v.ownBlock → K (a.put o.dst v') w') :
    if Region.wanted o (yielded ops a.tmps) = true then Oper.wp Tryz.prog o a w K Q else E := by
  have hw : Region.wanted o (yielded ops a.tmps) = true := by simp [Region.wanted, hgd]
  rw [if_pos hw]
  have hL := hL.out
  obtain ⟨i, hi, hz, h1, h2⟩ := info_parts natInfo3
  rcases hM with ⟨rfl, rfl⟩ | ⟨g, off, cap, rfl, m1, m2, mg, mc⟩
  · have hrun := run_append_owned_none (P := Tryz.prog) w B 33 o.type 3 i 1 Tryz.underlying33 hi v L.length _ hown.own
    unfold Oper.wp
    simp [execOp, ho, resolve, invoke, builtin, hs, hx, hrun, Result.andThen]
    exact h v w (by simpa using hown) (World.grownBy.refl _ _)
  · refine wp_append_own _ s x 33 ho B 3 i (.int .i64 0) 1 8 Tryz.underlying33 hi hz h1 h2 rfl (by decide) v L.length _ hs hown.own ⟨g, off, none⟩ M.length cap (M.map fun n : Nat => Value.int .i64 (n : Int)) hx (by simp) ?_ ?_ ?_ ?_ hown.low ?_
    · intro j u hj
      have hj' : j < M.length := by
        have := (List.getElem?_eq_some_iff.1 hj).1
        simpa using this
      have e : (⟨g, off, none⟩ : Addr).add j = ⟨g, off + j, none⟩ := by unfold Addr.add; split <;> simp_all
      rw [e, mc j hj']
      simpa [hj'] using hj
    · intro u hu
      obtain ⟨n, _, rfl⟩ := List.mem_map.1 hu
      rfl
    · unfold maxLen; omega
    · omega
    · intro v' w' h2 h3 h4
      refine h v' w' ⟨?_, ?_, ?_⟩ h3
      · simpa using h2
      · intro e
        exact hown.ne (h4.1 e).1
      · have := h3.size
        have := hown.low
        omega
theorem ins_eq {L : List Nat} {n k : Nat} (hk : k < L.length) (h : ∀ j, j < k → L.getD j 0 < n) (he : L.getD k 0 = n) : Gs.ins L n = L := by
  rw [Gs.ins_at L n k (by omega) (fun j hj hjk => by have := h j hjk; simpa [hj] using this), List.drop_eq_getElem_cons hk, Gs.ins, if_pos (by simpa [hk] using he), ← List.drop_eq_getElem_cons hk, List.take_append_drop]
theorem ins_mid {L : List Nat} {n k : Nat} (hk : k < L.length) (h : ∀ j, j < k → L.getD j 0 < n) (he : n < L.getD k 0) : Gs.ins L n = L.take k ++ [n] ++ L.drop k := by
  have he' : n < L[k] := by simpa [hk] using he
  rw [Gs.ins_at L n k (by omega) (fun j hj hjk => by have := h j hjk; simpa [hj] using this), List.drop_eq_getElem_cons hk, Gs.ins, if_neg (by omega), if_pos he']
  simp
theorem ins_end {L : List Nat} {n : Nat} (h : ∀ j, j < L.length → L.getD j 0 < n) : Gs.ins L n = L ++ [n] := by
  rw [Gs.ins_at L n L.length (Nat.le_refl _) (fun j hj _ => by have := h j hj; simpa [hj] using this)]
  simp [Gs.ins]
theorem NumsAt.one (w : World) (y : Nat) : NumsAt (w.alloc (.cells #[.int .i64 (y : Int)] 3)) (.slice (some ⟨w.heap.size, 0, none⟩) 1 1) [y] := by
  refine .inr ⟨w.heap.size, 0, 1, rfl, Nat.le_refl _, by decide, by simp, fun j hj => ?_⟩
  have hj0 : j = 0 := by simpa using hj
  subst hj0
  simp
/-- The numbers from i on. -/
theorem NumsAt.drop {w : World} {g o cap i : Nat} {L : List Nat} (h : NumsAt w (.slice (some ⟨g, o, none⟩) L.length cap) L) (hi : i < L.length) (o' : Nat) (ho' : o' = o + i) : NumsAt w (.slice (some ⟨g, o', none⟩) (L.length - i) (cap - i)) (L.drop i) := by
  subst ho'
  rcases h with ⟨_, rfl⟩ | ⟨g', o', cap', he, h1, h2, hg, hc⟩
  · simp at hi
  · injection he with e1 e2 e3
    injection e1 with e1
    injection e1 with e4 e5
    subst e4 e5 e3
    refine .inr ⟨g, o + i, cap - i, by simp, by simp; omega, by unfold maxLen at *; omega, hg, fun j hj => ?_⟩
    rw [List.length_drop] at hj
    rw [Nat.add_assoc, hc (i + j) (by omega)]
    simp
theorem Own.lit (B : Nat) (w : World) (b : Nat) (hb : w.heap.size = b) (hB : B ≤ w.heap.size) : Own B (w.alloc (.cells #[] 3)) (.slice (some ⟨b, 0, none⟩) 0 0) [] := by
  subst hb
  exact Own.lit0 B w hB
theorem Own.mono {B B' : Nat} {w : World} {v : Value} {L : List Nat} (h : Own B' w v L) (hB : B ≤ B') : Own B w v L := by
  refine ⟨⟨h.own.1, ?_⟩, h.ne, Nat.le_trans hB h.low⟩
  rcases h.own.2 with hn | ⟨g, cap, cur, rfl, hb', rest⟩
  · exact .inl hn
  · exact .inr ⟨g, cap, cur, rfl, Nat.le_trans hB hb', rest⟩
theorem NumsAt.one' (w : World) (y b : Nat) (hb : w.heap.size = b) : NumsAt (w.alloc (.cells #[.int .i64 (y : Int)] 3)) (.slice (some ⟨b, 0, none⟩) 1 1) [y] := by
  subst hb
  exact NumsAt.one w y
theorem below1 (w : World) (o : Obj) : Below w.heap.size w (w.drew.alloc o) := (Below.refl _ _).drew.alloc (Nat.le_refl _) _
theorem below2 (w : World) (o o' : Obj) : Below w.heap.size w ((w.drew.alloc o).alloc o') := (below1 w o).alloc (by simp) _
theorem grown_up {B0 : Nat} {w w1 w' : World} {b n c : Nat} (h : Below B0 w w1) (hg : w1.grownBy w' (Value.slice (some ⟨b, 0, none⟩) n c).ownBlock) (hb : B0 ≤ b) (hB : B0 ≤ w.heap.size) : Below B0 w w' :=
  h.grown hg (Nat.le_trans hB h.size) (fun k hk => by have e : b = k := Option.some.inj hk; omega)
theorem below_grown {w w' : World} {row : Option Nat} (h : Below w.heap.size w w') : w.grownBy w' row := ⟨h.os, h.tape, h.output, h.size, fun k hk _ => h.block k hk⟩
/-- One number is appended to a slice of the call's own. -/
theorem wpList_own1at {ops : Array Oper} {rest : List Oper} {o : Oper} {a : Act} {Q : Exit → Act → World → Prop} {B : Nat} {w : World} {v : Value} {L : List Nat}
    (hown : Own B w v L) (hL : L.length ≤ 2000000) (hgd : o.guard = none) (s x : Operand)
    (ho : o.op = .call { callee := .builtin .append, args := #[s, x], argTypes := #[33, 33] }) (y : Nat) (b : Nat) (hb : w.heap.size = b)
    (hs : a.eval s = v) (hx : a.eval x = .slice (some ⟨b, 0, none⟩) 1 1)
    (h : ∀ v' w', Own B w' v' (L ++ [y]) → w.grownBy w' v.ownBlock → (v'.ownBlock = v.ownBlock ∨ ∃ k, v'.ownBlock = some k ∧ w.heap.size ≤ k) → wpList Tryz.prog ops Q rest (a.put o.dst v') w') :
    wpList Tryz.prog ops Q (o :: rest) a (w.alloc (.cells #[.int .i64 (y : Int)] 3)) := by
  subst hb
  obtain ⟨i, hi, hz, h1, h2⟩ := info_parts natInfo3
  have hbase : B ≤ w.heap.size := hown.low
  refine wpList_append_own_at _ hgd s x 33 ho B 3 i (.int .i64 0) 1 8 Tryz.underlying33 hi hz h1 h2 rfl (by decide) v L.length _ hs (hown.own.alloc _) ⟨w.heap.size, 0, none⟩ 1 1 [.int .i64 (y : Int)] hx rfl ?_ ?_ ?_ ?_ ?_ ?_
  · intro j u hj
    match j, hj with
    | 0, hj => simp at hj; subst hj; simp [Addr.add]
  · intro u hu
    simp at hu; subst hu; rfl
  · unfold maxLen; omega
  · omega
  · simp; omega
  · intro v' w' h2 h3 h4 h5
    refine h v' w' ⟨?_, ?_, ?_⟩ ?_ (h5.imp_right fun e => ⟨_, e, by simp⟩)
    · simpa using h2
    · intro e
      exact hown.ne (h4.1 e).1
    · have := h3.size
      simp at this
      omega
    · refine ⟨h3.os, h3.tape, h3.output, ?_, fun k hk hne => ?_⟩
      · have := h3.size
        simp at this
        omega
      · rw [h3.block k (by simp; omega) hne]
        exact Below.heap_alloc _ _ _ hk
theorem Own.block {B : Nat} {w : World} {v : Value} {L : List Nat} (h : Own B w v L) : ∃ k, v.ownBlock = some k ∧ B ≤ k ∧ k < w.heap.size := by
  obtain ⟨g, cap, rfl, h1, h2, _⟩ := h.cells
  exact ⟨g, rfl, h1, h2⟩
/-- What l5Insert leaves. -/
def Inserted (B : Nat) (w : World) (v : Value) (L : List Nat) (n : Nat) (e : Ending) (w' : World) : Prop := ∃ v', e = .returned v' ∧ Own B w' v' (Gs.ins L n) ∧ w.grownBy w' v.ownBlock ∧ (v'.ownBlock = v.ownBlock ∨ ∃ k, v'.ownBlock = some k ∧ w.heap.size ≤ k)
set_option maxRecDepth 100000 in
theorem l5Insert_any (B : Nat) (v : Value) (L : List Nat) (n : Nat) (w : World) (hv : Own B w v L) (hl : L.length ≤ 100) :
    Calls Tryz.prog 146 #[v, .int .i64 (n : Int)] w (Inserted B w v L n) := by
  have HV := Lib.hid hv
  obtain ⟨g, cap, rfl, hBg, hg, hc1, hc2, hc⟩ := hv.cells
  unfold maxLen at hc2
  have HC := Lib.hid hc
  clear hv hc
  go_enter Tryz.func146, Tryz.ntmps146
  go_wp2_with fail
  go_loop [5] (fun i => ∃ k : Nat, k ≤ L.length ∧ i = .int .i64 k ∧ Hid (∀ j, j < k → L.getD j 0 < n)) (fun i => L.length - (intOf i).toNat)
  case atStart => exact ⟨0, by omega, rfl, fun j hj => by omega⟩
  case round =>
    obtain ⟨k, hk, rfl, HK⟩ := hrel
    by_cases hlt : k < L.length
    · have d1 := HC.out k hlt
      obtain ⟨x, hx⟩ : ∃ x, L.getD k 0 = x := ⟨_, rfl⟩
      rw [hx] at d1
      by_cases h1 : x = n
      · have HE : Hid (Gs.ins L n = L) := ins_eq hlt HK.out (hx.trans h1)
        have e1 : ((x : Int) == (n : Int)) = true := by rw [h1]; simp
        clear hx h1
        go_wp2_with fail
        go_ret
        refine ⟨_, rfl, ?_, World.grownBy.refl _ _, .inl rfl⟩
        rw [HE.out]; exact HV.out
      · have e1 : ((x : Int) == (n : Int)) = false := by simp; omega
        by_cases h2 : n < x
        · have HE : Hid (Gs.ins L n = L.take k ++ [n] ++ L.drop k) := ins_mid hlt HK.out (by rw [hx]; exact h2)
          have h2i : (n : Int) < (x : Int) := by omega
          have s1 : (0 : Int) ≤ (k : Int) := by omega
          have s2 : (k : Int) ≤ (cap : Int) := by omega
          have s3 : (k : Int) ≤ (L.length : Int) := by omega
          have s4 : k ≤ cap := by omega
          have s5 : ¬ cap = k := by omega
          have s6 : ¬ (cap : Int) = (k : Int) := by omega
          have HNT := Lib.hid (HV.out.nums.take k (by omega) (by omega))
          have HND := Lib.hid (NumsAt.drop HV.out.nums hlt k (Nat.zero_add k).symm)
          have HL1 : Hid (Hid (([] ++ L.take k).length + [n].length ≤ 2000000)) := by show _ ≤ _; simp; omega
          have HL2 : Hid (Hid (([] ++ L.take k ++ [n]).length + (L.drop k).length ≤ 2000000)) := by show _ ≤ _; simp; omega
          have HL0 : Hid (Hid (([] : List Nat).length + (L.take k).length ≤ 2000000)) := by show _ ≤ _; simp; omega
          clear hx h1
          go_wp2_with fail
          go_region_law ((first | (refine step_ownAll (w := w.drew.alloc (.cells #[] 3)) (Own.lit w.heap.size _ _ (by simp) (by simp)) (HNT.out.below (below1 w _)) HL0.out rfl (.tmp 25) (.tmp 28) rfl rfl rfl ?_; intro v1 w1 ho hg; have HO1 := Lib.hid ho; have HB1 := Lib.hid (grown_up (below1 w _) hg (by simp) (Nat.le_refl _)); clear ho hg) | (refine step_ownAll (w := (w.drew.alloc (.cells #[] 3)).alloc (.cells #[.int .i64 (n : Int)] 3)) ((Own.lit w.heap.size _ _ (by simp) (by simp)).alloc _) (HNT.out.below (below2 w _ _)) HL0.out rfl (.tmp 25) (.tmp 28) rfl rfl rfl ?_; intro v1 w1 ho hg; have HO1 := Lib.hid ho; have HB1 := Lib.hid (grown_up (below2 w _ _) hg (by simp) (Nat.le_refl _)); have HN1 : Hid (NumsAt w1 (.slice (some ⟨w.heap.size + 1, 0, none⟩) 1 1) [n]) := ((NumsAt.one' _ n (w.heap.size + 1) (by simp)).kept (fun k hk hl => hg.block k hl (by have e : _ = k := Option.some.inj hk; subst e; simp [Value.ownBlock])) hg.size); clear ho hg) | (refine step_ownAll (w := (w.drew.alloc (.cells #[.int .i64 (n : Int)] 3)).alloc (.cells #[] 3)) (Own.lit w.heap.size _ _ (by simp) (by simp)) (HNT.out.below (below2 w _ _)) HL0.out rfl (.tmp 25) (.tmp 28) rfl rfl rfl ?_; intro v1 w1 ho hg; have HO1 := Lib.hid ho; have HB1 := Lib.hid (grown_up (below2 w _ _) hg (by simp) (Nat.le_refl _)); have HN1 : Hid (NumsAt w1 (.slice (some ⟨w.heap.size, 0, none⟩) 1 1) [n]) := (((NumsAt.one' w.drew n w.heap.size (by simp)).below ((Below.refl _ _).alloc (Nat.le_refl _) _)).kept (fun k hk hl => hg.block k hl (by have e : _ = k := Option.some.inj hk; subst e; simp [Value.ownBlock])) hg.size); clear ho hg) | (refine step_ownAll (w := w1.alloc (.cells #[.int .i64 (n : Int)] 3)) (HO1.out.alloc _) (NumsAt.one w1 n) HL1.out rfl (.tmp 29) (.tmp 31) rfl rfl rfl ?_; intro v2 w2 ho hg; have HO2 := Lib.hid ho; have HB2 := Lib.hid ((HB1.out.alloc HB1.out.size _).grown hg (by have := HB1.out.size; simp; omega) (fun k hk => (HO1.out.own.lt k hk).1)); clear ho hg) | (refine step_ownAll (w := w1) HO1.out HN1.out HL1.out rfl (.tmp 29) (.tmp 31) rfl rfl rfl ?_; intro v2 w2 ho hg; have HO2 := Lib.hid ho; have HB2 := Lib.hid (HB1.out.grown hg HB1.out.size (fun k hk => (HO1.out.own.lt k hk).1)); clear ho hg) | (refine step_ownAll (w := w2) HO2.out (HND.out.below HB2.out) HL2.out rfl (.tmp 32) (.tmp 35) rfl rfl rfl ?_; intro v3 w3 ho hg; have HO3 := Lib.hid ho; have HB3 := Lib.hid (HB2.out.grown hg HB2.out.size (fun k hk => (HO2.out.own.lt k hk).1)); clear ho hg)))
          all_goals
            go_wp2_with fail
            go_ret
            refine ⟨_, rfl, ?_, below_grown HB3.out, .inr (by obtain ⟨k, h1, h2, _⟩ := HO3.out.block; exact ⟨k, h1, h2⟩)⟩
            rw [HE.out]
            exact (HO3.out.mono HV.out.low)
        · have h2i : ¬ (n : Int) < (x : Int) := by omega
          have HX := Lib.hid (show x < n by omega)
          have HXE := Lib.hid hx
          clear hx h1
          go_wp2_with fail
          go_round
          case rel =>
            refine ⟨k + 1, by omega, by go_num, fun j hj => ?_⟩
            by_cases hjk : j = k
            · rw [hjk, HXE.out]; exact HX.out
            · exact HK.out j (by omega)
          case measure => simp [intOf]; omega
    · have HE : Hid (Gs.ins L n = L ++ [n]) := ins_end fun j hj => HK.out j (by omega)
      have HL : Hid (L.length ≤ 2000000) := by show _ ≤ _; omega
      clear HK
      go_wp2_with (first | (at_builtin; refine wpList_own1at HV.out HL.out rfl (.tmp 37) (.tmp 39) rfl _ _ rfl rfl rfl ?_; intro v2 w2 ho hg hat; have HAT := Lib.hid hat; clear hat; have HO2 := Lib.hid ho; have HG2 := Lib.hid hg; clear ho hg) | fail)
      go_ret
      refine ⟨_, rfl, ?_, HG2.out, HAT.out⟩
      rw [HE.out]; exact HO2.out
end Go.Proofs.YtofmagiahmmmgaaGreatDoor

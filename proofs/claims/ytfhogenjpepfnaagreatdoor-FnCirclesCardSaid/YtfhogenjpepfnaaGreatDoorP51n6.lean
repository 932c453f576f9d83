/- Contracts of the program's functions and what they compute: part 6. Conditions: those that each theorem states. -/
import Derived.Test.YtfhogenjpepfnaaGreatDoorP51n5
import Derived.Deep.RegionLaw
import Derived.Maps.AppendAt
namespace Go.Proofs.YtfhogenjpepfnaaGreatDoor
open Go.RowKit
set_option linter.unusedVariables false
/-- What a function leaves that returns a new list. -/
def NewNums (w : World) (L : List Nat) (e : Ending) (w' : World) : Prop := ∃ v, e = .returned v ∧ Own w.heap.size w' v L ∧ Below w.heap.size w w'
theorem with_any (va : Value) (la : List Nat) (x : Nat) (w : World) (hva : NumsAt w va la) (hl : la.length ≤ 1000) :
    Calls Tryz.prog 111 #[va, .int .i64 (x : Int)] w (NewNums w (la ++ [x])) := by
  have HO := Lib.hid (Own.lit0 w.heap.size w (Nat.le_refl _))
  have HV := Lib.hid (hva.below ((Below.refl _ _).alloc (Nat.le_refl _) (.cells #[] 3)))
  have HB := Lib.hid ((Below.refl w.heap.size w).alloc (Nat.le_refl _) (.cells #[] 3))
  have HL := Lib.hid (show ([] : List Nat).length + la.length ≤ 2000000 by simp; omega)
  have HL1 := Lib.hid (show ([] ++ la).length ≤ 2000000 by simp; omega)
  clear hva hl
  go_enter Tryz.func111, Tryz.ntmps111
  go_wp2_with (first | (at_builtin; refine wpList_ownAll HO.out HV.out HL.out rfl (.tmp 5) (.tmp 6) rfl rfl rfl ?_; intro v1 w1 ho hg; have HO1 := Lib.hid ho; have HB1 := Lib.hid (HB.out.grown hg (by simp) (fun k hk => (HO.out.own.lt k hk).1)); clear ho hg) | (at_builtin; refine wpList_own1 HO1.out HL1.out rfl (.tmp 7) (.tmp 9) rfl _ _ rfl rfl rfl ?_; intro v2 w2 ho hg; have HO2 := Lib.hid ho; have HB2 := Lib.hid (HB1.out.grown hg HB1.out.size (fun k hk => (HO1.out.own.lt k hk).1)); clear ho hg) | fail)
  go_ret
  exact ⟨_, rfl, by simpa using HO2.out, HB2.out⟩
theorem same_no {a b : Gs.St} {la lb : List Nat} {k : Nat} (hk : k < la.length) (h : Gs.still a (la.take k) b (lb.take k) (la.getD k 0) (lb.getD k 0) = false) : Gs.same a la b lb = false := by
  rw [← Bool.not_eq_true]
  intro hh
  have := List.all_eq_true.1 hh k (List.mem_range.2 hk)
  rw [h] at this; cases this
theorem same_yes {a b : Gs.St} {la lb : List Nat} (h : ∀ k, k < la.length → Gs.still a (la.take k) b (lb.take k) (la.getD k 0) (lb.getD k 0) = true) : Gs.same a la b lb = true :=
  List.all_eq_true.2 fun k hk => h k (List.mem_range.1 hk)
set_option maxRecDepth 100000 in
set_option maxHeartbeats 1000000 in
theorem sameWay_any (n : Nat) (S R : ByteArray) (m : Nat) (S2 R2 : ByteArray) (va vb : Value) (la lb : List Nat) (w : World)
    (hS : S.size = n) (hR : R.size = n * n) (hn : n ≤ 8) (hS2 : S2.size = m) (hR2 : R2.size = m * m) (hm : m ≤ 8)
    (hva : NumsAt w va la) (hvb : NumsAt w vb lb) (hl : la.length = lb.length) (hl8 : la.length ≤ 8) (ha : ∀ z ∈ la, z < n) (hb : ∀ z ∈ lb, z < m) :
    Calls Tryz.prog 68 #[strV n S R, va, strV m S2 R2, vb] w fun e w' => e = .returned (.bool (Gs.same (stOf n S R) la (stOf m S2 R2) lb)) ∧ Below w.heap.size w w' := by
  have HNA := Lib.hid hva; have HNB := Lib.hid hvb
  obtain ⟨aa, ca, rfl, ca1, ca2, hca⟩ := hva.view
  obtain ⟨ab, cb, rfl, cb1, cb2, hcb⟩ := hvb.view
  unfold maxLen at ca2 cb2
  have HCA := Lib.hid hca; have HCB := Lib.hid hcb; clear hca hcb hva hvb
  have HL := Lib.hid hl
  have HA := Lib.hid ha; have HB := Lib.hid hb
  have HS := Lib.hid (fun va vb la lb x y w h1 h2 h3 h4 h5 h6 h7 h8 => stillSame_any n S R m S2 R2 va vb la lb x y w hS hR hn hS2 hR2 hm h1 h2 h3 h4 h5 h6 h7 h8)
  have HT := Lib.hid (Two.new w n S R m S2 R2)
  unfold boxS at HT
  rw [← hl] at cb1 HCB ⊢
  obtain ⟨RES, hres⟩ : ∃ p, Gs.same (stOf n S R) la (stOf m S2 R2) lb = p := ⟨_, rfl⟩
  rw [hres]
  have HRES := Lib.hid hres
  clear hres ha hb hl hS hS2 hR hR2
  unfold strV
  go_enter Tryz.func68, Tryz.ntmps68
  go_wp2_with fail
  go_loopw [12] (fun i wr => ∃ k : Nat, k ≤ la.length ∧ i = .int .i64 k ∧ Hid (Two w wr n S R m S2 R2) ∧ Hid (∀ j, j < k → Gs.still (stOf n S R) (la.take j) (stOf m S2 R2) (lb.take j) (la.getD j 0) (lb.getD j 0) = true)) (fun i _ => la.length - (intOf i).toNat)
  case atStart => exact ⟨0, by omega, rfl, HT.out, fun j hj => by omega⟩
  case round =>
    obtain ⟨k, hk, rfl, HT2, HK⟩ := hrel
    by_cases hlt : k < la.length
    · have NA := Lib.hid ((HNA.out.below HT2.out.old).take k (by omega) (by omega))
      have NB := Lib.hid ((HNB.out.below HT2.out.old).take k (by rw [← HL.out]; omega) (by rw [← HL.out]; omega))
      obtain ⟨ga, oa, rfl, hga, hcka⟩ := HCA.out (by omega)
      obtain ⟨gb, ob, rfl, hgb, hckb⟩ := HCB.out (by omega)
      have hkb : k < lb.length := by rw [← HL.out]; exact hlt
      have d1 := (HT2.out.old.cell (p := ⟨ga, oa + k, none⟩) hga).trans (hcka k hlt)
      have d2 := (HT2.out.old.cell (p := ⟨gb, ob + k, none⟩) hgb).trans (hckb k (by first | exact hlt | exact hkb))
      have hv : la.getD k 0 < n := HA.out _ (by simp [hlt])
      have hu : lb.getD k 0 < m := HB.out _ (by simp [hkb])
      have j1 := fun (s : Since wr) => HS.out _ _ _ _ (la.getD k 0) (lb.getD k 0) s.w (NA.out.below s.below) (NB.out.below s.below) (by rw [List.length_take, List.length_take, ← HL.out]) (by rw [List.length_take]; omega) (fun z hz => HA.out z (List.mem_of_mem_take hz)) (fun z hz => HB.out z (List.mem_of_mem_take hz)) hv hu
      have HNO := Lib.hid (fun h => same_no (a := stOf n S R) (b := stOf m S2 R2) (lb := lb) hlt h)
      obtain ⟨c, hc⟩ : ∃ c, Gs.still (stOf n S R) (la.take k) (stOf m S2 R2) (lb.take k) (la.getD k 0) (lb.getD k 0) = c := ⟨_, rfl⟩
      rw [hc] at j1 HNO
      have HC := Lib.hid hc
      clear hc hcka hckb hkb
      obtain ⟨v, hx⟩ : ∃ v, la.getD k 0 = v := ⟨_, rfl⟩
      obtain ⟨u, hy⟩ : ∃ v, lb.getD k 0 = v := ⟨_, rfl⟩
      rw [hx] at j1 d1 hv HC
      rw [hy] at j1 d2 hu HC
      have HX := Lib.hid hx; have HY := Lib.hid hy
      clear hx hy
      unfold strV at j1
      have J1 := Lib.hid j1
      clear j1
      cases c
      · go_wp2_with fail
        have f0 := fun s => Since.cell HT2.out.a.cells.1 s
        have f1 := fun s => Since.cell HT2.out.a.cells.2.1 s
        have f2 := fun s => Since.cell HT2.out.a.cells.2.2.1 s
        have g0 := fun s => Since.cell HT2.out.b.cells.1 s
        have g1 := fun s => Since.cell HT2.out.b.cells.2.1 s
        have g2 := fun s => Since.cell HT2.out.b.cells.2.2.1 s
        have f3 := fun s => Since.cell d1 s
        have g3 := fun s => Since.cell d2 s
        refine wp_region_since (by kernel_rfl) (by kernel_rfl) ?_
        repeat (go_big_quiet_step ((with_reducible exact Since.call (J1.out _))))
        refine wpQuiet_nil ?_
        intro w1 hb1
        have HT3 := Lib.hid (HT2.out.below hb1)
        clear f0 f1 f2 g0 g1 g2 f3 g3 hb1
        go_wp2_with fail
        go_ret
        exact ⟨ret_bool (by rw [← HRES.out]; exact (HNO.out (by simp)).symm), HT3.out.old⟩
      · go_wp2_with fail
        have f0 := fun s => Since.cell HT2.out.a.cells.1 s
        have f1 := fun s => Since.cell HT2.out.a.cells.2.1 s
        have f2 := fun s => Since.cell HT2.out.a.cells.2.2.1 s
        have g0 := fun s => Since.cell HT2.out.b.cells.1 s
        have g1 := fun s => Since.cell HT2.out.b.cells.2.1 s
        have g2 := fun s => Since.cell HT2.out.b.cells.2.2.1 s
        have f3 := fun s => Since.cell d1 s
        have g3 := fun s => Since.cell d2 s
        refine wp_region_since (by kernel_rfl) (by kernel_rfl) ?_
        repeat (go_big_quiet_step ((with_reducible exact Since.call (J1.out _))))
        refine wpQuiet_nil ?_
        intro w1 hb1
        have HT3 := Lib.hid (HT2.out.below hb1)
        clear f0 f1 f2 g0 g1 g2 f3 g3 hb1
        go_wp2_with fail
        go_roundw
        case rel =>
          refine ⟨k + 1, by omega, by go_num, HT3.out, fun j hj => ?_⟩
          by_cases hjk : j = k
          · rw [hjk, HX.out, HY.out]; exact HC.out
          · exact HK.out j (by omega)
        case measure => simp [intOf]; omega
    · have HE : Hid (Gs.same (stOf n S R) la (stOf m S2 R2) lb = true) := same_yes fun j hj => HK.out j (by omega)
      clear HK
      go_wp2_with fail
      go_ret
      exact ⟨ret_bool (by rw [← HRES.out]; exact HE.out.symm), HT2.out.old⟩
end Go.Proofs.YtfhogenjpepfnaaGreatDoor
namespace Go.Proofs.YtfhogenjpepfnaaGreatDoor
open Go.RowKit
set_option linter.unusedVariables false
theorem NumsAt.one (w : World) (y : Nat) : NumsAt (w.alloc (.cells #[.int .i64 (y : Int)] 3)) (.slice (some ⟨w.heap.size, 0, none⟩) 1 1) [y] := by
  refine .inr ⟨w.heap.size, 0, 1, rfl, Nat.le_refl _, by decide, by simp, fun j hj => ?_⟩
  have hj0 : j = 0 := by simpa using hj
  subst hj0
  simp
/-- The numbers from i on. -/
theorem NumsAt.drop {w : World} {g o cap i : Nat} {L : List Nat} (h : NumsAt w (.slice (some ⟨g, o, none⟩) L.length cap) L) (hi : i < L.length) (o' : Nat) (ho' : o' = o + i) : NumsAt w (.slice (some ⟨g, o', none⟩) (L.length - i) (cap - i)) (L.drop i) := by
  subst ho'
  rcases h with ⟨_, rfl⟩ | ⟨g', o', cap', he, h1, h2, hg, hc⟩
  · simp at hi
  · injection he with e1 e2 e3
    injection e1 with e1
    injection e1 with e4 e5
    subst e4 e5 e3
    refine .inr ⟨g, o + i, cap - i, by simp, by simp; omega, by unfold maxLen at *; omega, hg, fun j hj => ?_⟩
    rw [List.length_drop] at hj
    rw [Nat.add_assoc, hc (i + j) (by omega)]
    simp
theorem Own.lit (B : Nat) (w : World) (b : Nat) (hb : w.heap.size = b) (hB : B ≤ w.heap.size) : Own B (w.alloc (.cells #[] 3)) (.slice (some ⟨b, 0, none⟩) 0 0) [] := by
  subst hb
  exact Own.lit0 B w hB
theorem Own.mono {B B' : Nat} {w : World} {v : Value} {L : List Nat} (h : Own B' w v L) (hB : B ≤ B') : Own B w v L := by
  refine ⟨⟨h.own.1, ?_⟩, h.ne, Nat.le_trans hB h.low⟩
  rcases h.own.2 with hn | ⟨g, cap, cur, rfl, hb', rest⟩
  · exact .inl hn
  · exact .inr ⟨g, cap, cur, rfl, Nat.le_trans hB hb', rest⟩
/-- One number is appended to a slice of the call's own. -/
theorem wpList_own1at {ops : Array Oper} {rest : List Oper} {o : Oper} {a : Act} {Q : Exit → Act → World → Prop} {B : Nat} {w : World} {v : Value} {L : List Nat}
    (hown : Own B w v L) (hL : L.length ≤ 2000000) (hgd : o.guard = none) (s x : Operand)
    (ho : o.op = .call { callee := .builtin .append, args := #[s, x], argTypes := #[30, 30] }) (y : Nat) (b : Nat) (hb : w.heap.size = b)
    (hs : a.eval s = v) (hx : a.eval x = .slice (some ⟨b, 0, none⟩) 1 1)
    (h : ∀ v' w', Own B w' v' (L ++ [y]) → w.grownBy w' v.ownBlock → (v'.ownBlock = v.ownBlock ∨ ∃ k, v'.ownBlock = some k ∧ w.heap.size ≤ k) → wpList Tryz.prog ops Q rest (a.put o.dst v') w') :
    wpList Tryz.prog ops Q (o :: rest) a (w.alloc (.cells #[.int .i64 (y : Int)] 3)) := by
  subst hb
  obtain ⟨i, hi, hz, h1, h2⟩ := info_parts natInfo3
  have hbase : B ≤ w.heap.size := hown.low
  refine wpList_append_own_at _ hgd s x 30 ho B 3 i (.int .i64 0) 1 8 Tryz.underlying30 hi hz h1 h2 rfl (by decide) v L.length _ hs (hown.own.alloc _) ⟨w.heap.size, 0, none⟩ 1 1 [.int .i64 (y : Int)] hx rfl ?_ ?_ ?_ ?_ ?_ ?_
  · intro j u hj
    match j, hj with
    | 0, hj => simp at hj; subst hj; simp [Addr.add]
  · intro u hu
    simp at hu; subst hu; rfl
  · unfold maxLen; omega
  · omega
  · simp; omega
  · intro v' w' h2 h3 h4 h5
    refine h v' w' ⟨?_, ?_, ?_⟩ ?_ (h5.imp_right fun e => ⟨_, e, by simp⟩)
    · simpa using h2
    · intro e
      exact hown.ne (h4.1 e).1
    · have := h3.size
      simp at this
      omega
    · refine ⟨h3.os, h3.tape, h3.output, ?_, fun k hk hne => ?_⟩
      · have := h3.size
        simp at this
        omega
      · rw [h3.block k (by simp; omega) hne]
        exact Below.heap_alloc _ _ _ hk
theorem Own.block {B : Nat} {w : World} {v : Value} {L : List Nat} (h : Own B w v L) : ∃ k, v.ownBlock = some k ∧ B ≤ k ∧ k < w.heap.size := by
  obtain ⟨g, cap, rfl, h1, h2, _⟩ := h.cells
  exact ⟨g, rfl, h1, h2⟩
end Go.Proofs.YtfhogenjpepfnaaGreatDoor

/- Contracts of the program's functions and what they compute: part 21. Conditions: those that each theorem states. -/
import Derived.Test.YtofmagiahmmmgaaGreatDoorP53n7
import Derived.Test.YtofmagiahmmmgaaGreatDoorP53n20
namespace Go.Proofs.YtofmagiahmmmgaaGreatDoor
open Go.RowKit
set_option linter.unusedVariables false
set_option maxRecDepth 100000
theorem OwnN.lit1 (B : Nat) (w : World) (y : Nat) (hB : B ≤ w.heap.size) : Own B (w.alloc (.cells #[.int .i64 (y : Int)] 3)) (.slice (some ⟨w.heap.size, 0, none⟩) 1 1) [y] :=
  ⟨World.ownsRow_lit w #[.int .i64 (y : Int)] 1 hB (by decide) rfl, by simp, by simp; omega⟩
def dpre (c : List Nat) (x : Nat) (Ls : Nat → List Nat) : Nat → List Nat
  | 0 => [c.getD x 0]
  | k + 1 => dpre c x Ls k ++ [(Ls k).length] ++ Col.sortL (Ls k)
theorem dpre_four (a : Gs.St) (c : List Nat) (x : Nat) (Ls : Nat → List Nat) (h : ∀ k, k < 4 → Ls k = Col.ways a c x k a.n) : dpre c x Ls 4 = Col.descr a c x := by
  unfold Col.descr
  simp only [dpre]
  rw [h 0 (by omega), h 1 (by omega), h 2 (by omega), h 3 (by omega)]
  simp
theorem dpre_len (c : List Nat) (x : Nat) (Ls : Nat → List Nat) (h : ∀ k, k < 4 → (Ls k).length ≤ 8) : ∀ k, k ≤ 4 → (dpre c x Ls k).length ≤ 1 + 9 * k
  | 0, _ => by simp [dpre]
  | k + 1, hk => by
    have ih := dpre_len c x Ls h k (by omega)
    have h1 := h k (by omega)
    simp only [dpre, List.length_append, sortL_len, List.length_singleton]
    omega
/-- The second loop: what is built, and the lists that are left. -/
structure W2 (w W0 : World) (vs : Nat → Value) (Ls : Nat → List Nat) (k : Nat) (u : Value) (L : List Nat) (wr : World) : Prop where
  out : Own W0.heap.size wr u L
  ls : ∀ j, k ≤ j → j < 4 → OwnN W0.heap.size wr (vs j) (Ls j)
  dis : ∀ i j, i < 4 → j < 4 → i ≠ j → ∀ g, (vs i).ownBlock = some g → (vs j).ownBlock ≠ some g
  ne : ∀ j, k ≤ j → j < 4 → ∀ g, (vs j).ownBlock = some g → u.ownBlock ≠ some g
  lo : w.heap.size ≤ W0.heap.size
  old : Below w.heap.size w wr
section
variable {w W0 wr w' : World} {vs : Nat → Value} {Ls : Nat → List Nat} {k : Nat} {u u' : Value} {L L' : List Nat}
theorem W2.sorted (h : W2 w W0 vs Ls k u L wr) (hk : k < 4) (hg : wr.grownBy w' (vs k).ownBlock) : W2 w W0 vs Ls (k + 1) u L w' := by
  refine ⟨h.out.kept (fun i hi hl => hg.block i hl (fun e => h.ne k (Nat.le_refl _) hk i e.symm hi)) hg.size, fun j hj hj4 => ?_, h.dis, fun j hj hj4 => h.ne j (by omega) hj4, h.lo, h.old.grown hg h.old.size (fun i hi => ?_)⟩
  · exact (h.ls j (by omega) hj4).kept (fun i hi hl => hg.block i hl (fun e => h.dis j k hj4 hk (by omega) i hi e.symm)) hg.size
  · have := ((h.ls k (Nat.le_refl _) hk).blockN hi).1
    have := h.lo
    omega
theorem W2.grow (h : W2 w W0 vs Ls k u L wr) (ho : Own W0.heap.size w' u' L') (hg : wr.grownBy w' u.ownBlock) (hat : u'.ownBlock = u.ownBlock ∨ ∃ i, u'.ownBlock = some i ∧ wr.heap.size ≤ i) : W2 w W0 vs Ls k u' L' w' := by
  refine ⟨ho, fun j hj hj4 => (h.ls j hj hj4).kept (fun i hi hl => hg.block i hl (fun e => h.ne j hj hj4 i hi e.symm)) hg.size, h.dis, fun j hj hj4 g hgj => ?_, h.lo, h.old.grown hg h.old.size (fun i hi => ?_)⟩
  · rcases hat with e | ⟨i, e, hi⟩
    · rw [e]; exact h.ne j hj hj4 g hgj
    · rw [e]
      intro e2
      injection e2 with e2
      have := ((h.ls j hj hj4).blockN hgj).2
      omega
  · have := (h.out.own.lt i hi).1
    have := h.lo
    omega
end
/-- The numbers of a slice are appended to a slice of the call's own; the new one lies where it lay, or in a new block. -/
theorem wpList_ownAllAt {ops : Array Oper} {rest : List Oper} {o : Oper} {a : Act} {Q : Exit → Act → World → Prop} {B : Nat} {w : World} {v u : Value} {L M : List Nat}
    (hown : Own B w v L) (hM : NumsAt w u M) (hL : L.length + M.length ≤ 2000000) (hgd : o.guard = none) (s x : Operand)
    (ho : o.op = .call { callee := .builtin .append, args := #[s, x], argTypes := #[33, 33] })
    (hs : a.eval s = v) (hx : a.eval x = u)
    (h : ∀ v' w', Own B w' v' (L ++ M) → w.grownBy w' v.ownBlock → (v'.ownBlock = v.ownBlock ∨ ∃ k, v'.ownBlock = some k ∧ w.heap.size ≤ k) → wpList Tryz.prog ops Q rest (a.put o.dst v') w') :
    wpList Tryz.prog ops Q (o :: rest) a w := by
  obtain ⟨i, hi, hz, h1, h2⟩ := info_parts natInfo3
  rcases hM with ⟨rfl, rfl⟩ | ⟨g, off, cap, rfl, m1, m2, mg, mc⟩
  · refine wpList_plain hgd fun K hK' => ?_
    have hrun := run_append_owned_none (P := Tryz.prog) w B 33 o.type 3 i 1 Tryz.underlying33 hi v L.length _ hown.own
    unfold Oper.wp
    simp [execOp, ho, resolve, invoke, builtin, hs, hx, hrun, Result.andThen]
    exact hK' _ _ (h v w (by simpa using hown) (World.grownBy.refl _ _) (.inl rfl))
  · refine wpList_append_own_at _ hgd s x 33 ho B 3 i (.int .i64 0) 1 8 Tryz.underlying33 hi hz h1 h2 rfl (by decide) v L.length _ hs hown.own ⟨g, off, none⟩ M.length cap (M.map fun n : Nat => Value.int .i64 (n : Int)) hx (by simp) ?_ ?_ ?_ ?_ hown.low ?_
    · intro j u hj
      have hj' : j < M.length := by
        have := (List.getElem?_eq_some_iff.1 hj).1
        simpa using this
      have e : (⟨g, off, none⟩ : Addr).add j = ⟨g, off + j, none⟩ := by unfold Addr.add; split <;> simp_all
      rw [e, mc j hj']
      simpa [hj'] using hj
    · intro u hu
      obtain ⟨n, _, rfl⟩ := List.mem_map.1 hu
      rfl
    · unfold maxLen; omega
    · omega
    · intro v' w' h2 h3 h4 h5
      refine h v' w' ⟨?_, ?_, ?_⟩ h3 (h5.imp_right fun e => ⟨_, e, Nat.le_refl _⟩)
      · simpa using h2
      · intro e
        exact hown.ne (h4.1 e).1
      · have := h3.size
        have := hown.low
        omega
set_option maxHeartbeats 8000000 in
theorem describeColour_any (n : Nat) (S R : ByteArray) (x : Nat) (v : Value) (c : List Nat) (w : World) (hn : n ≤ 8) (hR : R.size = n * n) (hx : x < n) (hv : NumsAt w v c) (hc : c.length = n) :
    Calls Tryz.prog 103 #[strV n S R, .int .i64 (x : Int), v] w (NewNums w (Col.descr (stOf n S R) c x)) := by
  obtain ⟨av, cv, rfl, hv1, hv2, hvc⟩ := hv.view
  obtain ⟨gc, oc, rfl, hgc, hcc⟩ := hvc (by omega)
  unfold maxLen at hv2
  rw [hc] at hv1 hcc ⊢
  have HCC := Lib.hid hcc
  have HRL := Lib.hid (fun i j w (hi : i < n) (hj : j < n) => inRel_any n S R i j w hi hj hn hR)
  obtain ⟨W0, hW0⟩ : ∃ W0, w.alloc (.cells #[.int .i64 (n : Int), .string S, .string R] 24) = W0 := ⟨_, rfl⟩
  have HX0 : Hid (SBlk W0 w.heap.size n S R ∧ Below w.heap.size w W0 ∧ W0.heap.size = w.heap.size + 1) := by
    rw [← hW0]
    exact ⟨SBlk.new w n S R, (Below.refl _ _).alloc (Nat.le_refl _) _, by simp⟩
  have HWY : Hid (Wy W0 W0.heap.size (fun _ => .slice none 0 0) (fun _ => []) (W0.alloc (.cells #[.slice none 0 0, .slice none 0 0, .slice none 0 0, .slice none 0 0] 189))) := by
    refine ⟨fun k hk => ?_, fun k _ => OwnN.nil _ _ (by simp), fun _ _ _ _ _ _ h => by simp [Value.ownBlock] at h, fun _ _ h => by simp [Value.ownBlock] at h, Nat.le_refl _, by simp, (Below.refl _ _).alloc (Nat.le_refl _) _⟩
    have he := heap_alloc_new W0 (.cells #[.slice none 0 0, .slice none 0 0, .slice none 0 0, .slice none 0 0] 189)
    unfold World.cell? World.frozen?
    rw [he]
    rcases (by omega : k = 0 ∨ k = 1 ∨ k = 2 ∨ k = 3) with rfl | rfl | rfl | rfl <;> exact ⟨rfl, rfl⟩
  have HW := Lib.hid hW0
  clear hW0 hcc hvc hv
  unfold strV
  go_enter Tryz.func103, Tryz.ntmps103
  go_upto_region 1 with fail
  rw [HW.out]
  go_upto_region 2 with fail
  obtain ⟨W1, hW1⟩ : ∃ W1, W0.alloc (.cells #[.slice none 0 0, .slice none 0 0, .slice none 0 0, .slice none 0 0] 189) = W1 := ⟨_, rfl⟩
  rw [hW1] at HWY ⊢
  have HZ : Hid (W0.heap.size = w.heap.size + 1) := HX0.out.2.2
  have HXA : Hid (∀ W, Below W0.heap.size W0 W → SBlk W w.heap.size n S R) := fun W h => HX0.out.1.below h HX0.out.1.cells.2.2.2.2.2.2
  have HBW : Hid (Below w.heap.size w W0) := HX0.out.2.1
  clear hW1 HX0 HW
  obtain ⟨b, hb⟩ : ∃ b, W0.heap.size = b := ⟨_, rfl⟩
  rw [hb] at HWY ⊢
  have HBE := Lib.hid hb
  clear hb
  obtain ⟨a0, a1, a2, _, _, _, hal⟩ := (HXA.out _ HWY.out.old).cells
  go_wp2_with fail
  go_loopw [16] (fun i wr => ∃ y : Nat, y ≤ n ∧ i = .int .i64 (y : Int) ∧ Hid (∃ vs Ls, Wy W0 b vs Ls wr ∧ ∀ k, k < 4 → Ls k = Col.ways (stOf n S R) c x k y)) (fun i _ => n - (intOf i).toNat)
  case atStart => exact ⟨0, by omega, rfl, _, _, HWY.out, fun k _ => rfl⟩
  case round =>
    clear HWY a0 a1 a2 hal
    obtain ⟨y, hy, rfl, HE⟩ := hrel
    obtain ⟨vs, Ls, hwy, hls⟩ := HE.out
    have HW := Lib.hid hwy
    have HL := Lib.hid hls
    clear hwy hls HE
    obtain ⟨a0, a1, a2, _, _, _, hal⟩ := (HXA.out _ HW.out.old).cells
    by_cases hlt : y < n
    · have hltI : (y : Int) < (n : Int) := by omega
      by_cases hyx : y = x
      · have HN : Hid (∃ vs Ls, Wy W0 b vs Ls wr ∧ ∀ k, k < 4 → Ls k = Col.ways (stOf n S R) c x k (y + 1)) := ⟨vs, Ls, HW.out, fun k hk => by rw [ways_succ, if_neg (fun h => h.1 hyx)]; exact HL.out k hk⟩
        have hyxI : (y : Int) = (x : Int) := by omega
        clear HL HW
        go_wp2_with fail
        go_roundw
        case rel => exact ⟨y + 1, by omega, by go_num, HN.out⟩
        case measure => simp [intOf]; omega
      · have hyxI : ¬ (y : Int) = (x : Int) := by omega
        have c1 := fun W => HRL.out y x W hlt hx
        have c2 := fun W => HRL.out x y W hx hlt
        have HKY : Hid (∀ t1 t2 : Bool, relAt n R y x = t1 → relAt n R x y = t2 → Col.way (stOf n S R) x y = (if t1 then 1 else 0) + (if t2 then 2 else 0)) := fun t1 t2 h1 h2 => by
          show (if relAt n R y x = true then 1 else 0) + (if relAt n R x y = true then 2 else 0) = _
          rw [h1, h2]
        have HCY := HCC.out y hlt
        obtain ⟨t1, ht1⟩ : ∃ t, relAt n R y x = t := ⟨_, rfl⟩
        obtain ⟨t2, ht2⟩ : ∃ t, relAt n R x y = t := ⟨_, rfl⟩
        have HWK := Lib.hid (HKY.out t1 t2 ht1 ht2)
        rw [ht1] at c1
        rw [ht2] at c2
        have C1 := Lib.hid c1; have C2 := Lib.hid c2
        unfold strV at C1 C2
        clear c1 c2 HKY ht1 ht2
        obtain ⟨cy, hcy⟩ : ∃ z, c.getD y 0 = z := ⟨_, rfl⟩
        have HCYE := Lib.hid hcy
        rw [hcy] at HCY
        clear hcy
        have KO : Hid (∀ W, Below W0.heap.size W0 W → W.cell? ⟨gc, oc + y, none⟩ = some (.int .i64 (cy : Int))) := fun W h => by
          have h0 : gc < W0.heap.size := by have := HZ.out; omega
          exact (h.cell (p := ⟨gc, oc + y, none⟩) h0).trans ((HBW.out.cell (p := ⟨gc, oc + y, none⟩) hgc).trans HCY)
        cases t1 <;> cases t2
        · have HK : Hid (Col.way (stOf n S R) x y = 0) := HWK.out
          clear HWK
          go_wp2_with fail
          refine (C1.out _).mono ?_; rintro e w2 ⟨rfl, hw⟩
          have hb2 : Below wr.heap.size wr w2 := by rw [hw]; exact boxS_below _ _ _ _
          have HW2 := Lib.hid (HW.out.below hb2)
          clear hw hb2 a0 a1 a2 hal
          obtain ⟨a0, a1, a2, _, _, _, hal⟩ := (HXA.out _ HW2.out.old).cells
          go_wp2_with fail
          refine (C2.out _).mono ?_; rintro e w3 ⟨rfl, hw⟩
          have hb3 : Below w2.heap.size w2 w3 := by rw [hw]; exact boxS_below _ _ _ _
          have HW3 := Lib.hid (HW2.out.below hb3)
          clear hw hb3 a0 a1 a2 hal C1 C2 HW HW2
          have HD3 := Lib.hid (HW3.out.below (Below.refl w3.heap.size w3).drew)
          have KS : Hid (∀ w' : World, Below w3.heap.size w3 w' → w'.cell? ⟨b, 0, none⟩ = some (vs 0) ∧ w'.cell? ⟨gc, oc + y, none⟩ = some (.int .i64 (cy : Int))) := by
            intro w' h
            refine ⟨((HW3.out.below h).cell 0 (by omega)).1, ?_⟩
            exact KO.out _ (HW3.out.below h).old
          obtain ⟨q0, q1⟩ := KS.out w3 (Below.refl _ _)
          have HLL : Hid ((Ls 0).length ≤ 2000000) := by
            have h1 := ways_len (stOf n S R) c x 0 y
            rw [← HL.out 0 (by omega)] at h1
            show _ ≤ _
            omega
          have hyc : (y : Int) < (n : Int) := hltI
          have hbl3 : b < w3.heap.size := HW3.out.hi
          have hgl3 : gc < w3.heap.size := by have := HZ.out; have := HW3.out.old.size; omega
          have hbg : b ≠ gc := by have := HBE.out; have := HZ.out; omega
          have hbg2 : gc ≠ b := fun e => hbg e.symm
          go_upto_region 11 with fail
          go_region_law ((refine step_ownN (w := w3.drew) (HD3.out.own 0 (by omega)) HLL rfl (.tmp 37) (.tmp 42) rfl cy _ rfl rfl rfl ?_); intro g cap w4 ho hg hat hgl; obtain ⟨k0, k1⟩ := HD3.out.grownCell (k := 0) (by omega) hg; have k2 := KO.out _ (HD3.out.grownBelow (k := 0) (by omega) hg); have HP := Lib.hid (HD3.out.pushM (k := 0) (L := Ls 0 ++ [cy]) (by omega) (by simp) ho hg hat hgl); clear ho hg hat hgl)
          all_goals
            have HN : Hid (∃ vs Ls, Wy W0 b vs Ls _ ∧ ∀ k, k < 4 → Ls k = Col.ways (stOf n S R) c x k (y + 1)) := ⟨_, _, HP.out, fun k hk => by
              unfold setW
              rw [ways_succ]
              by_cases hk2 : k = 0
              · subst hk2
                rw [if_pos rfl, if_pos ⟨hyx, HK.out⟩, HL.out _ hk, HCYE.out]
              · rw [if_neg hk2, if_neg (fun h => hk2 (by rw [← h.2, HK.out]))]
                exact HL.out k hk⟩
            clear HP HL HK KS
            go_wp2_with fail
            go_roundw
            case rel => exact ⟨y + 1, by omega, by go_num, HN.out⟩
            case measure => simp [intOf]; omega
        · have HK : Hid (Col.way (stOf n S R) x y = 2) := HWK.out
          clear HWK
          go_wp2_with fail
          refine (C1.out _).mono ?_; rintro e w2 ⟨rfl, hw⟩
          have hb2 : Below wr.heap.size wr w2 := by rw [hw]; exact boxS_below _ _ _ _
          have HW2 := Lib.hid (HW.out.below hb2)
          clear hw hb2 a0 a1 a2 hal
          obtain ⟨a0, a1, a2, _, _, _, hal⟩ := (HXA.out _ HW2.out.old).cells
          go_wp2_with fail
          refine (C2.out _).mono ?_; rintro e w3 ⟨rfl, hw⟩
          have hb3 : Below w2.heap.size w2 w3 := by rw [hw]; exact boxS_below _ _ _ _
          have HW3 := Lib.hid (HW2.out.below hb3)
          clear hw hb3 a0 a1 a2 hal C1 C2 HW HW2
          have HD3 := Lib.hid (HW3.out.below (Below.refl w3.heap.size w3).drew)
          have KS : Hid (∀ w' : World, Below w3.heap.size w3 w' → w'.cell? ⟨b, 2, none⟩ = some (vs 2) ∧ w'.cell? ⟨gc, oc + y, none⟩ = some (.int .i64 (cy : Int))) := by
            intro w' h
            refine ⟨((HW3.out.below h).cell 2 (by omega)).1, ?_⟩
            exact KO.out _ (HW3.out.below h).old
          obtain ⟨q0, q1⟩ := KS.out w3 (Below.refl _ _)
          have HLL : Hid ((Ls 2).length ≤ 2000000) := by
            have h1 := ways_len (stOf n S R) c x 2 y
            rw [← HL.out 2 (by omega)] at h1
            show _ ≤ _
            omega
          have hyc : (y : Int) < (n : Int) := hltI
          have hbl3 : b < w3.heap.size := HW3.out.hi
          have hgl3 : gc < w3.heap.size := by have := HZ.out; have := HW3.out.old.size; omega
          have hbg : b ≠ gc := by have := HBE.out; have := HZ.out; omega
          have hbg2 : gc ≠ b := fun e => hbg e.symm
          go_upto_region 11 with fail
          go_region_law ((refine step_ownN (w := w3.drew) (HD3.out.own 2 (by omega)) HLL rfl (.tmp 37) (.tmp 42) rfl cy _ rfl rfl rfl ?_); intro g cap w4 ho hg hat hgl; obtain ⟨k0, k1⟩ := HD3.out.grownCell (k := 2) (by omega) hg; have k2 := KO.out _ (HD3.out.grownBelow (k := 2) (by omega) hg); have HP := Lib.hid (HD3.out.pushM (k := 2) (L := Ls 2 ++ [cy]) (by omega) (by simp) ho hg hat hgl); clear ho hg hat hgl)
          all_goals
            have HN : Hid (∃ vs Ls, Wy W0 b vs Ls _ ∧ ∀ k, k < 4 → Ls k = Col.ways (stOf n S R) c x k (y + 1)) := ⟨_, _, HP.out, fun k hk => by
              unfold setW
              rw [ways_succ]
              by_cases hk2 : k = 2
              · subst hk2
                rw [if_pos rfl, if_pos ⟨hyx, HK.out⟩, HL.out _ hk, HCYE.out]
              · rw [if_neg hk2, if_neg (fun h => hk2 (by rw [← h.2, HK.out]))]
                exact HL.out k hk⟩
            clear HP HL HK KS
            go_wp2_with fail
            go_roundw
            case rel => exact ⟨y + 1, by omega, by go_num, HN.out⟩
            case measure => simp [intOf]; omega
        · have HK : Hid (Col.way (stOf n S R) x y = 1) := HWK.out
          clear HWK
          go_wp2_with fail
          refine (C1.out _).mono ?_; rintro e w2 ⟨rfl, hw⟩
          have hb2 : Below wr.heap.size wr w2 := by rw [hw]; exact boxS_below _ _ _ _
          have HW2 := Lib.hid (HW.out.below hb2)
          clear hw hb2 a0 a1 a2 hal
          obtain ⟨a0, a1, a2, _, _, _, hal⟩ := (HXA.out _ HW2.out.old).cells
          go_wp2_with fail
          refine (C2.out _).mono ?_; rintro e w3 ⟨rfl, hw⟩
          have hb3 : Below w2.heap.size w2 w3 := by rw [hw]; exact boxS_below _ _ _ _
          have HW3 := Lib.hid (HW2.out.below hb3)
          clear hw hb3 a0 a1 a2 hal C1 C2 HW HW2
          have HD3 := Lib.hid (HW3.out.below (Below.refl w3.heap.size w3).drew)
          have KS : Hid (∀ w' : World, Below w3.heap.size w3 w' → w'.cell? ⟨b, 1, none⟩ = some (vs 1) ∧ w'.cell? ⟨gc, oc + y, none⟩ = some (.int .i64 (cy : Int))) := by
            intro w' h
            refine ⟨((HW3.out.below h).cell 1 (by omega)).1, ?_⟩
            exact KO.out _ (HW3.out.below h).old
          obtain ⟨q0, q1⟩ := KS.out w3 (Below.refl _ _)
          have HLL : Hid ((Ls 1).length ≤ 2000000) := by
            have h1 := ways_len (stOf n S R) c x 1 y
            rw [← HL.out 1 (by omega)] at h1
            show _ ≤ _
            omega
          have hyc : (y : Int) < (n : Int) := hltI
          have hbl3 : b < w3.heap.size := HW3.out.hi
          have hgl3 : gc < w3.heap.size := by have := HZ.out; have := HW3.out.old.size; omega
          have hbg : b ≠ gc := by have := HBE.out; have := HZ.out; omega
          have hbg2 : gc ≠ b := fun e => hbg e.symm
          go_upto_region 11 with fail
          go_region_law ((refine step_ownN (w := w3.drew) (HD3.out.own 1 (by omega)) HLL rfl (.tmp 37) (.tmp 42) rfl cy _ rfl rfl rfl ?_); intro g cap w4 ho hg hat hgl; obtain ⟨k0, k1⟩ := HD3.out.grownCell (k := 1) (by omega) hg; have k2 := KO.out _ (HD3.out.grownBelow (k := 1) (by omega) hg); have HP := Lib.hid (HD3.out.pushM (k := 1) (L := Ls 1 ++ [cy]) (by omega) (by simp) ho hg hat hgl); clear ho hg hat hgl)
          all_goals
            have HN : Hid (∃ vs Ls, Wy W0 b vs Ls _ ∧ ∀ k, k < 4 → Ls k = Col.ways (stOf n S R) c x k (y + 1)) := ⟨_, _, HP.out, fun k hk => by
              unfold setW
              rw [ways_succ]
              by_cases hk2 : k = 1
              · subst hk2
                rw [if_pos rfl, if_pos ⟨hyx, HK.out⟩, HL.out _ hk, HCYE.out]
              · rw [if_neg hk2, if_neg (fun h => hk2 (by rw [← h.2, HK.out]))]
                exact HL.out k hk⟩
            clear HP HL HK KS
            go_wp2_with fail
            go_roundw
            case rel => exact ⟨y + 1, by omega, by go_num, HN.out⟩
            case measure => simp [intOf]; omega
        · have HK : Hid (Col.way (stOf n S R) x y = 3) := HWK.out
          clear HWK
          go_wp2_with fail
          refine (C1.out _).mono ?_; rintro e w2 ⟨rfl, hw⟩
          have hb2 : Below wr.heap.size wr w2 := by rw [hw]; exact boxS_below _ _ _ _
          have HW2 := Lib.hid (HW.out.below hb2)
          clear hw hb2 a0 a1 a2 hal
          obtain ⟨a0, a1, a2, _, _, _, hal⟩ := (HXA.out _ HW2.out.old).cells
          go_wp2_with fail
          refine (C2.out _).mono ?_; rintro e w3 ⟨rfl, hw⟩
          have hb3 : Below w2.heap.size w2 w3 := by rw [hw]; exact boxS_below _ _ _ _
          have HW3 := Lib.hid (HW2.out.below hb3)
          clear hw hb3 a0 a1 a2 hal C1 C2 HW HW2
          have HD3 := Lib.hid (HW3.out.below (Below.refl w3.heap.size w3).drew)
          have KS : Hid (∀ w' : World, Below w3.heap.size w3 w' → w'.cell? ⟨b, 3, none⟩ = some (vs 3) ∧ w'.cell? ⟨gc, oc + y, none⟩ = some (.int .i64 (cy : Int))) := by
            intro w' h
            refine ⟨((HW3.out.below h).cell 3 (by omega)).1, ?_⟩
            exact KO.out _ (HW3.out.below h).old
          obtain ⟨q0, q1⟩ := KS.out w3 (Below.refl _ _)
          have HLL : Hid ((Ls 3).length ≤ 2000000) := by
            have h1 := ways_len (stOf n S R) c x 3 y
            rw [← HL.out 3 (by omega)] at h1
            show _ ≤ _
            omega
          have hyc : (y : Int) < (n : Int) := hltI
          have hbl3 : b < w3.heap.size := HW3.out.hi
          have hgl3 : gc < w3.heap.size := by have := HZ.out; have := HW3.out.old.size; omega
          have hbg : b ≠ gc := by have := HBE.out; have := HZ.out; omega
          have hbg2 : gc ≠ b := fun e => hbg e.symm
          go_upto_region 11 with fail
          go_region_law ((refine step_ownN (w := w3.drew) (HD3.out.own 3 (by omega)) HLL rfl (.tmp 37) (.tmp 42) rfl cy _ rfl rfl rfl ?_); intro g cap w4 ho hg hat hgl; obtain ⟨k0, k1⟩ := HD3.out.grownCell (k := 3) (by omega) hg; have k2 := KO.out _ (HD3.out.grownBelow (k := 3) (by omega) hg); have HP := Lib.hid (HD3.out.pushM (k := 3) (L := Ls 3 ++ [cy]) (by omega) (by simp) ho hg hat hgl); clear ho hg hat hgl)
          all_goals
            have HN : Hid (∃ vs Ls, Wy W0 b vs Ls _ ∧ ∀ k, k < 4 → Ls k = Col.ways (stOf n S R) c x k (y + 1)) := ⟨_, _, HP.out, fun k hk => by
              unfold setW
              rw [ways_succ]
              by_cases hk2 : k = 3
              · subst hk2
                rw [if_pos rfl, if_pos ⟨hyx, HK.out⟩, HL.out _ hk, HCYE.out]
              · rw [if_neg hk2, if_neg (fun h => hk2 (by rw [← h.2, HK.out]))]
                exact HL.out k hk⟩
            clear HP HL HK KS
            go_wp2_with fail
            go_roundw
            case rel => exact ⟨y + 1, by omega, by go_num, HN.out⟩
            case measure => simp [intOf]; omega
    · obtain rfl : y = n := by omega
      have hltI : ¬ (y : Int) < (y : Int) := by omega
      have HL8 : Hid (∀ k, k < 4 → (Ls k).length ≤ 8) := fun k hk => by
        rw [HL.out k hk]
        have := ways_len (stOf y S R) c x k y
        omega
      have KO : wr.cell? ⟨gc, oc + x, none⟩ = some (.int .i64 ((c.getD x 0 : Nat) : Int)) := by
        have h0 : gc < W0.heap.size := by have := HZ.out; omega
        exact (HW.out.old.cell (p := ⟨gc, oc + x, none⟩) h0).trans ((HBW.out.cell (p := ⟨gc, oc + x, none⟩) hgc).trans (HCC.out x hx))
      obtain ⟨cx, hcx⟩ : ∃ z, c.getD x 0 = z := ⟨_, rfl⟩
      have HCX := Lib.hid hcx
      rw [hcx] at KO
      clear hcx
      have hal5 : Below wr.heap.size wr (wr.alloc (.cells #[.int .i64 (cx : Int)] 3)) := (Below.refl _ _).alloc (Nat.le_refl _) _
      have HS : Hid (W2 w W0 vs Ls 0 (.slice (some ⟨wr.heap.size, 0, none⟩) 1 1) (dpre c x Ls 0) (wr.alloc (.cells #[.int .i64 (cx : Int)] 3))) := by
        refine ⟨?_, fun j _ hj => (HW.out.own j hj).below hal5, HW.out.ne, fun j _ hj g hg => ?_, HBW.out.size, HBW.out.trans ((HW.out.old.trans (hal5.mono HW.out.old.size)).mono HBW.out.size)⟩
        · rw [show dpre c x Ls 0 = [cx] by simp [dpre, ← HCX.out]]
          exact OwnN.lit1 _ wr cx HW.out.old.size
        · intro e
          have e : wr.heap.size = g := Option.some.inj e
          have := ((HW.out.own j hj).blockN hg).2
          omega
      have HW5 := Lib.hid (HW.out.below hal5)
      obtain ⟨W5, hW5⟩ : ∃ W5, wr.alloc (.cells #[.int .i64 (cx : Int)] 3) = W5 := ⟨_, rfl⟩
      obtain ⟨u5, hu5⟩ : ∃ u, (Value.slice (some ⟨wr.heap.size, 0, none⟩) 1 1) = u := ⟨_, rfl⟩
      rw [hW5] at HS HW5
      rw [hu5] at HS
      have HE5 : Hid (wr.alloc (.cells #[.int .i64 (cx : Int)] 3) = W5 ∧ (Value.slice (some ⟨wr.heap.size, 0, none⟩) 1 1) = u5) := ⟨hW5, hu5⟩
      clear hal5 hW5 hu5 a0 a1 a2 hal
      go_upto_region 14 with fail
      rw [HE5.out.1, HE5.out.2]
      have q0 := (HW5.out.cell 0 (by omega)).1
      have q1 := (HW5.out.cell 1 (by omega)).1
      have q2 := (HW5.out.cell 2 (by omega)).1
      have q3 := (HW5.out.cell 3 (by omega)).1
      obtain ⟨A0, C0, hK0, hb0, hm0, _⟩ := (HW5.out.own 0 (by omega)).nums.view
      obtain ⟨l0, hl0⟩ : ∃ l, (Ls 0).length = l := ⟨_, rfl⟩
      rw [hl0] at hK0 hb0
      unfold maxLen at hm0
      have HLK0 := Lib.hid hl0
      have HKE0 := Lib.hid hK0
      clear hl0
      obtain ⟨A1, C1, hK1, hb1, hm1, _⟩ := (HW5.out.own 1 (by omega)).nums.view
      obtain ⟨l1, hl1⟩ : ∃ l, (Ls 1).length = l := ⟨_, rfl⟩
      rw [hl1] at hK1 hb1
      unfold maxLen at hm1
      have HLK1 := Lib.hid hl1
      have HKE1 := Lib.hid hK1
      clear hl1
      obtain ⟨A2, C2, hK2, hb2, hm2, _⟩ := (HW5.out.own 2 (by omega)).nums.view
      obtain ⟨l2, hl2⟩ : ∃ l, (Ls 2).length = l := ⟨_, rfl⟩
      rw [hl2] at hK2 hb2
      unfold maxLen at hm2
      have HLK2 := Lib.hid hl2
      have HKE2 := Lib.hid hK2
      clear hl2
      obtain ⟨A3, C3, hK3, hb3, hm3, _⟩ := (HW5.out.own 3 (by omega)).nums.view
      obtain ⟨l3, hl3⟩ : ∃ l, (Ls 3).length = l := ⟨_, rfl⟩
      rw [hl3] at hK3 hb3
      unfold maxLen at hm3
      have HLK3 := Lib.hid hl3
      have HKE3 := Lib.hid hK3
      clear hl3
      clear HE5 KO HW HW5
      go_wp2_with fail
      go_loopw [52, 10] (fun i u wr => ∃ k : Nat, k ≤ 4 ∧ i = .int .i64 (k : Int) ∧ Hid (W2 w W0 vs Ls k u (dpre c x Ls k) wr)) (fun i _ _ => 4 - (intOf i).toNat)
      case atStart => exact ⟨0, by omega, rfl, HS.out⟩
      case round =>
        clear HS
        obtain ⟨k, hk, rfl, HS⟩ := hrel
        rcases (by omega : k = 0 ∨ k = 1 ∨ k = 2 ∨ k = 3 ∨ k = 4) with rfl | rfl | rfl | rfl | rfl
        · have hl8 : (Ls 0).length ≤ 8 := HL8.out 0 (by omega)
          have J := Lib.hid (sSort_any W0.heap.size (vs 0) (Ls 0) wr (HS.out.ls 0 (Nat.le_refl _) (by omega)) (by omega))
          have HGS := Lib.hid (fun W (h : wr.grownBy W (vs 0).ownBlock) => HS.out.sorted (by omega) h)
          have HAP := Lib.hid (HS.out.ne 0 (Nat.le_refl _) (by omega))
          unfold SoP at J
          rw [hK0] at J
          have HPL : Hid ((dpre c x Ls 0).length ≤ 2000000) := by have := dpre_len c x Ls HL8.out 0 (by omega); show _ ≤ _; omega
          have HPM : Hid ((dpre c x Ls 0 ++ [(Ls 0).length]).length + (Col.sortL (Ls 0)).length ≤ 2000000) := by have := dpre_len c x Ls HL8.out 0 (by omega); show _ ≤ _; rw [sortL_len, List.length_append]; simp; omega
          rw [HLK0.out] at HPM hl8
          have hix : ∀ wx, (Instr.index 189 (.agg #[.slice A0 l0 C0, .slice A1 l1 C1, .slice A2 l2 C2, .slice A3 l3 C3]) (.int .i64 0)).run Tryz.prog wx = .ok (.slice A0 l0 C0) wx := fun wx => by kernel_rfl
          go_wp2_with fail
          refine J.out.mono ?_; rintro e w6 ⟨rfl, hn, hg⟩
          have HNK : Hid (NumsAt w6 (.slice A0 l0 C0) (Col.sortL (Ls 0))) := hn
          have HS6 := Lib.hid (HGS.out w6 (by rw [HKE0.out]; exact hg))
          clear hn hg J HGS
          go_wp2_with (first | (at_builtin; refine wpList_own1at HS6.out.out HPL.out rfl (.tmp 57) (.tmp 60) rfl l0 _ rfl rfl rfl ?_; intro v2 w7 ho hg hat; have HS7 := Lib.hid (HS6.out.grow ho hg hat); have HN7 := Lib.hid (HNK.out.kept (fun i hi hl => hg.block i hl (fun e => HAP.out i (by rw [HKE0.out]; exact hi) e.symm)) hg.size); clear ho hg hat) | (at_builtin; refine wpList_ownAllAt HS7.out.out HN7.out HPM.out rfl (.tmp 61) (.tmp 62) rfl rfl rfl ?_; intro v3 w8 ho hg hat; have HS8 := Lib.hid (HS7.out.grow ho hg hat); clear ho hg hat) | fail)
          go_roundw
          case rel => exact ⟨1, by omega, by go_num, by show Hid (W2 w W0 vs Ls 1 _ (dpre c x Ls 0 ++ [(Ls 0).length] ++ Col.sortL (Ls 0)) _); rw [HLK0.out]; exact HS8⟩
          case measure => simp [intOf]
        · have hl8 : (Ls 1).length ≤ 8 := HL8.out 1 (by omega)
          have J := Lib.hid (sSort_any W0.heap.size (vs 1) (Ls 1) wr (HS.out.ls 1 (Nat.le_refl _) (by omega)) (by omega))
          have HGS := Lib.hid (fun W (h : wr.grownBy W (vs 1).ownBlock) => HS.out.sorted (by omega) h)
          have HAP := Lib.hid (HS.out.ne 1 (Nat.le_refl _) (by omega))
          unfold SoP at J
          rw [hK1] at J
          have HPL : Hid ((dpre c x Ls 1).length ≤ 2000000) := by have := dpre_len c x Ls HL8.out 1 (by omega); show _ ≤ _; omega
          have HPM : Hid ((dpre c x Ls 1 ++ [(Ls 1).length]).length + (Col.sortL (Ls 1)).length ≤ 2000000) := by have := dpre_len c x Ls HL8.out 1 (by omega); show _ ≤ _; rw [sortL_len, List.length_append]; simp; omega
          rw [HLK1.out] at HPM hl8
          have hix : ∀ wx, (Instr.index 189 (.agg #[.slice A0 l0 C0, .slice A1 l1 C1, .slice A2 l2 C2, .slice A3 l3 C3]) (.int .i64 1)).run Tryz.prog wx = .ok (.slice A1 l1 C1) wx := fun wx => by kernel_rfl
          go_wp2_with fail
          refine J.out.mono ?_; rintro e w6 ⟨rfl, hn, hg⟩
          have HNK : Hid (NumsAt w6 (.slice A1 l1 C1) (Col.sortL (Ls 1))) := hn
          have HS6 := Lib.hid (HGS.out w6 (by rw [HKE1.out]; exact hg))
          clear hn hg J HGS
          go_wp2_with (first | (at_builtin; refine wpList_own1at HS6.out.out HPL.out rfl (.tmp 57) (.tmp 60) rfl l1 _ rfl rfl rfl ?_; intro v2 w7 ho hg hat; have HS7 := Lib.hid (HS6.out.grow ho hg hat); have HN7 := Lib.hid (HNK.out.kept (fun i hi hl => hg.block i hl (fun e => HAP.out i (by rw [HKE1.out]; exact hi) e.symm)) hg.size); clear ho hg hat) | (at_builtin; refine wpList_ownAllAt HS7.out.out HN7.out HPM.out rfl (.tmp 61) (.tmp 62) rfl rfl rfl ?_; intro v3 w8 ho hg hat; have HS8 := Lib.hid (HS7.out.grow ho hg hat); clear ho hg hat) | fail)
          go_roundw
          case rel => exact ⟨2, by omega, by go_num, by show Hid (W2 w W0 vs Ls 2 _ (dpre c x Ls 1 ++ [(Ls 1).length] ++ Col.sortL (Ls 1)) _); rw [HLK1.out]; exact HS8⟩
          case measure => simp [intOf]
        · have hl8 : (Ls 2).length ≤ 8 := HL8.out 2 (by omega)
          have J := Lib.hid (sSort_any W0.heap.size (vs 2) (Ls 2) wr (HS.out.ls 2 (Nat.le_refl _) (by omega)) (by omega))
          have HGS := Lib.hid (fun W (h : wr.grownBy W (vs 2).ownBlock) => HS.out.sorted (by omega) h)
          have HAP := Lib.hid (HS.out.ne 2 (Nat.le_refl _) (by omega))
          unfold SoP at J
          rw [hK2] at J
          have HPL : Hid ((dpre c x Ls 2).length ≤ 2000000) := by have := dpre_len c x Ls HL8.out 2 (by omega); show _ ≤ _; omega
          have HPM : Hid ((dpre c x Ls 2 ++ [(Ls 2).length]).length + (Col.sortL (Ls 2)).length ≤ 2000000) := by have := dpre_len c x Ls HL8.out 2 (by omega); show _ ≤ _; rw [sortL_len, List.length_append]; simp; omega
          rw [HLK2.out] at HPM hl8
          have hix : ∀ wx, (Instr.index 189 (.agg #[.slice A0 l0 C0, .slice A1 l1 C1, .slice A2 l2 C2, .slice A3 l3 C3]) (.int .i64 2)).run Tryz.prog wx = .ok (.slice A2 l2 C2) wx := fun wx => by kernel_rfl
          go_wp2_with fail
          refine J.out.mono ?_; rintro e w6 ⟨rfl, hn, hg⟩
          have HNK : Hid (NumsAt w6 (.slice A2 l2 C2) (Col.sortL (Ls 2))) := hn
          have HS6 := Lib.hid (HGS.out w6 (by rw [HKE2.out]; exact hg))
          clear hn hg J HGS
          go_wp2_with (first | (at_builtin; refine wpList_own1at HS6.out.out HPL.out rfl (.tmp 57) (.tmp 60) rfl l2 _ rfl rfl rfl ?_; intro v2 w7 ho hg hat; have HS7 := Lib.hid (HS6.out.grow ho hg hat); have HN7 := Lib.hid (HNK.out.kept (fun i hi hl => hg.block i hl (fun e => HAP.out i (by rw [HKE2.out]; exact hi) e.symm)) hg.size); clear ho hg hat) | (at_builtin; refine wpList_ownAllAt HS7.out.out HN7.out HPM.out rfl (.tmp 61) (.tmp 62) rfl rfl rfl ?_; intro v3 w8 ho hg hat; have HS8 := Lib.hid (HS7.out.grow ho hg hat); clear ho hg hat) | fail)
          go_roundw
          case rel => exact ⟨3, by omega, by go_num, by show Hid (W2 w W0 vs Ls 3 _ (dpre c x Ls 2 ++ [(Ls 2).length] ++ Col.sortL (Ls 2)) _); rw [HLK2.out]; exact HS8⟩
          case measure => simp [intOf]
        · have hl8 : (Ls 3).length ≤ 8 := HL8.out 3 (by omega)
          have J := Lib.hid (sSort_any W0.heap.size (vs 3) (Ls 3) wr (HS.out.ls 3 (Nat.le_refl _) (by omega)) (by omega))
          have HGS := Lib.hid (fun W (h : wr.grownBy W (vs 3).ownBlock) => HS.out.sorted (by omega) h)
          have HAP := Lib.hid (HS.out.ne 3 (Nat.le_refl _) (by omega))
          unfold SoP at J
          rw [hK3] at J
          have HPL : Hid ((dpre c x Ls 3).length ≤ 2000000) := by have := dpre_len c x Ls HL8.out 3 (by omega); show _ ≤ _; omega
          have HPM : Hid ((dpre c x Ls 3 ++ [(Ls 3).length]).length + (Col.sortL (Ls 3)).length ≤ 2000000) := by have := dpre_len c x Ls HL8.out 3 (by omega); show _ ≤ _; rw [sortL_len, List.length_append]; simp; omega
          rw [HLK3.out] at HPM hl8
          have hix : ∀ wx, (Instr.index 189 (.agg #[.slice A0 l0 C0, .slice A1 l1 C1, .slice A2 l2 C2, .slice A3 l3 C3]) (.int .i64 3)).run Tryz.prog wx = .ok (.slice A3 l3 C3) wx := fun wx => by kernel_rfl
          go_wp2_with fail
          refine J.out.mono ?_; rintro e w6 ⟨rfl, hn, hg⟩
          have HNK : Hid (NumsAt w6 (.slice A3 l3 C3) (Col.sortL (Ls 3))) := hn
          have HS6 := Lib.hid (HGS.out w6 (by rw [HKE3.out]; exact hg))
          clear hn hg J HGS
          go_wp2_with (first | (at_builtin; refine wpList_own1at HS6.out.out HPL.out rfl (.tmp 57) (.tmp 60) rfl l3 _ rfl rfl rfl ?_; intro v2 w7 ho hg hat; have HS7 := Lib.hid (HS6.out.grow ho hg hat); have HN7 := Lib.hid (HNK.out.kept (fun i hi hl => hg.block i hl (fun e => HAP.out i (by rw [HKE3.out]; exact hi) e.symm)) hg.size); clear ho hg hat) | (at_builtin; refine wpList_ownAllAt HS7.out.out HN7.out HPM.out rfl (.tmp 61) (.tmp 62) rfl rfl rfl ?_; intro v3 w8 ho hg hat; have HS8 := Lib.hid (HS7.out.grow ho hg hat); clear ho hg hat) | fail)
          go_roundw
          case rel => exact ⟨4, by omega, by go_num, by show Hid (W2 w W0 vs Ls 4 _ (dpre c x Ls 3 ++ [(Ls 3).length] ++ Col.sortL (Ls 3)) _); rw [HLK3.out]; exact HS8⟩
          case measure => simp [intOf]
        · have HF : Hid (NewNums w (Col.descr (stOf y S R) c x) (.returned u10) wr) := by
            have h := HS.out
            rw [dpre_four (stOf y S R) c x Ls HL.out] at h
            exact ⟨_, rfl, h.out.mono HBW.out.size, h.old⟩
          go_wp2_with fail
          go_ret
          exact HF.out
end Go.Proofs.YtofmagiahmmmgaaGreatDoor

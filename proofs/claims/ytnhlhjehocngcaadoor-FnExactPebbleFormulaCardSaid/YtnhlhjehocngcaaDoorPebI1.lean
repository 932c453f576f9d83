/- The program's put, signed, shortFormula, withoutEqual, and the games of a talk: won, beats. Conditions: those that each states. -/
import Derived.Test.YtnhlhjehocngcaaDoorPebF
import Derived.Test.YtnhlhjehocngcaaDoorPebC2
import Derived.Test.YtnhlhjehocngcaaDoorStrs
namespace Go.Proofs.YtnhlhjehocngcaaDoor
open Go.RowKit
set_option linter.unusedVariables false
set_option maxRecDepth 100000

theorem signed_any (s : ByteArray) (is : Bool) (w : World) (hs : s.size ≤ 1000000) : Calls Tryd.prog 97 #[.string s, .bool is] w fun e w' => e = .returned (.string (sgB s is)) ∧ w' = w := by
  cases is
  · have hz : ¬ 9223372036854775807 < (⟨#[33]⟩ : ByteArray).size + s.size := by show ¬ _ < 1 + s.size; omega
    go_enter Tryd.func97, Tryd.ntmps97
    go_wp2_with fail
    go_ret
    exact ⟨rfl, rfl⟩
  · go_enter Tryd.func97, Tryd.ntmps97
    go_wp2_with fail
    go_ret
    exact ⟨rfl, rfl⟩
theorem short_any (s : ByteArray) (w : World) (hs : s.size ≤ 4000) : Calls Tryd.prog 99 #[.string s, .bool true] w fun e w' => e = .returned (.tuple #[.string s, .bool true]) ∧ w' = w := by
  have h1 : ¬ ((4000 : Int) < (s.size : Int)) := by omega
  have h1B : decide ((4000 : Int) < (s.size : Int)) = false := decide_eq_false h1
  go_enter Tryd.func99, Tryd.ntmps99
  go_wp2_with fail
  go_ret2
  exact ⟨rfl, rfl⟩
theorem tl_ne {x f : ByteArray} (h : x ≠ f) : (f.toList == x.toList) = false ∧ (x.toList == f.toList) = false := by
  have key : ∀ {x f : ByteArray}, f.toList = x.toList → f = x := fun {x f} e => by
    have h1 := (text_is f x.toList).1 e
    have h2 := (text_is x x.toList).1 rfl
    rw [h1, ← h2]
  rw [beq_eq_false_iff_ne, beq_eq_false_iff_ne]
  exact ⟨fun e => h (key e).symm, fun e => h (key e)⟩
theorem indexStr_any (v : Value) (L : List ByteArray) (f : ByteArray) (g cap : Nat) (w : World) (hcap : L.length ≤ cap) (hcm : cap ≤ maxLen) (hl : L.length ≤ 1000) (hc : ∀ j (hj : j < L.length), w.cell? ⟨g, j, none⟩ = some (.string L[j])) :
    Calls Tryd.prog 123 #[.slice (some ⟨g, 0, none⟩) L.length cap, .string f] w fun e w' => (∃ z : Int, e = .returned (.int .i64 z) ∧ decide (0 ≤ z) = hasB L f) ∧ w' = w := by
  unfold maxLen at hcm
  have HC := Lib.hid hc
  clear hc
  go_enter Tryd.func123, Tryd.ntmps123
  go_wp2_with fail
  go_loopw [8, 5] (fun i _ wr => (∃ k : Nat, k ≤ L.length ∧ i = .int .i64 (k : Int) ∧ Hid (∀ j (hj : j < L.length), j < k → L[j] ≠ f)) ∧ wr = w) (fun i _ _ => L.length - (intOf i).toNat)
  case atStart => exact ⟨⟨0, by omega, rfl, fun j _ hj => by omega⟩, rfl⟩
  case round =>
    obtain ⟨⟨k, hk, rfl, HK⟩, hw⟩ := hrel
    rw [hw]; clear hw
    by_cases hlt : k < L.length
    · have d1 := HC.out k hlt
      have hkI : (k : Int) < (L.length : Int) := by omega
      by_cases hx : L[k] = f
      · have HE : Hid (decide ((0 : Int) ≤ (k : Int)) = hasB L f) := by
          show _ = _
          unfold hasB
          rw [List.any_eq_true.2 ⟨L[k], List.getElem_mem hlt, by simpa using hx⟩]
          simp
        rw [hx] at d1
        clear hx
        go_wp2_with fail
        go_ret
        exact ⟨⟨_, rfl, HE.out⟩, rfl⟩
      · have HX := Lib.hid hx
        obtain ⟨hx1, hx2⟩ := tl_ne hx
        obtain ⟨x, hxe⟩ : ∃ x, L[k] = x := ⟨_, rfl⟩
        rw [hxe] at d1 hx hx1 hx2
        clear hxe
        go_wp2_with fail
        go_roundw
        case rel =>
          refine ⟨⟨k + 1, by omega, by go_num, fun j hj hjk => ?_⟩, trivial⟩
          by_cases e : j = k
          · subst e; exact HX.out
          · exact HK.out j hj (by omega)
        case measure => simp [intOf]; omega
    · have HE : Hid (decide ((0 : Int) ≤ -1) = hasB L f) := by
        show _ = _
        have : hasB L f = false := by
          unfold hasB
          rw [List.any_eq_false]
          intro x hx
          obtain ⟨j, hj, rfl⟩ := List.mem_iff_getElem.1 hx
          simpa using HK.out j hj (by omega)
        rw [this]; simp
      go_wp2_with fail
      go_ret
      exact ⟨⟨_, rfl, HE.out⟩, rfl⟩
theorem containsStr_any (L : List ByteArray) (f : ByteArray) (g cap : Nat) (w : World) (hcap : L.length ≤ cap) (hcm : cap ≤ maxLen) (hl : L.length ≤ 1000) (hc : ∀ j (hj : j < L.length), w.cell? ⟨g, j, none⟩ = some (.string L[j])) :
    Calls Tryd.prog 117 #[.slice (some ⟨g, 0, none⟩) L.length cap, .string f] w fun e w' => e = .returned (.bool (hasB L f)) ∧ w' = w := by
  have HI := Lib.hid (indexStr_any (.slice none 0 0) L f g cap w hcap hcm hl hc)
  clear hc
  generalize hasB L f = r at *
  go_enter Tryd.func117, Tryd.ntmps117
  go_wp2_with fail
  refine HI.out.mono ?_; rintro e w1 ⟨⟨z, rfl, hz⟩, hw⟩; rw [hw]; clear hw
  have HZ := Lib.hid hz; clear hz
  go_wp2_with fail
  go_ret
  exact ⟨ret_bool HZ.out, rfl⟩
/-- A list of texts that a call has built. -/
def ListS (L : List ByteArray) (w : World) (e : Ending) (w' : World) : Prop := ∃ v, e = .returned v ∧ Strs w w' v L
theorem withoutEqual_any (L : List ByteArray) (g cap : Nat) (w : World) (hcap : L.length ≤ cap) (hcm : cap ≤ maxLen) (hl : L.length ≤ 1000) (hg : g < w.heap.size) (hc : ∀ j (hj : j < L.length), w.cell? ⟨g, j, none⟩ = some (.string L[j])) :
    Calls Tryd.prog 101 #[.slice (some ⟨g, 0, none⟩) L.length cap] w (ListS (uniqL L) w) := by
  have HC := Lib.hid hc
  have hcm2 := hcm
  unfold maxLen at hcm2
  have HP0 : Hid (Strs w (w.alloc (.cells #[] 9)) (.slice (some ⟨w.heap.size, 0, none⟩) 0 0) (uniqL (L.take 0))) := Strs.lit0 w
  clear hc
  go_enter Tryd.func101, Tryd.ntmps101
  go_wp2_with fail
  go_loopw [9, 3, 5] (fun q o _ wr => ∃ k : Nat, k ≤ L.length ∧ q = .int .i64 (k : Int) ∧ Hid (Strs w wr o (uniqL (L.take k)))) (fun q _ _ _ => L.length - (intOf q).toNat)
  case atStart => exact ⟨0, by omega, rfl, HP0⟩
  case round =>
    clear HP0
    obtain ⟨k, hk, rfl, HP⟩ := hrel
    by_cases hlt : k < L.length
    · have hkI : (k : Int) < (L.length : Int) := by omega
      have d1 := (HP.out.old.cell (p := ⟨g, k, none⟩) hg).trans (HC.out k hlt)
      have HU : Hid (uniqL (L.take (k + 1)) = addU (uniqL (L.take k)) L[k]) := by show _ = _; rw [List.take_succ_eq_append_getElem hlt, uniqL_snoc]
      have HLN : Hid ((uniqL (L.take k)).length ≤ 1000) := by
        have := (uniqL_facts (L.take k)).2.1
        rw [List.length_take] at this
        show _ ≤ _
        omega
      generalize uniqL (L.take k) = U at *
      obtain ⟨x, hxe⟩ : ∃ x, L[k] = x := ⟨_, rfl⟩
      rw [hxe] at d1 HU
      clear hxe
      obtain ⟨ug, uc, rfl, m1, m2, m3, m4, m5⟩ := HP.out.cells
      have HCT := Lib.hid (containsStr_any U x ug uc wr m3 m4 HLN.out m5)
      have HUA : Hid (addU U x = if hasB U x = true then U else U ++ [x]) := rfl
      generalize hasB U x = r at *
      clear m5
      unfold maxLen at m4
      go_wp2_with fail
      refine HCT.out.mono ?_; rintro e w1 ⟨rfl, hw1⟩; rw [hw1]; clear hw1
      cases r
      · have HUB : Hid (uniqL (L.take (k + 1)) = U ++ [x]) := by show _ = _; rw [HU.out, HUA.out, if_neg (by decide)]
        have HL2 : Hid (U.length ≤ 2000000) := by have := HLN.out; show _ ≤ _; omega
        go_wp2_with (first | (at_builtin; refine wpList_app1 HP.out HL2.out rfl (.tmp 17) (.tmp 19) rfl x _ rfl rfl rfl ?_; intro v' w' ho; have HP9 := Lib.hid ho; clear ho) | fail)
        go_roundw
        case rel => exact ⟨k + 1, by omega, by go_num, by rw [HUB.out]; exact HP9⟩
        case measure => simp [intOf]; omega
      · have HUB : Hid (uniqL (L.take (k + 1)) = U) := by show _ = _; rw [HU.out, HUA.out, if_pos rfl]
        go_wp2_with fail
        go_roundw
        case rel => exact ⟨k + 1, by omega, by go_num, by rw [HUB.out]; exact HP⟩
        case measure => simp [intOf]; omega
    · obtain rfl : k = L.length := by omega
      have HF : Hid (ListS (uniqL L) w (.returned u3) wr) := ⟨u3, rfl, by have := HP.out; rw [List.take_length] at this; exact this⟩
      go_wp2_with fail
      go_ret
      exact HF.out
/-- All numbers of a slice are appended to one of the call's own. -/
theorem wpList_ownIAll {ops : Array Oper} {rest : List Oper} {o : Oper} {a : Act} {Q : Exit → Act → World → Prop} {B : Nat} {w : World} {v u : Value} {L M : List Int}
    (hown : OwnI B w v L) (hM : IntsAt w u M) (h0 : 0 < M.length) (hL : L.length + M.length ≤ 2000000) (hgd : o.guard = none) (s x : Operand)
    (ho : o.op = .call { callee := .builtin .append, args := #[s, x], argTypes := #[28, 28] })
    (hs : a.eval s = v) (hx : a.eval x = u)
    (h : ∀ v' w', OwnI B w' v' (L ++ M) → w.grownBy w' v.ownBlock → wpList Tryd.prog ops Q rest (a.put o.dst v') w') :
    wpList Tryd.prog ops Q (o :: rest) a w := by
  obtain ⟨i, hi, hz, h1, h2⟩ := info_parts natInfo3
  obtain ⟨aa, cap, rfl, m1, m2, m3⟩ := hM.view
  obtain ⟨g, oo, rfl, mg, mc⟩ := m3 h0
  refine wpList_append_own _ hgd s x 28 ho B 3 i (.int .i64 0) 1 8 Tryd.underlying28 hi hz h1 h2 rfl (by decide) v L.length _ hs hown.own ⟨g, oo, none⟩ M.length cap (M.map (Value.int .i64)) hx (by simp) ?_ ?_ ?_ ?_ hown.low ?_
  · intro j y hj
    have hj' : j < M.length := by
      have := (List.getElem?_eq_some_iff.1 hj).1
      simpa using this
    have e : (⟨g, oo, none⟩ : Addr).add j = ⟨g, oo + j, none⟩ := by
      unfold Addr.add
      split <;> simp_all
    rw [e, mc j hj']
    simpa [hj'] using hj
  · intro y hy
    obtain ⟨n, _, rfl⟩ := List.mem_map.1 hy
    rfl
  · unfold maxLen; omega
  · omega
  · intro v' w' h2 h3 h4
    refine h v' w' ⟨?_, ?_, ?_⟩ h3
    · simpa using h2
    · intro e
      exact hown.ne (h4.1 e).1
    · have := h3.size
      have := hown.low
      omega
theorem put_end {L : List Int} {i : Nat} {x : Int} {w w' : World} {v' : Value} (ho : OwnI w.heap.size w' v' ([] ++ L)) (hg : (w.alloc (.cells #[] 3)).grownBy w' (Value.slice (some ⟨w.heap.size, 0, none⟩) 0 0).ownBlock) (hi : i < L.length) :
    ∃ g q, v' = .slice (some ⟨g, 0, none⟩) L.length q ∧ w'.cell? ⟨g, i, none⟩ = some (.int .i64 (L.getD i 0)) ∧ w'.frozen? ⟨g, i, none⟩ = false ∧ Hid (ListI (L.set i x) w (.returned (.slice (some ⟨g, 0, none⟩) L.length q)) (w'.setCell ⟨g, i, none⟩ (.int .i64 x))) := by
  rw [List.nil_append] at ho
  obtain ⟨g, q, rfl, k1, k2, k3, k4, k5⟩ := ho.cells
  have hb : Below w.heap.size w w' := ((Below.refl _ _).alloc (Nat.le_refl _) _).grown hg (by simp) (fun k hk => by
    have : w.heap.size = k := by simpa [Value.ownBlock] using hk
    omega)
  refine ⟨g, q, rfl, k5 i hi, ho.frozen rfl i, _, rfl, ho.setI rfl i x, hb.setCell k1 _⟩
theorem put_any (L : List Int) (i : Nat) (x : Int) (v : Value) (w : World) (hv : IntsAt w v L) (hi : i < L.length) (hl : L.length ≤ 1000) :
    Calls Tryd.prog 98 #[v, .int .i64 (i : Int), .int .i64 x] w (ListI (L.set i x) w) := by
  have HV := Lib.hid (hv.below ((Below.refl w.heap.size w).alloc (Nat.le_refl _) (.cells #[] 3)))
  have HP0 : Hid (OwnI w.heap.size (w.alloc (.cells #[] 3)) (.slice (some ⟨w.heap.size, 0, none⟩) 0 0) []) := OwnI.lit0 _ _ (Nat.le_refl _)
  have HLL : Hid (([] : List Int).length + L.length ≤ 2000000) := by show _ ≤ _; simp; omega
  obtain ⟨aa, cap, rfl, m1, m2, m3⟩ := hv.view
  unfold maxLen at m2
  clear m3 hv
  have h0 : 0 < L.length := by omega
  have hiI : (i : Int) < (L.length : Int) := by omega
  go_enter Tryd.func98, Tryd.ntmps98
  go_wp2_with (first | (at_builtin; refine wpList_ownIAll HP0.out HV.out h0 HLL.out rfl (.tmp 8) (.tmp 9) rfl rfl rfl ?_; intro v' w' ho hg; obtain ⟨g, q, rfl, k1, k2, HF⟩ := put_end (x := x) ho hg hi; clear ho hg) | fail)
  go_ret
  exact HF.out
/-- A talk in memory: the game, and what is won after each number of turns. -/
structure Talk (w : World) (tp p n : Nat) (S R : ByteArray) (m : Nat) (S2 R2 : ByteArray) (k cnt : Nat) : Prop where
  g : ∃ fv wv, PebG w p n S R m S2 R2 k fv wv
  t : ∃ wg cap, w.heap[tp]? = some (.cells #[.pointer (some ⟨p, 0, none⟩), .slice (some ⟨wg, 0, none⟩) cnt cap] 75 (0, 0)) ∧ cnt ≤ cap ∧ cap ≤ maxLen ∧ wg < w.heap.size ∧
    ∀ t, t < cnt → ∃ sv, w.cell? ⟨wg, t, none⟩ = some sv ∧ BoolsAt w sv (lev n m k (fitL (stOf n S R) (stOf m S2 R2) n m k) t)
theorem Talk.below {w w' : World} {tp p n m k cnt : Nat} {S R S2 R2 : ByteArray} (h : Talk w tp p n S R m S2 R2 k cnt) (hb : Below w.heap.size w w') : Talk w' tp p n S R m S2 R2 k cnt := by
  obtain ⟨⟨fv, wv, h1⟩, wg, cap, h2, h3, h4, h5, h6⟩ := h
  refine ⟨⟨fv, wv, h1.below hb⟩, wg, cap, (hb.block _ (Array.getElem?_eq_some_iff.1 h2).1).trans h2, h3, h4, Nat.lt_of_lt_of_le h5 hb.size, fun t ht => ?_⟩
  obtain ⟨sv, h7, h8⟩ := h6 t ht
  exact ⟨sv, (hb.cell (p := ⟨wg, t, none⟩) h5).trans h7, h8.below hb⟩
theorem Talk.lt {w : World} {tp p n m k cnt : Nat} {S R S2 R2 : ByteArray} (h : Talk w tp p n S R m S2 R2 k cnt) : tp < w.heap.size := by
  obtain ⟨_, wg, cap, h2, _⟩ := h
  exact (Array.getElem?_eq_some_iff.1 h2).1
theorem won_core (tp p n m k cnt t : Nat) (S R S2 R2 : ByteArray) (L M : List Int) (v u : Value) (w : World) (hT : Talk w tp p n S R m S2 R2 k cnt) (hv : IntsAt w v L) (hu : IntsAt w u M) (hr : Rdy n m L M) (hk : L.length = k) (hk3 : k ≤ 3) (hn : n ≤ 8) (hm : m ≤ 8) (hm0 : 0 < m) (ht : t < cnt) (tu : Bool) :
    Calls Tryd.prog 73 #[.pointer (some ⟨tp, 0, none⟩), if tu then u else v, if tu then v else u, .int .i64 (t : Int), .bool tu] w fun e w' => e = .returned (.bool (pwB (stOf n S R) (stOf m S2 R2) n m t L M)) ∧ Below w.heap.size w w' := by
  have htp := hT.lt
  obtain ⟨⟨fv, wv, hG⟩, wg, cap, h2, h3, h4, h5, h6⟩ := hT
  obtain ⟨sv, h7, sg, scap, rfl, s1, s2, s3, s4⟩ := h6 t ht
  have hll := lev_len n m k (fitL (stOf n S R) (stOf m S2 R2) n m k) t
  rw [fitL_len] at hll
  have hst := stP_lt hr
  rw [hk, ← hll] at hst
  have hsc := s4 _ hst
  have hlev := lev_at (a := stOf n S R) (b := stOf m S2 R2) hm0 t hr
  rw [hk] at hlev
  rw [hlev] at hsc
  have hP65 := pairs_le hn hm
  have hpow := pow_le hP65 hk3
  rw [← hll] at hpow
  have j1 := fun (sc : Since w) => stateOf_any p n m k S R S2 R2 fv wv v u L M sc.w (hG.below sc.below) (hv.below sc.below) (hu.below sc.below) hr hk hk3 hn hm
  have t0 : w.cell? ⟨tp, 0, none⟩ = some (.pointer (some ⟨p, 0, none⟩)) := by unfold World.cell?; rw [h2]; rfl
  have t1 : w.cell? ⟨tp, 1, none⟩ = some (.slice (some ⟨wg, 0, none⟩) cnt cap) := by unfold World.cell?; rw [h2]; rfl
  generalize stP (n * m + 1) m L M = st at *
  generalize (lev n m k (fitL (stOf n S R) (stOf m S2 R2) n m k) t).length = len at *
  generalize pwB (stOf n S R) (stOf m S2 R2) n m t L M = RES at *
  have J1 := Lib.hid j1
  have f0 := fun s => Since.cell t0 s
  have f1 := fun s => Since.cell t1 s
  have f2 := fun s => Since.cell h7 s
  have f3 := fun s => Since.cell hsc s
  have hstI : (st : Int) < (len : Int) := by omega
  have htI : (t : Int) < (cnt : Int) := by omega
  unfold maxLen at h4 s2
  clear j1 hG h6 s4 hv hu hr hlev h2 hll
  cases tu
  all_goals
    simp only [if_true, if_false, Bool.false_eq_true]
    go_enter Tryd.func73, Tryd.ntmps73
    go_wp2_with fail
    refine wp_region_since (by kernel_rfl) (by kernel_rfl) ?_
    repeat (go_big_quiet_step ((with_reducible exact Since.call (J1.out _))))
    refine wpQuiet_nil ?_
    intro w9 hb9
    have HO := Lib.hid hb9
    clear hb9 f0 f1 f2 f3
    go_wp2_with fail
    go_ret
    exact ⟨rfl, HO.out⟩
end Go.Proofs.YtnhlhjehocngcaaDoor

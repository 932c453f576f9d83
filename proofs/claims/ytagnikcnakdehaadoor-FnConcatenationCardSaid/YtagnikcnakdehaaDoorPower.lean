/- The program's PowerStops. Conditions: a text's length fits an integer. -/
import Derived.Test.YtagnikcnakdehaaDoorSameW2
import Derived.Test.YtagnikcnakdehaaDoorStrs
namespace Go.Proofs.YtagnikcnakdehaaDoor
open Go.RowKit
set_option linter.unusedVariables false

theorem rep_snoc (s : ByteArray) : ∀ n, rep s n ++ s = rep s (n + 1)
  | 0 => by show ByteArray.empty ++ s = s ++ ByteArray.empty; rw [nil_ba, ba_nil]
  | n + 1 => by
    show (s ++ rep s n) ++ s = s ++ (s ++ rep s n)
    rw [ba_assoc, rep_snoc s n]
    rfl
/-- How far the powers are told apart. -/
def stopN (f : Nat → Bool) : Nat → Nat
  | 0 => 0
  | n + 1 => if f n then stopN f n else n + 1
theorem stopN_le (f : Nat → Bool) : ∀ n, stopN f n ≤ n
  | 0 => Nat.le_refl _
  | n + 1 => by unfold stopN; split; (have := stopN_le f n; omega); exact Nat.le_refl _
/-- Whether a power is not told apart from the next one. -/
def adjB (s : ByteArray) (k n : Nat) : Bool := Gs.wins k (wSt (rep s (n + 1))) [] (wSt (rep s (n + 2))) []
/-- What PowerStops returns. -/
def powRes (s : ByteArray) (K : Int) : Int :=
  if wordB s && inB K 0 2 then (if 8 / s.size - 1 - stopN (adjB s K.toNat) (8 / s.size - 1) < 1 then -1 else (stopN (adjB s K.toNat) (8 / s.size - 1) : Int) + 1) else -2
/-- The first powers of a word. -/
def pows (s : ByteArray) (m : Nat) : List ByteArray := (List.range m).map fun j => rep s (j + 1)
theorem pows_succ (s : ByteArray) (m : Nat) : pows s (m + 1) = pows s m ++ [rep s (m + 1)] := by simp [pows, List.range_succ]
theorem pows_length (s : ByteArray) (m : Nat) : (pows s m).length = m := by simp [pows]
theorem pows_at (s : ByteArray) (m j : Nat) (h : j < (pows s m).length) : (pows s m)[j] = rep s (j + 1) := by simp [pows]
def txtLen : Value → Nat
  | .string b => b.size
  | _ => 0
theorem wins_iff0 {k : Nat} {a b : Gs.St} : Gs.wins k a [] b [] = true ↔ Gs.Eqv k a [] b [] := Gs.wins_iff rfl
theorem wins_same {k : Nat} {a b c : Gs.St} (h : Gs.Eqv k b [] c []) : Gs.wins k a [] c [] = Gs.wins k a [] b [] := by
  rw [Bool.eq_iff_iff, wins_iff0, wins_iff0]
  exact ⟨fun h1 => h1.trans h.symm, fun h1 => h1.trans h⟩
theorem div_is {n m : Nat} (hn : 1 ≤ n) (h1 : m * n ≤ 8) (h2 : 8 < (m + 1) * n) : 8 / n = m := by
  have := Nat.div_lt_iff_lt_mul (x := 8) (y := m + 1) (k := n) (by omega)
  have h3 := this.2 h2
  have h4 := (Nat.le_div_iff_mul_le (x := m) (y := 8) (k := n) (by omega)).2 h1
  omega
theorem ret_i64 {a b : Int} (h : a = b) : Ending.returned (.int .i64 a) = .returned (.int .i64 b) := by rw [h]
/-- What a call leaves that returns a number and turns nothing that was there. -/
def IntB (w : World) (n : Int) (e : Ending) (w' : World) : Prop := e = .returned (.int .i64 n) ∧ Below w.heap.size w w'

set_option maxRecDepth 100000 in
set_option maxHeartbeats 1000000 in
theorem implPower_yes (s : ByteArray) (k : Nat) (w : World) (hs : wordB s = true) (hk : k ≤ 2) : Calls Tryd.prog 18 #[.string s, .int .i64 (k : Int)] w (IntB w (powRes s k)) := by
  obtain ⟨s1, s8⟩ := wordSt_valid hs
  have HI := Lib.hid (fun w => isWord_any s w (by omega))
  rw [hs] at HI
  have HR : Hid (powRes s k = (if 8 / s.size - 1 - stopN (adjB s k) (8 / s.size - 1) < 1 then -1 else (stopN (adjB s k) (8 / s.size - 1) : Int) + 1)) := by
    show _ = _
    unfold powRes
    rw [hs, inB_true (by omega) (by omega), Int.toNat_natCast]
    rfl
  obtain ⟨RES, hres⟩ : ∃ p, powRes s k = p := ⟨_, rfl⟩
  rw [hres] at HR ⊢
  clear hs hres
  go_enter Tryd.func18, Tryd.ntmps18
  go_wp2_with fail
  refine (HI.out _).mono ?_; rintro e w1 ⟨rfl, hb⟩
  have HB1 := Lib.hid hb; clear hb
  go_wp2_with fail
  have HS0 := Lib.hid (Strs.lit0 w1)
  go_loopw [5, 6] (fun v p wr => ∃ (i : Nat) (P : ByteArray), p = .string P ∧ P.size ≤ 16 ∧ Hid (P = rep s (i + 1)) ∧ Hid (i * s.size ≤ 8) ∧ Hid (Strs w1 wr v (pows s i))) (fun _ p _ => 100 - txtLen p)
  case atStart =>
    refine ⟨0, s, rfl, by omega, ?_, ?_, HS0.out⟩
    · show s = s ++ ByteArray.empty
      rw [ba_nil]
    · show 0 * s.size ≤ 8
      omega
  case round =>
    obtain ⟨i, P, rfl, hP, HP, HI8, HST⟩ := hrel
    by_cases hlt : (P.size : Int) ≤ 8
    · have HL : Hid ((pows s i).length ≤ 2000000) := by
        show _ ≤ _
        rw [pows_length]
        have h1 := HI8.out
        have h2 : i * 1 ≤ i * s.size := Nat.mul_le_mul_left _ s1
        omega
      have HN : Hid (P ++ s = rep s (i + 1 + 1)) := by show _ = _; rw [HP.out, rep_snoc]
      have HI9 : Hid ((i + 1) * s.size ≤ 8) := by
        show _ ≤ _
        have h1 := congrArg ByteArray.size HP.out
        rw [rep_size] at h1
        omega
      go_wp2_with (first | (at_builtin; refine wpList_app1 HST.out HL.out rfl (.tmp 28) (.tmp 30) rfl _ _ rfl rfl rfl ?_; intro v' w' hs'; have HS' := Lib.hid hs'; clear hs') | fail)
      go_roundw
      case rel =>
        refine ⟨i + 1, P ++ s, rfl, ?_, HN.out, HI9.out, ?_⟩
        · rw [ByteArray.size_append]; omega
        · have h := HS'.out
          rw [HP.out] at h
          show Strs w1 w' v' (pows s (i + 1))
          rw [pows_succ]; exact h
      case measure => simp [txtLen]; omega
    · have HM : Hid (8 / s.size = i) := div_is s1 HI8.out (by
        have h1 := congrArg ByteArray.size HP.out
        rw [rep_size] at h1
        omega)
      obtain ⟨g, cap, rfl, hg1, hg2, hc1, hc2, hcell⟩ := HST.out.cells
      have hi1 : 1 ≤ i := by
        have h1 : 1 ≤ 8 / s.size := (Nat.le_div_iff_mul_le (by omega)).2 (by omega)
        have := HM.out
        omega
      have hi8 : i ≤ 8 := by
        have h1 := HI8.out
        have h2 : i * 1 ≤ i * s.size := Nat.mul_le_mul_left _ s1
        omega
      obtain ⟨l, rfl⟩ : ∃ l, i = l + 1 := ⟨i - 1, by omega⟩
      have HCL : Hid (∀ j, j ≤ l → wr.cell? ⟨g, j, none⟩ = some (.string (rep s (j + 1)))) := fun j hj => by
        have h1 : j < (pows s (l + 1)).length := by rw [pows_length]; omega
        rw [hcell j h1, pows_at]
      have HZ : Hid (∀ j, j ≤ l → (rep s (j + 1)).size ≤ 8) := fun j hj => by
        have h1 := HI8.out
        have h2 : (j + 1) * s.size ≤ (l + 1) * s.size := Nat.mul_le_mul_right _ (by omega)
        rw [rep_size]; omega
      have HOW : Hid (Below w.heap.size w wr) := HB1.out.trans (HST.out.old.mono HB1.out.size)
      unfold maxLen at hc2
      rw [pows_length] at hc1 ⊢
      obtain ⟨wo, rfl⟩ : ∃ wo : World, wo = wr := ⟨_, rfl⟩
      clear hcell HST HP
      have HMR : Hid (RES = (if l - stopN (adjB s k) l < 1 then -1 else (stopN (adjB s k) l : Int) + 1)) := by
        show _ = _
        rw [HR.out, HM.out, Nat.add_sub_cancel]
      obtain ⟨st, hst⟩ : ∃ st, stopN (adjB s k) l = st := ⟨_, rfl⟩
      rw [hst] at HMR
      have HSL : Hid (st ≤ l) := by rw [← hst]; exact stopN_le _ _
      have HST := Lib.hid hst
      clear hst
      go_wp2_with fail
      go_loopw [8] (fun i wr => ∃ n : Nat, n ≤ l ∧ i = .int .i64 n ∧ Hid (stopN (adjB s k) n = st) ∧ Hid (Gs.Eqv k (wSt (rep s (n + 1))) [] (wSt (rep s (l + 1))) []) ∧ Hid (Below wo.heap.size wo wr)) (fun i _ => (intOf i).toNat)
      case atStart => exact ⟨l, by omega, rfl, HST.out, Gs.Eqv.refl _ _ _, Below.refl _ _⟩
      case round =>
        obtain ⟨n, hn, rfl, HN, HE, HBW⟩ := hrel
        rcases n with _ | n
        · have hst0 : st = 0 := HN.out.symm
          subst hst0
          have hlI : IntKind.i64.wrap ((l : Int) - 0) = (l : Int) := by rw [Int.sub_zero]; exact IntWalk.i64_in _ (by omega)
          have HF : Hid (RES = if l < 1 then -1 else 1) := by show _ = _; rw [HMR.out]; rfl
          go_wp2_with fail
          refine wp_region_since (by kernel_rfl) (by kernel_rfl) ?_
          repeat (go_big_quiet_step (fail))
          refine wpQuiet_nil ?_
          intro w2 hb2
          have HB2 : Hid (Below w.heap.size w w2) := HOW.out.trans ((HBW.out.trans (hb2.mono HBW.out.size)).mono HOW.out.size)
          clear hb2
          by_cases hl1 : l < 1
          · have hl0 : (l : Int) < 1 := by omega
            have HF2 : Hid (-1 = RES) := by show _ = _; rw [HF.out, if_pos hl1]
            go_wp2_with fail
            go_ret
            exact ⟨ret_i64 HF2.out, HB2.out⟩
          · have hl0 : ¬ (l : Int) < 1 := by omega
            have HF2 : Hid (1 = RES) := by show _ = _; rw [HF.out, if_neg hl1]
            go_wp2_with fail
            go_ret
            exact ⟨ret_i64 HF2.out, HB2.out⟩
        · have d1 := (HBW.out.cell (p := ⟨g, n, none⟩) hg2).trans (HCL.out n (by omega))
          have d2 := (HBW.out.cell (p := ⟨g, l, none⟩) hg2).trans (HCL.out l (by omega))
          have HW := Lib.hid (fun w => sameWords_any (rep s (n + 1)) (rep s (l + 1)) k w (HZ.out n (by omega)) (HZ.out l (by omega)) (by omega))
          have HADJ : Hid (Gs.wins k (wSt (rep s (n + 1))) [] (wSt (rep s (l + 1))) [] = adjB s k n) := wins_same HE.out
          have hn1 : IntKind.i64.wrap ((n : Int) + 1 - 1) = (n : Int) := by
            rw [show (n : Int) + 1 - 1 = (n : Int) by omega]; exact IntWalk.i64_in _ (by omega)
          have HN1 : Hid ((if adjB s k n then stopN (adjB s k) n else n + 1) = st) := HN.out
          obtain ⟨b, hb⟩ : ∃ b, Gs.wins k (wSt (rep s (n + 1))) [] (wSt (rep s (l + 1))) [] = b := ⟨_, rfl⟩
          rw [hb] at HW HADJ
          rw [← HADJ.out] at HN1
          have HBE : Hid (b = true → Gs.Eqv k (wSt (rep s (n + 1))) [] (wSt (rep s (l + 1))) []) := fun e => wins_iff0.1 (hb.trans e)
          clear hb
          have hnI : (0 : Int) ≤ (n : Int) := by omega
          have hlI0 : (0 : Int) ≤ (l : Int) := by omega
          cases b
          · have hst0 : n + 1 = st := by simpa using HN1.out
            subst hst0
            go_wp2_with fail
            have f1 := fun x => Since.cell d1 x
            have f2 := fun x => Since.cell d2 x
            refine wp_region_since (by kernel_rfl) (by kernel_rfl) ?_
            repeat (go_big_quiet_step ((with_reducible exact Since.call (HW.out _))))
            refine wpQuiet_nil ?_
            intro w2 hb2
            have HB2 : Hid (Below w.heap.size w w2) := HOW.out.trans ((HBW.out.trans (hb2.mono HBW.out.size)).mono HOW.out.size)
            clear hb2 f1 f2
            have hlI : IntKind.i64.wrap ((l : Int) - ((n : Int) + 1)) = ((l - (n + 1) : Nat) : Int) := by
              rw [show (l : Int) - ((n : Int) + 1) = ((l - (n + 1) : Nat) : Int) by omega]; exact IntWalk.i64_in _ (by omega)
            by_cases hl1 : l - (n + 1) < 1
            · have hl0 : ((l : Int) - ((n : Int) + 1)) < 1 := by omega
              have HF2 : Hid (-1 = RES) := by show _ = _; rw [HMR.out, if_pos hl1]
              go_wp2_with fail
              go_ret
              exact ⟨ret_i64 HF2.out, HB2.out⟩
            · have hl0 : ¬ ((l : Int) - ((n : Int) + 1)) < 1 := by omega
              have HF2 : Hid ((n : Int) + 1 + 1 = RES) := by show _ = _; rw [HMR.out, if_neg hl1]; omega
              go_wp2_with fail
              go_ret
              exact ⟨ret_i64 HF2.out, HB2.out⟩
          · have HN2 : Hid (stopN (adjB s k) n = st) := by show _ = _; simpa using HN1.out
            go_wp2_with fail
            have f1 := fun x => Since.cell d1 x
            have f2 := fun x => Since.cell d2 x
            refine wp_region_since (by kernel_rfl) (by kernel_rfl) ?_
            repeat (go_big_quiet_step ((with_reducible exact Since.call (HW.out _))))
            refine wpQuiet_nil ?_
            intro w2 hb2
            have HB2 := Lib.hid (HBW.out.trans (hb2.mono HBW.out.size))
            clear hb2 f1 f2
            go_wp2_with fail
            go_roundw
            case rel => exact ⟨n, by omega, by go_num, HN2.out, HBE.out (by simp), HB2.out⟩
            case measure => simp [intOf] <;> omega
end Go.Proofs.YtagnikcnakdehaaDoor
/- The reference's PowerStops. Conditions: a text's length fits an integer. -/
namespace Go.Proofs.YtagnikcnakdehaaDoor
open Go.RowKit
set_option linter.unusedVariables false

/-- The numbers of a slice are appended, and where the new slice lies: as one step of a region whose order is open. -/
theorem step_ownAt {ops : Array Oper} {o : Oper} {a : Act} {K : Act → World → Prop} {Q : Exit → Act → World → Prop} {E : Prop} {B : Nat} {w : World} {v u : Value} {L M : List Nat}
    (hown : Own B w v L) (hM : NumsAt w u M) (hL : Hid (L.length + M.length ≤ 2000000)) (hgd : o.guard = none) (s x : Operand)
    (ho : o.op = .call { callee := .builtin .append, args := #[s, x], argTypes := #[52, 52] })
    (hs : a.eval s = v) (hx : a.eval x = u)
    (h : ∀ v' w', Own B w' v' (L ++ M) → w.grownBy w' v.ownBlock → (v'.ownBlock = v.ownBlock ∨ v'.ownBlock = some w.heap.size) → K (a.put o.dst v') w') :
    if Region.wanted o (yielded ops a.tmps) = true then Oper.wp Tryd.prog o a w K Q else E := by
  have hw : Region.wanted o (yielded ops a.tmps) = true := by simp [Region.wanted, hgd]
  rw [if_pos hw]
  have hL := hL.out
  obtain ⟨i, hi, hz, h1, h2⟩ := info_parts natInfo3
  rcases hM with ⟨rfl, rfl⟩ | ⟨g, off, cap, rfl, m1, m2, mg, mc⟩
  · have hrun := run_append_owned_none (P := Tryd.prog) w B 52 o.type 3 i 1 Tryd.underlying52 hi v L.length _ hown.own
    unfold Oper.wp
    simp [execOp, ho, resolve, invoke, builtin, hs, hx, hrun, Result.andThen]
    exact h v w (by simpa using hown) (World.grownBy.refl _ _) (.inl rfl)
  · obtain ⟨v', w', hr, e2, e3, e4, e5⟩ := run_append_own_at (P := Tryd.prog) w B 52 o.type 3 i (.int .i64 0) 1 8 Tryd.underlying52 hi hz h1 h2 rfl (by decide) v L.length _ hown.own ⟨g, off, none⟩ M.length cap (M.map fun n : Nat => Value.int .i64 (n : Int)) (by simp) (by
      intro j u hj
      have hj' : j < M.length := by
        have := (List.getElem?_eq_some_iff.1 hj).1
        simpa using this
      have e : (⟨g, off, none⟩ : Addr).add j = ⟨g, off + j, none⟩ := by unfold Addr.add; split <;> simp_all
      rw [e, mc j hj']
      simpa [hj'] using hj) (by
      intro u hu
      obtain ⟨n, _, rfl⟩ := List.mem_map.1 hu
      rfl) (by unfold maxLen; omega) (by omega) hown.low
    unfold Oper.wp execOp
    simp only [ho, resolve, invoke, builtin, Sem.run_bind, Sem.run_pure, Result.andThen_ok, List.map_toArray, List.map_cons, List.map_nil, hs, hx, hr]
    refine h v' w' ⟨?_, ?_, ?_⟩ e3 e5
    · simpa using e2
    · intro e
      exact hown.ne (e4.1 e).1
    · have := e3.size
      have := hown.low
      omega
theorem NumsAt.empty {w : World} {g cap : Nat} (hg : g < w.heap.size) (hc : cap ≤ maxLen) : NumsAt w (.slice (some ⟨g, 0, none⟩) 0 cap) [] :=
  .inr ⟨g, 0, cap, rfl, Nat.zero_le _, hc, hg, fun j hj => absurd hj (by simp)⟩

/-- What the reference's first loop keeps. -/
structure PwInv (w wr : World) (gL gC tv k : Nat) (s : ByteArray) (F : Nat → Prop) (vs : Array Value) (E : List (List UInt8)) (v : Value) (T : List Nat) : Prop where
  tbl : Tbl wr gL gC F vs E
  few : E.length ≤ T.length * 585
  lo : ∀ b, F b → w.heap.size ≤ b
  tvH : wr.heap[tv]? = some (.cells #[.slice (some ⟨gL, 0, none⟩) 997 997, .slice (some ⟨gC, 0, none⟩) 1 1] 80 (0, 0))
  tvF : ¬ F tv
  own : Own w.heap.size wr v T
  apart : ∀ j, v.ownBlock = some j → ¬ F j
  old : Below w.heap.size w wr
  types : ∀ j, j < T.length → Gs.TypeNum E (wSt (rep s (j + 1))) k [] (T.getD j 0)
theorem PwInv.step {w wr w2 w3 w4 : World} {gL gC tv k : Nat} {s : ByteArray} {F F2 : Nat → Prop} {vs vs2 : Array Value} {E E2 : List (List UInt8)} {v v' : Value} {T : List Nat} {num : Nat} {o : Obj}
    (h : PwInv w wr gL gC tv k s F vs E v T) (hb : Below wr.heap.size wr w2) (ht : Tbl w3 gL gC F2 vs2 (E ++ E2)) (hE : E2.length ≤ 585) (hn : Gs.TypeNum (E ++ E2) (wSt (rep s (T.length + 1))) k [] num)
    (hoff : Off F w2 w3) (hF2 : ∀ b, F2 b → F b ∨ w2.heap.size ≤ b) (hown : Own w.heap.size w4 v' (T ++ [num])) (hg : (w3.alloc o).grownBy w4 v.ownBlock) (hat : v'.ownBlock = v.ownBlock ∨ v'.ownBlock = some (w3.alloc o).heap.size) :
    PwInv w w4 gL gC tv k s F2 vs2 (E ++ E2) v' (T ++ [num]) := by
  obtain ⟨j, hj1, hj2, hj3⟩ := h.own.block
  have hs2 := hb.size
  have hs3 := hoff.size
  have hsw := h.old.size
  have htl : tv < wr.heap.size := (Array.getElem?_eq_some_iff.1 h.tvH).1
  have hjF2 : ¬ F2 j := fun e => (hF2 j e).elim (h.apart j hj1) (by omega)
  have hao : (w3.alloc o).heap.size = w3.heap.size + 1 := by simp
  have hoff4 : Off (fun b => v.ownBlock = some b) w3 w4 := by
    have h1 : Off (fun b => v.ownBlock = some b) w3 (w3.alloc o) := Off.of_below ((Below.refl _ _).alloc (Nat.le_refl _) _)
    exact h1.trans (Off.grown hg (fun b e => e)) (fun b e => .inl e)
  have hlo2 : ∀ b, F2 b → w.heap.size ≤ b := fun b hb2 => (hF2 b hb2).elim (h.lo b) (by omega)
  have htj : tv ≠ j := by
    rintro rfl
    rcases h.own.own.2 with ⟨h1, _⟩ | ⟨g, cap, cur, h1, _, h2, _⟩
    · exact h.own.ne h1
    · rw [h1] at hj1
      obtain rfl : g = tv := Option.some.inj hj1
      rw [h.tvH] at h2
      injection h2 with h2
      injection h2 with h3 h4 h5
      exact absurd h4 (by decide)
  refine ⟨?_, ?_, hlo2, ?_, ?_, hown, ?_, ?_, ?_⟩
  · refine ht.off hoff4 fun b hb2 e => ?_
    rw [hj1] at e
    obtain rfl := Option.some.inj e
    exact hjF2 hb2
  · rw [List.length_append, List.length_append, List.length_singleton, Nat.add_mul]
    have := h.few
    omega
  · rw [hoff4.block tv (by omega) (fun e => htj (by rw [hj1] at e; exact (Option.some.inj e).symm)), hoff.block tv (by omega) h.tvF, hb.block tv htl]
    exact h.tvH
  · intro e
    exact (hF2 tv e).elim h.tvF (by omega)
  · intro i hi e
    rcases hat with h1 | h1
    · rw [h1, hj1] at hi
      obtain rfl := Option.some.inj hi
      exact hjF2 e
    · rw [h1] at hi
      obtain rfl := Option.some.inj hi
      have := ht.lt _ e
      omega
  · have o1 : Below w.heap.size w w2 := h.old.trans (hb.mono hsw)
    have o2 : Below w.heap.size w2 w3 := hoff.below (by omega) h.lo
    have o3 : Below w.heap.size w3 w4 := hoff4.below (by omega) (fun b e => by rw [hj1] at e; obtain rfl := Option.some.inj e; exact hj2)
    exact (o1.trans o2).trans o3
  · intro i hi
    rw [List.length_append, List.length_singleton] at hi
    by_cases hi2 : i < T.length
    · have := h.types i hi2
      have e : (T ++ [num]).getD i 0 = T.getD i 0 := by simp [List.getElem?_append_left hi2]
      rw [e]; exact this.more
    · have e1 : i = T.length := by omega
      subst e1
      simpa using hn
theorem alloc_lt (w : World) (o : Obj) : w.heap.size < (w.alloc o).heap.size := by simp
theorem heap_keep {w : World} {b : Nat} {x : Obj} (h : w.heap[b]? = some x) (o : Obj) : (w.alloc o).heap[b]? = some x :=
  (Below.heap_alloc w o b (Array.getElem?_eq_some_iff.1 h).1).trans h
theorem heap_below {w w' : World} {b : Nat} {x : Obj} (h : w.heap[b]? = some x) (hb : Below w.heap.size w w') : w'.heap[b]? = some x :=
  (hb.block b (Array.getElem?_eq_some_iff.1 h).1).trans h
theorem heap_off {F : Nat → Prop} {w w' : World} {b : Nat} {x : Obj} (h : w.heap[b]? = some x) (hb : Off F w w') (hF : ¬ F b) : w'.heap[b]? = some x :=
  (hb.block b (Array.getElem?_eq_some_iff.1 h).1 hF).trans h

set_option maxRecDepth 100000 in
set_option maxHeartbeats 1000000 in
theorem specPower_yes (s : ByteArray) (k : Nat) (w : World) (hs : wordB s = true) (hk : k ≤ 2) : Calls Tryd.prog 19 #[.string s, .int .i64 (k : Int)] w (IntB w (powRes s k)) := by
  obtain ⟨s1, s8⟩ := wordSt_valid hs
  have HI := Lib.hid (fun w => specWordValid_any s w (by omega))
  rw [hs] at HI
  have HR : Hid (powRes s k = (if 8 / s.size - 1 - stopN (adjB s k) (8 / s.size - 1) < 1 then -1 else (stopN (adjB s k) (8 / s.size - 1) : Int) + 1)) := by
    show _ = _
    unfold powRes
    rw [hs, inB_true (by omega) (by omega), Int.toNat_natCast]
    rfl
  have HIN := Lib.hid (fun w => l1In_any (k : Int) 0 2 w)
  rw [inB_true (by omega) (by omega)] at HIN
  obtain ⟨RES, hres⟩ : ∃ p, powRes s k = p := ⟨_, rfl⟩
  rw [hres] at HR ⊢
  clear hs hres
  go_enter Tryd.func19, Tryd.ntmps19
  go_wp2_with fail
  refine (HI.out _).mono ?_; rintro e w' ⟨rfl, rfl⟩
  go_wp2_with fail
  refine (HIN.out _).mono ?_; rintro e w' ⟨rfl, rfl⟩
  go_wp2_with fail
  refine (l5New_any _).mono ?_; rintro e w1 ⟨gL, gC, F0, vs0, rfl, ht, hb, hF⟩
  have HTB := Lib.hid ht
  have HFF := Lib.hid hF
  have HB1 := Lib.hid hb
  clear ht hb hF
  unfold tblV
  go_wp2_with fail
  have HIV : Hid (PwInv w ((w1.alloc (.cells #[.slice (some ⟨gL, 0, none⟩) 997 997, .slice (some ⟨gC, 0, none⟩) 1 1] 80)).alloc (.cells #[] 3)) gL gC w1.heap.size k s F0 vs0 [] (.slice (some ⟨w1.heap.size + 1, 0, none⟩) 0 0) []) := by
    have hb2 : Below w1.heap.size w1 ((w1.alloc (.cells #[.slice (some ⟨gL, 0, none⟩) 997 997, .slice (some ⟨gC, 0, none⟩) 1 1] 80)).alloc (.cells #[] 3)) := ((Below.refl _ _).alloc (Nat.le_refl _) _).alloc (by simp) _
    have hs1 := HB1.out.size
    refine ⟨HTB.out.below hb2, by simp, HFF.out, heap_keep (heap_alloc_new w1 _) _, fun e => ?_, Own.lit _ _ _ (by simp) (by simp; omega), fun j hj e => ?_, HB1.out.trans (hb2.mono hs1), fun j hj => absurd hj (by simp)⟩
    · have := HTB.out.lt _ e; omega
    · obtain rfl := Option.some.inj hj
      have := HTB.out.lt _ e
      have e1 : (⟨w1.heap.size + 1, 0, none⟩ : Addr).block = w1.heap.size + 1 := rfl
      omega
  go_loopw [6, 7] (fun v p wr => ∃ (i : Nat) (P : ByteArray), p = .string P ∧ P.size ≤ 16 ∧ Hid (P = rep s (i + 1)) ∧ Hid (i * s.size ≤ 8) ∧ Hid (∃ F vs E T, T.length = i ∧ PwInv w wr gL gC w1.heap.size k s F vs E v T)) (fun _ p _ => 100 - txtLen p)
  case atStart =>
    refine ⟨0, s, rfl, by omega, ?_, ?_, F0, vs0, [], [], rfl, HIV.out⟩
    · show s = s ++ ByteArray.empty
      rw [ba_nil]
    · show 0 * s.size ≤ 8
      omega
  case round =>
    obtain ⟨i, P, rfl, hP, HP, HI8, HST⟩ := hrel
    obtain ⟨F, vs, E, T, hTl, hst⟩ := HST.out
    have HS := Lib.hid hst
    have HTL := Lib.hid hTl
    clear hst hTl HST
    have h1 := HI8.out
    have h2 : i * 1 ≤ i * s.size := Nat.mul_le_mul_left _ s1
    have hi8 : i ≤ 8 := by omega
    clear h1 h2
    by_cases hlt : (P.size : Int) ≤ 8
    · have hP8 : P.size ≤ 8 := by omega
      have HN : Hid (P ++ s = rep s (i + 1 + 1)) := by show _ = _; rw [HP.out, rep_snoc]
      have HI9 : Hid ((i + 1) * s.size ≤ 8) := by
        show _ ≤ _
        have h1 := congrArg ByteArray.size HP.out
        rw [rep_size] at h1
        omega
      have HL1 : Hid (Hid (T.length + [0].length ≤ 2000000)) := by have := HTL.out; show _ ≤ _; simp; omega
      have H12 := Lib.hid (fun W => l12Structure_any P W hP8)
      have hty : ∀ W (b : Nat), Below wr.heap.size wr W → b < W.heap.size → wr.heap.size ≤ b → Calls Tryd.prog 68 #[tblV gL gC, wordV P, .slice (some ⟨b, 0, none⟩) 0 0, .int .i64 (k : Int)] W (Typed gL gC F E (wSt P) k [] W) := by
        intro W b hW hb1 hb2
        refine l5Type_any k (by omega) gL gC F vs E P.size (bitsOf (letB P) P.size) (gridOf ltB P.size) _ [] W ⟨HS.out.tbl.below hW, ?_, bitsOf_size _ _, grid_size _ _, hP8, NumsAt.empty hb1 (by decide), ?_, by simp; omega, by simp⟩
        · have h1 := calls_le P.size k hP8 (by omega)
          have h2 := HS.out.few
          have h3 := HTL.out
          omega
        · intro j hj e
          obtain rfl := Option.some.inj hj
          have e1 : (⟨b, 0, none⟩ : Addr).block = b := rfl
          have := HS.out.tbl.lt _ e
          omega
      unfold tblV at hty
      have HTY := Lib.hid hty
      clear hty
      have KS : Hid (∀ w' : World, w'.heap[w1.heap.size]? = some (.cells #[.slice (some ⟨gL, 0, none⟩) 997 997, .slice (some ⟨gC, 0, none⟩) 1 1] 80 (0, 0)) → (w'.cell? ⟨w1.heap.size, 0, none⟩ = some (.slice (some ⟨gL, 0, none⟩) 997 997) ∧ w'.cell? ⟨w1.heap.size, 1, none⟩ = some (.slice (some ⟨gC, 0, none⟩) 1 1))) := by
        intro w' h
        constructor <;> simp [World.cell?, h]
      have HTV : Hid (wr.drew.heap[w1.heap.size]? = some (.cells #[.slice (some ⟨gL, 0, none⟩) 997 997, .slice (some ⟨gC, 0, none⟩) 1 1] 80 (0, 0))) := HS.out.tvH
      have q0 := (KS.out wr HS.out.tvH).1
      have q1 := (KS.out wr HS.out.tvH).2
      go_wp2_with fail
      go_region_held3 (fun w' => w'.cell? ⟨w1.heap.size, 0, none⟩ = some (.slice (some ⟨gL, 0, none⟩) 997 997) ∧ w'.cell? ⟨w1.heap.size, 1, none⟩ = some (.slice (some ⟨gC, 0, none⟩) 1 1))
        (first | exact KS.out _ HTV.out | exact KS.out _ (heap_keep HTV.out _) | go_keep)
        (first | ((with_reducible refine (H12.out _).mono ?_); rintro e w2 ⟨rfl, hb⟩; have HB2 : Hid (Below wr.heap.size wr w2) := (by first | exact ((Below.refl wr.heap.size wr).drew.trans (hb.mono (Nat.le_refl _))) | exact ((below1 wr _).trans (hb.mono (by simp)))); have hz2 := hb.size; simp at hz2; have HZ2 := Lib.hid hz2; have HTV := Lib.hid (heap_below HS.out.tvH HB2.out); clear hb hz2) | ((with_reducible refine (HTY.out _ _ ?_ ?_ ?_).mono ?_); (first | exact HB2.out | exact HB2.out.alloc HB2.out.size _); (first | exact alloc_lt _ _ | (have := HZ2.out; omega)); (have := HB2.out.size; omega); rintro e w3 ⟨num, F2, vs2, E2, rfl, ht, hE, hn2, hoff, hF2⟩; have hE' : E2.length ≤ 585 := Nat.le_trans hE (calls_le P.size k hP8 (by omega)); have hn3 : Gs.TypeNum (E ++ E2) (wSt (rep s (T.length + 1))) k [] num := (by rw [HTL.out, ← HP.out]; exact hn2); have HOWN3 : Hid (Own w.heap.size w3 u6 T) := (by first | exact (HS.out.own.below HB2.out).off hoff HS.out.apart | exact (HS.out.own.below (HB2.out.alloc HB2.out.size _)).off hoff HS.out.apart); have HSTEP : Hid (∀ w4 v' o, Own w.heap.size w4 v' (T ++ [num]) → (w3.alloc o).grownBy w4 (Value.ownBlock u6) → (v'.ownBlock = Value.ownBlock u6 ∨ v'.ownBlock = some (w3.alloc o).heap.size) → PwInv w w4 gL gC w1.heap.size k s F2 vs2 (E ++ E2) v' (T ++ [num])) := (fun w4 v' o h1 h2 h3 => by first | exact HS.out.step HB2.out ht hE' hn3 hoff hF2 h1 h2 h3 | exact HS.out.step (HB2.out.alloc HB2.out.size _) ht hE' hn3 hoff hF2 h1 h2 h3); have HTV : Hid (w3.heap[w1.heap.size]? = some (.cells #[.slice (some ⟨gL, 0, none⟩) 997 997, .slice (some ⟨gC, 0, none⟩) 1 1] 80 (0, 0))) := (by first | exact heap_off (heap_below HS.out.tvH HB2.out) hoff HS.out.tvF | exact heap_off (heap_keep (heap_below HS.out.tvH HB2.out) _) hoff HS.out.tvF); clear ht hE hn2 hoff hF2 hE' hn3) | ((refine step_ownAt (w := w3.alloc (.cells #[.int .i64 (num : Int)] 3)) (HOWN3.out.alloc _) (NumsAt.one w3 num) HL1.out rfl (.tmp 26) (.tmp 33) rfl rfl rfl ?_); intro v4 w4 ho hg hat; have HV4 := Lib.hid (HSTEP.out w4 v4 _ ho hg hat); have HTV := Lib.hid HV4.out.tvH; clear ho hg hat))
      all_goals
        go_wp2_with fail
        go_roundw
        case rel =>
          refine ⟨i + 1, P ++ s, rfl, ?_, HN.out, HI9.out, F2, vs2, E ++ E2, T ++ [num], ?_, HV4.out⟩
          · rw [ByteArray.size_append]; omega
          · have := HTL.out; simp; omega
        case measure => simp [txtLen]; omega
    · have HM : Hid (8 / s.size = i) := div_is s1 HI8.out (by
        have h1 := congrArg ByteArray.size HP.out
        rw [rep_size] at h1
        omega)
      obtain ⟨g, cap, rfl, hg1, hg2, hc1, hc2, hcell⟩ := HS.out.own.cells
      have hi1 : 1 ≤ i := by
        have h1 : 1 ≤ 8 / s.size := (Nat.le_div_iff_mul_le (by omega)).2 (by omega)
        have := HM.out
        omega
      obtain ⟨l, rfl⟩ : ∃ l, i = l + 1 := ⟨i - 1, by omega⟩
      rw [HTL.out] at hc1
      have HCL : Hid (∀ j, j ≤ l → wr.cell? ⟨g, j, none⟩ = some (.int .i64 ((T.getD j 0 : Nat) : Int))) := fun j hj => hcell j (by have := HTL.out; omega)
      have HOW : Hid (Below w.heap.size w wr) := HS.out.old
      unfold maxLen at hc2
      have hEQ : ∀ n, n + 1 ≤ l → (((T.getD n 0 : Nat) : Int) == ((T.getD (n + 1) 0 : Nat) : Int)) = adjB s k n := fun n hn =>
        wins_num HS.out.tbl.nodup rfl (HS.out.types n (by have := HTL.out; omega)) (HS.out.types (n + 1) (by have := HTL.out; omega))
      have HEQ := Lib.hid hEQ
      have HMR : Hid (RES = (if l - stopN (adjB s k) l < 1 then -1 else (stopN (adjB s k) l : Int) + 1)) := by
        show _ = _
        rw [HR.out, HM.out, Nat.add_sub_cancel]
      obtain ⟨st, hst⟩ : ∃ st, stopN (adjB s k) l = st := ⟨_, rfl⟩
      rw [hst] at HMR
      have HSL : Hid (st ≤ l) := by rw [← hst]; exact stopN_le _ _
      have HST := Lib.hid hst
      have HTLL := HTL
      rw [HTL.out]
      obtain ⟨wo, rfl⟩ : ∃ wo : World, wo = wr := ⟨_, rfl⟩
      clear hcell hEQ hst HS HP
      go_wp2_with fail
      go_loopw [8] (fun i wr => ∃ n : Nat, n ≤ l ∧ i = .int .i64 n ∧ Hid (stopN (adjB s k) n = st) ∧ Hid (Below wo.heap.size wo wr)) (fun i _ => (intOf i).toNat)
      case atStart => exact ⟨l, by omega, rfl, HST.out, Below.refl _ _⟩
      case round =>
        obtain ⟨n, hn, rfl, HN, HBW⟩ := hrel
        rcases n with _ | n
        · have hst0 : st = 0 := HN.out.symm
          subst hst0
          have HF : Hid (RES = if l < 1 then -1 else 1) := by show _ = _; rw [HMR.out]; rfl
          go_wp2_with fail
          refine wp_region_since (by kernel_rfl) (by kernel_rfl) ?_
          repeat (go_big_quiet_step (fail))
          refine wpQuiet_nil ?_
          intro w2 hb2
          have HB2 : Hid (Below w.heap.size w w2) := HOW.out.trans ((HBW.out.trans (hb2.mono HBW.out.size)).mono HOW.out.size)
          clear hb2
          by_cases hl1 : l = 0
          · subst hl1
            have HF2 : Hid (-1 = RES) := by show _ = _; rw [HF.out, if_pos (by omega)]
            go_wp2_with fail
            go_ret
            exact ⟨ret_i64 HF2.out, HB2.out⟩
          · have hl0 : ((0 : Int) == (l : Int)) = false := by simp; omega
            have HF2 : Hid (1 = RES) := by show _ = _; rw [HF.out, if_neg (by omega)]
            go_wp2_with fail
            go_ret
            exact ⟨ret_i64 HF2.out, HB2.out⟩
        · have d1 := (HBW.out.cell (p := ⟨g, n, none⟩) hg2).trans (HCL.out n (by omega))
          have d2 := (HBW.out.cell (p := ⟨g, n + 1, none⟩) hg2).trans (HCL.out (n + 1) hn)
          have e1 := HEQ.out n hn
          have hn1 : IntKind.i64.wrap ((n : Int) + 1 - 1) = (n : Int) := by
            rw [show (n : Int) + 1 - 1 = (n : Int) by omega]; exact IntWalk.i64_in _ (by omega)
          have HN1 : Hid ((if adjB s k n then stopN (adjB s k) n else n + 1) = st) := HN.out
          obtain ⟨b, hb⟩ : ∃ b, adjB s k n = b := ⟨_, rfl⟩
          rw [hb] at e1 HN1
          clear hb
          generalize T.getD n 0 = x1 at *
          generalize T.getD (n + 1) 0 = x2 at *
          have hnI : (0 : Int) ≤ (n : Int) := by omega
          have hnl : (n : Int) + 1 < (l : Int) + 1 := by omega
          cases b
          · have hst0 : n + 1 = st := by simpa using HN1.out
            subst hst0
            go_wp2_with fail
            have f1 := fun x => Since.cell d1 x
            have f2 := fun x => Since.cell d2 x
            refine wp_region_since (by kernel_rfl) (by kernel_rfl) ?_
            repeat (go_big_quiet_step (fail))
            refine wpQuiet_nil ?_
            intro w2 hb2
            have HB2 : Hid (Below w.heap.size w w2) := HOW.out.trans ((HBW.out.trans (hb2.mono HBW.out.size)).mono HOW.out.size)
            clear hb2 f1 f2
            by_cases hl1 : n + 1 = l
            · have hl0 : ((n : Int) + 1 == (l : Int)) = true := by simp; omega
              have HF2 : Hid (-1 = RES) := by show _ = _; rw [HMR.out, if_pos (by omega)]
              go_wp2_with fail
              go_ret
              exact ⟨ret_i64 HF2.out, HB2.out⟩
            · have hl0 : ((n : Int) + 1 == (l : Int)) = false := by simp; omega
              have HF2 : Hid ((n : Int) + 1 + 1 = RES) := by show _ = _; rw [HMR.out, if_neg (by omega)]; omega
              go_wp2_with fail
              go_ret
              exact ⟨ret_i64 HF2.out, HB2.out⟩
          · have HN2 : Hid (stopN (adjB s k) n = st) := by show _ = _; simpa using HN1.out
            go_wp2_with fail
            have f1 := fun x => Since.cell d1 x
            have f2 := fun x => Since.cell d2 x
            refine wp_region_since (by kernel_rfl) (by kernel_rfl) ?_
            repeat (go_big_quiet_step (fail))
            refine wpQuiet_nil ?_
            intro w2 hb2
            have HB2 := Lib.hid (HBW.out.trans (hb2.mono HBW.out.size))
            clear hb2 f1 f2
            go_wp2_with fail
            go_roundw
            case rel => exact ⟨n, by omega, by go_num, HN2.out, HB2.out⟩
            case measure => simp [intOf] <;> omega
end Go.Proofs.YtagnikcnakdehaaDoor
/- PowerStops of the program and of the reference; the law FnExactPowerStops. Conditions: a text's length fits an integer. -/
namespace Go.Proofs.YtagnikcnakdehaaDoor
open Go.RowKit
set_option linter.unusedVariables false

theorem powRes_no {s : ByteArray} {K : Int} (h : wordB s = false ∨ inB K 0 2 = false) : powRes s K = -2 := by
  unfold powRes
  rcases h with h | h <;> rw [h] <;> simp
theorem implPower_any (s : ByteArray) (K : Int) (w : World) (hs : s.size ≤ 9223372036854775807) : Calls Tryd.prog 18 #[.string s, .int .i64 K] w (IntB w (powRes s K)) := by
  have HI := Lib.hid (fun w => isWord_any s w hs)
  obtain ⟨b, hb⟩ : ∃ b, wordB s = b := ⟨_, rfl⟩
  cases b
  · rw [powRes_no (.inl hb)]
    rw [hb] at HI
    clear hb hs
    go_enter Tryd.func18, Tryd.ntmps18
    go_wp2_with fail
    refine (HI.out _).mono ?_; rintro e w1 ⟨rfl, hb⟩
    have HB1 := Lib.hid hb; clear hb
    go_wp2_with fail
    go_ret
    exact ⟨rfl, HB1.out⟩
  · by_cases k0 : 0 ≤ K
    · by_cases k2 : K ≤ 2
      · obtain ⟨k, rfl⟩ := Int.eq_ofNat_of_zero_le k0
        exact implPower_yes s k w hb (by omega)
      · rw [powRes_no (.inr (inB_hi k2))]
        rw [hb] at HI
        clear hb hs
        go_enter Tryd.func18, Tryd.ntmps18
        go_wp2_with fail
        refine (HI.out _).mono ?_; rintro e w1 ⟨rfl, hb⟩
        have HB1 := Lib.hid hb; clear hb
        go_wp2_with fail
        go_ret
        exact ⟨rfl, HB1.out⟩
    · rw [powRes_no (.inr (inB_lo k0))]
      rw [hb] at HI
      clear hb hs
      go_enter Tryd.func18, Tryd.ntmps18
      go_wp2_with fail
      refine (HI.out _).mono ?_; rintro e w1 ⟨rfl, hb⟩
      have HB1 := Lib.hid hb; clear hb
      go_wp2_with fail
      go_ret
      exact ⟨rfl, HB1.out⟩
theorem specPower_any (s : ByteArray) (K : Int) (w : World) (hs : s.size ≤ 9223372036854775807) : Calls Tryd.prog 19 #[.string s, .int .i64 K] w (IntB w (powRes s K)) := by
  have HI := Lib.hid (fun w => specWordValid_any s w hs)
  have HIN := Lib.hid (fun w => l1In_any K 0 2 w)
  obtain ⟨b, hb⟩ : ∃ b, wordB s = b := ⟨_, rfl⟩
  cases b
  · rw [powRes_no (.inl hb)]
    rw [hb] at HI
    clear hb hs
    go_enter Tryd.func19, Tryd.ntmps19
    go_wp2_with fail
    refine (HI.out _).mono ?_; rintro e w' ⟨rfl, rfl⟩
    go_wp2_with fail
    go_ret
    exact ⟨rfl, Below.refl _ _⟩
  · obtain ⟨c, hc⟩ : ∃ c, inB K 0 2 = c := ⟨_, rfl⟩
    cases c
    · rw [powRes_no (.inr hc)]
      rw [hb] at HI
      rw [hc] at HIN
      clear hb hs hc
      go_enter Tryd.func19, Tryd.ntmps19
      go_wp2_with fail
      refine (HI.out _).mono ?_; rintro e w' ⟨rfl, rfl⟩
      go_wp2_with fail
      refine (HIN.out _).mono ?_; rintro e w' ⟨rfl, rfl⟩
      go_wp2_with fail
      go_ret
      exact ⟨rfl, Below.refl _ _⟩
    · have hK := inB_iff.1 hc
      obtain ⟨k, rfl⟩ := Int.eq_ofNat_of_zero_le hK.1
      exact specPower_yes s k w hb (by omega)

end Go.Proofs.YtagnikcnakdehaaDoor

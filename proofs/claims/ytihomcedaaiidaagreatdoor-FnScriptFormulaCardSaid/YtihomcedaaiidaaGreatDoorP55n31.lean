/- Contracts of the program's functions and what they compute: part 31. Conditions: those that each theorem states. -/
import Derived.Test.YtihomcedaaiidaaGreatDoorP55n1
import Derived.Test.YtihomcedaaiidaaGreatDoorP55n10
import Derived.Test.YtihomcedaaiidaaGreatDoorP55n18
import Derived.Test.YtihomcedaaiidaaGreatDoorP55n27
import Derived.IntWalk
import Derived.Deep.RegionHeld3
import Derived.Deep.DeepCutAuto
namespace Go.Proofs.YtihomcedaaiidaaGreatDoor
open Go.RowKit
set_option linter.unusedVariables false
set_option maxRecDepth 100000
theorem grown_of_bel {w w' : World} {row : Option Nat} (h : Below w.heap.size w w') : w.grownBy w' row := ⟨h.os, h.tape, h.output, h.size, fun i hi _ => h.block i hi⟩
theorem grown_drewF (w : World) {row : Option Nat} : w.grownBy w.drew row := grown_of_bel (Below.refl _ _).drew
/-- A text that is drawn: at least one byte and at most n. -/
def TxtN (b K n : Nat) (w : World) (e : Ending) (w' : World) : Prop := ∃ t : ByteArray, 1 ≤ t.size ∧ t.size ≤ n ∧ e = .returned (.string t) ∧ RdB w' b K ∧ w.grownBy w' (some b)
theorem of_ne (w : World) (b K m : Nat) (xs : List ByteArray) (T : TypeId) (h : RdB w b K) (hk : K < 1099511627776) (h0 : 1 ≤ xs.length) (h1 : xs.length ≤ 1000) (hm : ∀ x ∈ xs, 1 ≤ x.size ∧ x.size ≤ m) :
    Calls Tryz.prog 23 #[.pointer (some ⟨b, 0, none⟩), .slice (some ⟨w.heap.size, 0, none⟩) xs.length xs.length] (w.alloc (.cells (xs.map Value.string).toArray T)) (TxtN b (K + 1) m w) := by
  have H := Lib.hid (h.grown (grown_alloc w (.cells (xs.map Value.string).toArray T)))
  have HB := Lib.hid h.block
  have HX : Hid (∀ j, j < xs.length → (w.alloc (.cells (xs.map Value.string).toArray T)).cell? ⟨w.heap.size, j, none⟩ = some (.string (xs.getD j ByteArray.empty))) := by
    intro j hj
    rw [World.cell?_alloc_new]
    simp [hj]
  have HLB := Lib.hid (grown_alloc w (.cells (xs.map Value.string).toArray T))
  have HBB := Lib.hid (Nat.le_of_lt h.block)
  have HM : Hid (∀ j, j < xs.length → 1 ≤ (xs.getD j ByteArray.empty).size ∧ (xs.getD j ByteArray.empty).size ≤ m) := fun j hj => hm _ (by simp [hj])
  obtain ⟨W, hW⟩ : ∃ W, w.alloc (.cells (xs.map Value.string).toArray T) = W := ⟨_, rfl⟩
  rw [hW] at H HX HLB ⊢
  obtain ⟨B, hB⟩ : ∃ B, w.heap.size = B := ⟨_, rfl⟩
  rw [hB] at HX HB ⊢
  have hne : B ≠ b := by have := HB.out; omega
  have HNE := Lib.hid hne
  have hlI : (xs.length : Int) ≤ 1000 := by omega
  clear hW hB h hm hne
  go_enter Tryz.func23, Tryz.ntmps23
  go_wp2_with fail
  refine (pickB _ b K _ H.out hk (by omega) (by omega)).mono ?_; rintro e w1 ⟨v, rfl, v0, v1, hr, hg⟩
  obtain ⟨j, rfl⟩ := Int.eq_ofNat_of_zero_le v0
  have hj : j < xs.length := by omega
  have hc := hg.cell (HX.out j hj) (by intro h; injection h with h; exact HNE.out h)
  have HP : Hid (TxtN b (K + 1) m w (.returned (.string (xs.getD j ByteArray.empty))) w1) := ⟨_, (HM.out j hj).1, (HM.out j hj).2, rfl, hr, (HLB.out.but _).trans hg⟩
  clear hr hg HX H HM HLB
  generalize xs.getD j ByteArray.empty = t at *
  go_wp2
  go_ret
  exact HP.out
/-- How many numbers a draw of a depth takes, and how long its text is. -/
def nP : Nat → Nat
  | 0 => 8
  | d + 1 => 8 + 2 * nP d
def tP : Nat → Nat
  | 0 => 3
  | d + 1 => 1 + 2 * tP d
theorem tP_le : ∀ d, 3 ≤ tP d
  | 0 => Nat.le_refl _
  | d + 1 => by have := tP_le d; unfold tP; omega
theorem TxtN.mono {b K n K' n' : Nat} {w : World} {e : Ending} {w' : World} (h : TxtN b K n w e w') (hK : K ≤ K') (hn : n ≤ n') : TxtN b K' n' w e w' := by
  obtain ⟨t, h1, h2, h3, h4, h5⟩ := h
  exact ⟨t, h1, by omega, h3, h4.mono hK, h5⟩
/-- One byte of the variables' text. -/
theorem ex1_size {s : ByteArray} {k : Nat} (h : k < s.size) : (s.extract k (k + 1)).size = 1 := by simp; omega
theorem rdB_bel {w w' : World} {b K : Nat} (h : RdB w b K) (hb : Below w.heap.size w w') : RdB w' b K := by
  have hlt := h.block
  obtain ⟨k, h1, a, len, cap, f, c0, c1, fr, short, room, row⟩ := h
  have cc : ∀ p v, w.cell? p = some v → w'.cell? p = some v := fun p v h => (hb.cell (World.block_lt_of_cell? w p h)).trans h
  refine ⟨k, h1, a, len, cap, f, cc _ _ c0, cc _ _ c1, ?_, short, room, ?_⟩
  · exact (World.frozen?_of_block (hb.block b hlt)).trans fr
  · rcases row with h | ⟨b', off, rfl, hb', hc, hf⟩
    · exact .inl h
    · exact .inr ⟨b', off, rfl, hb', fun j hj => cc _ _ (hc j hj), hf⟩
set_option maxHeartbeats 4000000 in
/-- One step of the draw. -/
theorem l2Draw_step (b d n m : Nat) (z : Int) (vs : ByteArray) (cnt : Bool) (hv : 1 ≤ vs.size) (hv4 : vs.size ≤ 4) (hz0 : 0 ≤ z) (hz9 : z ≤ 100) (hm : 1 ≤ m) (hmm : m ≤ 1000000)
    (IH : 0 < z → ∀ (w : World) (K : Nat), RdB w b K → K + n < 100000000000 → Calls Tryz.prog 45 #[.pointer (some ⟨b, 0, none⟩), .int .i64 (z - 1), .string vs, .bool cnt] w (TxtN b (K + n) m w))
    (w : World) (K : Nat) (h : RdB w b K) (hk : K + 8 + 2 * n < 100000000000) :
    Calls Tryz.prog 45 #[.pointer (some ⟨b, 0, none⟩), .int .i64 z, .string vs, .bool cnt] w (TxtN b (K + 8 + 2 * n) (1 + 2 * m) w) := by
  have H := Lib.hid h
  have HI := Lib.hid IH
  clear h IH
  have hvI : (1 : Int) ≤ (vs.size : Int) ∧ (vs.size : Int) ≤ 4 := by omega
  go_enter Tryz.func45, Tryz.ntmps45
  go_wp2_with fail
  refine (pickB _ b K _ H.out (by omega) (by omega) (by omega)).mono ?_; rintro e w1 ⟨k1, rfl, p0, p1, hr, hg⟩
  have HR1 := Lib.hid hr; have HG1 := Lib.hid hg; clear hr hg
  go_wp2_with fail
  refine (pickB _ b _ _ HR1.out (by omega) (by omega) (by omega)).mono ?_; rintro e w2 ⟨v, rfl, v0, v1, hr, hg⟩
  have HR2 := Lib.hid hr; have HG2 := Lib.hid (HG1.out.trans hg); clear hr hg
  go_wp2_with fail
  refine (pickB _ b _ _ HR2.out (by omega) (by omega) (by omega)).mono ?_; rintro e w3 ⟨u, rfl, u0, u1, hr, hg⟩
  have HR3 := Lib.hid hr; have HG3 := Lib.hid (HG2.out.trans hg); clear hr hg HR1 HR2 HG1 HG2 H
  obtain ⟨k, rfl⟩ := Int.eq_ofNat_of_zero_le v0
  obtain ⟨j, rfl⟩ := Int.eq_ofNat_of_zero_le u0
  have e1 := ex1_size (s := vs) (k := k) (by omega)
  have e2 := ex1_size (s := vs) (k := j) (by omega)
  have hkI : (k : Int) + 1 ≤ (vs.size : Int) := by omega
  have hjI : (j : Int) + 1 ≤ (vs.size : Int) := by omega
  by_cases hl : z ≤ 0 ∨ k1 < 2
  · have hg : (z ≤ 0) ∨ (¬ z ≤ 0 ∧ k1 < 2) := by omega
    clear hl HI
    rcases hg with hz | ⟨hz, hk2⟩
    all_goals
      go_wp2_with fail
      refine (pickB _ b _ _ HR3.out (by omega) (by omega) (by omega)).mono ?_; rintro e w4 ⟨c, rfl, q0, q1, hr, hg⟩
      have HR4 := Lib.hid hr; have HG4 := Lib.hid (HG3.out.trans hg)
      have HB4 := Lib.hid (Nat.le_of_lt hr.block)
      clear hr hg HR3 HG3
      have HP : Hid (∀ (t : ByteArray) w5, 1 ≤ t.size → t.size ≤ 3 → Below w4.heap.size w4 w5 → TxtN b (K + 8 + 2 * n) (1 + 2 * m) w (.returned (.string t)) w5) := fun t w5 h1 h2 h3 => ⟨t, h1, by omega, rfl, (rdB_bel HR4.out h3).mono (by omega), HG4.out.trans (grown_of_bel h3)⟩
      by_cases c0 : c = 0
      · subst c0
        go_wp2_with fail
        refine (of_ne w4 b _ 1 [⟨#[116]⟩, ⟨#[102]⟩] _ HR4.out (by omega) (by decide) (by decide) (by intro x hx; simp at hx; rcases hx with rfl | rfl <;> decide)).mono ?_; rintro e w5 ⟨t, ht1, ht, rfl, hr, hg⟩
        have HQ : Hid (TxtN b (K + 8 + 2 * n) (1 + 2 * m) w (.returned (.string t)) w5) := ⟨t, ht1, by omega, rfl, hr.mono (by omega), HG4.out.trans hg⟩
        clear hr hg
        go_wp2_with fail
        go_ret
        exact HQ.out
      · by_cases c1 : c = 1 ∨ c = 2
        · have HQ := Lib.hid (HP.out (⟨#[80]⟩ ++ vs.extract k (k + 1)) w4 (by rw [ByteArray.size_append, e1]; decide) (by rw [ByteArray.size_append, e1]; decide) (Below.refl _ _))
          rcases c1 with rfl | rfl
          all_goals
            go_wp2_with fail
            go_ret
            exact HQ.out
        · have c1a : ¬ c = 1 := fun h => c1 (.inl h)
          have c2a : ¬ c = 2 := fun h => c1 (.inr h)
          by_cases c3 : c = 3
          · subst c3
            have HQ := fun w5 => HP.out (⟨#[61]⟩ ++ vs.extract k (k + 1) ++ vs.extract j (j + 1)) w5 (by rw [ByteArray.size_append, ByteArray.size_append, e1, e2]; decide) (by rw [ByteArray.size_append, ByteArray.size_append, e1, e2]; decide)
            have HQ := Lib.hid HQ
            go_wp2_with fail
            refine wp_region_since (by kernel_rfl) (by kernel_rfl) ?_
            repeat (go_big_quiet_step (fail))
            refine wpQuiet_nil ?_
            intro w5 hb5
            have HQ5 := Lib.hid (HQ.out w5 hb5)
            clear hb5
            go_wp2_with fail
            go_ret
            exact HQ5.out
          · have HQ := fun w5 => HP.out (⟨#[69]⟩ ++ vs.extract k (k + 1) ++ vs.extract j (j + 1)) w5 (by rw [ByteArray.size_append, ByteArray.size_append, e1, e2]; decide) (by rw [ByteArray.size_append, ByteArray.size_append, e1, e2]; decide)
            have HQ := Lib.hid HQ
            go_wp2_with fail
            refine wp_region_since (by kernel_rfl) (by kernel_rfl) ?_
            repeat (go_big_quiet_step (fail))
            refine wpQuiet_nil ?_
            intro w5 hb5
            have HQ5 := Lib.hid (HQ.out w5 hb5)
            clear hb5
            go_wp2_with fail
            go_ret
            exact HQ5.out
  · have hz : 0 < z := by omega
    have hzn : ¬ z ≤ 0 := by omega
    have hk2 : ¬ k1 < 2 := by omega
    have hzl : z - 1 ≤ 99 ∧ 0 ≤ z - 1 := by omega
    clear hl
    by_cases c4 : k1 < 4
    · go_wp2_with fail
      refine (HI.out hz _ _ HR3.out (by omega)).mono ?_; rintro e w4 ⟨t, t1, t2, rfl, hr, hg⟩
      have HQ : Hid (TxtN b (K + 8 + 2 * n) (1 + 2 * m) w (.returned (.string (⟨#[33]⟩ ++ t))) w4) := ⟨_, by rw [ByteArray.size_append]; omega, by rw [ByteArray.size_append]; show 1 + t.size ≤ _; omega, rfl, hr.mono (by omega), HG3.out.trans hg⟩
      clear hr hg
      go_wp2_with fail
      go_ret
      exact HQ.out
    · by_cases c7 : k1 < 7
      · go_wp2_with fail
        refine (of_ne w3 b _ 1 [⟨#[38]⟩, ⟨#[124]⟩] _ HR3.out (by omega) (by decide) (by decide) (by intro x hx; simp at hx; rcases hx with rfl | rfl <;> decide)).mono ?_; rintro e w4 ⟨o, ho1, ho2, rfl, hr, hg⟩
        have HR4 := Lib.hid hr; have HG4 := Lib.hid (HG3.out.trans hg); clear hr hg HR3 HG3
        go_wp2_with fail
        refine (HI.out hz _ _ HR4.out (by omega)).mono ?_; rintro e w5 ⟨t, t1, t2, rfl, hr, hg⟩
        have HR5 := Lib.hid hr; have HG5 := Lib.hid (HG4.out.trans hg); clear hr hg HR4 HG4
        go_wp2_with fail
        refine (HI.out hz _ _ HR5.out (by omega)).mono ?_; rintro e w6 ⟨s, s1, s2, rfl, hr, hg⟩
        have HQ : Hid (TxtN b (K + 8 + 2 * n) (1 + 2 * m) w (.returned (.string (o ++ t ++ s))) w6) := ⟨_, by rw [ByteArray.size_append]; omega, by rw [ByteArray.size_append, ByteArray.size_append]; omega, rfl, hr.mono (by omega), HG5.out.trans hg⟩
        clear hr hg
        go_wp2_with fail
        go_ret
        exact HQ.out
      · go_wp2_with fail
        refine (of_ne w3 b _ 1 [⟨#[65]⟩, ⟨#[83]⟩, ⟨#[83]⟩] _ HR3.out (by omega) (by decide) (by decide) (by intro x hx; simp at hx; rcases hx with rfl | rfl <;> decide)).mono ?_; rintro e w4 ⟨o, ho1, ho2, rfl, hr, hg⟩
        have HR4 := Lib.hid hr; have HG4 := Lib.hid (HG3.out.trans hg); clear hr hg HR3 HG3
        cases cnt
        · have HX : Hid (∀ (t : ByteArray) wz, 1 ≤ t.size → t.size ≤ m → RdB wz b (K + 1 + 1 + 1 + 1 + n) → w4.drew.grownBy wz (some b) → TxtN b (K + 8 + 2 * n) (1 + 2 * m) w (.returned (.string (o ++ vs.extract k (k + 1) ++ t))) wz) :=
            fun t wz h1 h2 h3 h4 => ⟨_, by rw [ByteArray.size_append]; omega, by rw [ByteArray.size_append, ByteArray.size_append, e1]; omega, rfl, h3.mono (by omega), HG4.out.trans ((grown_drewF w4).trans h4)⟩
          have HC := Lib.hid (HI.out hz _ _ (rdB_bel HR4.out (Below.refl w4.heap.size w4).drew) (by omega))
          clear HI
          go_wp2_with fail
          have hwr : IntKind.i64.wrap ((k : Int) + 1) = (k : Int) + 1 := IntWalk.i64_in _ (by omega)
          have hwz : IntKind.i64.wrap (z - 1) = z - 1 := IntWalk.i64_in _ (by omega)
          have hsl : ∀ wx, (Instr.slice 9 (.string vs) (some (.int .i64 (k : Int))) (some (.int .i64 ((k : Int) + 1))) none).run Tryz.prog wx = .ok (.string (vs.extract k (k + 1))) wx := fun wx => run_slice_string wx _ vs _ _ _ _ Tryz.underlying9 (by omega) (by omega) (by omega)
          go_region_with (first | ((with_reducible refine HC.out.mono ?_); rintro e wz ⟨t, t1, t2, rfl, hr, hg⟩; have HQ := Lib.hid (HX.out t wz t1 t2 hr hg); clear hr hg))
          all_goals
            go_wp2_with fail
            go_ret
            exact HQ.out
        · go_wp2_with fail
          refine (pickB _ b _ _ HR4.out (by omega) (by omega) (by omega)).mono ?_; rintro e w5 ⟨c, rfl, q0, q1, hr, hg⟩
          have HR5 := Lib.hid hr; have HG5 := Lib.hid (HG4.out.trans hg); clear hr hg HR4 HG4
          by_cases hc : c = 0
          · subst hc
            go_wp2_with fail
            refine (of_ne w5 b _ 1 [⟨#[50]⟩, ⟨#[51]⟩, ⟨#[50]⟩, ⟨#[52]⟩] _ HR5.out (by omega) (by decide) (by decide) (by intro x hx; simp at hx; rcases hx with rfl | rfl | rfl | rfl <;> decide)).mono ?_; rintro e w6 ⟨o2, hp1, hp2, rfl, hr, hg⟩
            have HR6 := Lib.hid hr; have HG6 := Lib.hid (HG5.out.trans hg); clear hr hg HR5 HG5
            have HX : Hid (∀ (t : ByteArray) wz, 1 ≤ t.size → t.size ≤ m → RdB wz b (K + 1 + 1 + 1 + 1 + 1 + 1 + n) → w6.drew.grownBy wz (some b) → TxtN b (K + 8 + 2 * n) (1 + 2 * m) w (.returned (.string (o2 ++ vs.extract k (k + 1) ++ t))) wz) :=
              fun t wz h1 h2 h3 h4 => ⟨_, by rw [ByteArray.size_append]; omega, by rw [ByteArray.size_append, ByteArray.size_append, e1]; omega, rfl, h3.mono (by omega), HG6.out.trans ((grown_drewF w6).trans h4)⟩
            have HC := Lib.hid (HI.out hz _ _ (rdB_bel HR6.out (Below.refl w6.heap.size w6).drew) (by omega))
            clear HI
            go_wp2_with fail
            have hwr : IntKind.i64.wrap ((k : Int) + 1) = (k : Int) + 1 := IntWalk.i64_in _ (by omega)
            have hwz : IntKind.i64.wrap (z - 1) = z - 1 := IntWalk.i64_in _ (by omega)
            have hsl : ∀ wx, (Instr.slice 9 (.string vs) (some (.int .i64 (k : Int))) (some (.int .i64 ((k : Int) + 1))) none).run Tryz.prog wx = .ok (.string (vs.extract k (k + 1))) wx := fun wx => run_slice_string wx _ vs _ _ _ _ Tryz.underlying9 (by omega) (by omega) (by omega)
            go_region_with (first | ((with_reducible refine HC.out.mono ?_); rintro e wz ⟨t, t1, t2, rfl, hr, hg⟩; have HQ := Lib.hid (HX.out t wz t1 t2 hr hg); clear hr hg))
            all_goals
              go_wp2_with fail
              go_ret
              exact HQ.out
          · have HX : Hid (∀ (t : ByteArray) wz, 1 ≤ t.size → t.size ≤ m → RdB wz b (K + 1 + 1 + 1 + 1 + 1 + n) → w5.drew.grownBy wz (some b) → TxtN b (K + 8 + 2 * n) (1 + 2 * m) w (.returned (.string (o ++ vs.extract k (k + 1) ++ t))) wz) :=
              fun t wz h1 h2 h3 h4 => ⟨_, by rw [ByteArray.size_append]; omega, by rw [ByteArray.size_append, ByteArray.size_append, e1]; omega, rfl, h3.mono (by omega), HG5.out.trans ((grown_drewF w5).trans h4)⟩
            have HC := Lib.hid (HI.out hz _ _ (rdB_bel HR5.out (Below.refl w5.heap.size w5).drew) (by omega))
            clear HI
            go_wp2_with fail
            have hwr : IntKind.i64.wrap ((k : Int) + 1) = (k : Int) + 1 := IntWalk.i64_in _ (by omega)
            have hwz : IntKind.i64.wrap (z - 1) = z - 1 := IntWalk.i64_in _ (by omega)
            have hsl : ∀ wx, (Instr.slice 9 (.string vs) (some (.int .i64 (k : Int))) (some (.int .i64 ((k : Int) + 1))) none).run Tryz.prog wx = .ok (.string (vs.extract k (k + 1))) wx := fun wx => run_slice_string wx _ vs _ _ _ _ Tryz.underlying9 (by omega) (by omega) (by omega)
            go_region_with (first | ((with_reducible refine HC.out.mono ?_); rintro e wz ⟨t, t1, t2, rfl, hr, hg⟩; have HQ := Lib.hid (HX.out t wz t1 t2 hr hg); clear hr hg))
            all_goals
              go_wp2_with fail
              go_ret
              exact HQ.out
end Go.Proofs.YtihomcedaaiidaaGreatDoor
namespace Go.Proofs.YtihomcedaaiidaaGreatDoor
open Go.RowKit
set_option linter.unusedVariables false
set_option maxRecDepth 100000
/-- The draw at a depth of at most five. -/
theorem l2Draw_any (b : Nat) (vs : ByteArray) (cnt : Bool) (hv : 1 ≤ vs.size) (hv4 : vs.size ≤ 4) : ∀ (d : Nat), d ≤ 5 → ∀ (w : World) (K : Nat), RdB w b K → K + nP d < 100000000000 →
    Calls Tryz.prog 45 #[.pointer (some ⟨b, 0, none⟩), .int .i64 (d : Int), .string vs, .bool cnt] w (TxtN b (K + nP d) (tP d) w) := by
  intro d
  induction d with
  | zero =>
    intro _ w K h hk
    exact l2Draw_step b 0 0 1 0 vs cnt hv hv4 (by omega) (by omega) (by omega) (by omega) (fun h => absurd h (by omega)) w K h (by simp [nP] at hk; omega)
  | succ d ih =>
    intro hd w K h hk
    have e : ((d + 1 : Nat) : Int) - 1 = (d : Int) := by omega
    have := l2Draw_step b 0 (nP d) (tP d) ((d + 1 : Nat) : Int) vs cnt hv hv4 (by omega) (by omega) (by have := tP_le d; omega) (by rcases d with _ | _ | _ | _ | _ | d <;> first | decide | omega) (fun _ w K h hk => by rw [e]; exact ih (by omega) w K h hk) w K h (by unfold nP at hk; omega)
    have e2 : K + nP (d + 1) = K + 8 + 2 * nP d := by show K + (8 + 2 * nP d) = _; omega
    rw [e2]
    exact this
theorem FreeVars_any (f : ByteArray) (hf : f.size ≤ 9223372036854775807) (w : World) : Calls Tryz.prog 46 #[.string f] w fun e w' => (∃ t : ByteArray, t.size ≤ 4 ∧ e = .returned (.string t)) ∧ w' = w := by
  have HFV := Lib.hid (fun w => FormulaValid_any f w hf)
  cases hr : readB f with
  | none =>
    rw [hr] at HFV
    clear hr
    go_enter Tryz.func46, Tryz.ntmps46
    go_wp2_with fail
    refine (HFV.out _).mono ?_; rintro _ w2 ⟨rfl, hw2⟩; rw [hw2]; clear hw2 w2
    go_wp2_with fail
    go_ret
    exact ⟨⟨_, Nat.zero_le _, rfl⟩, rfl⟩
  | some φ =>
    rw [hr] at HFV
    have HAT := readO_at hr
    have HLF : Hid (∀ w, Calls Tryz.prog 54 #[.string f, .int .i64 0] w fun e w' => e = .returned (.tuple #[.int .i64 ((Fm.free φ : Nat) : Int), .int .i64 ((0 + Fm.len φ : Nat) : Int)]) ∧ w' = w) := fun w => l2Free_any f (by have := HAT.2; omega) φ 0 0 w rfl HAT.1
    have hfl := Fm.free_lt φ
    clear hr HAT
    generalize Fm.free φ = fr at *
    go_enter Tryz.func46, Tryz.ntmps46
    go_wp2_with fail
    refine (HFV.out _).mono ?_; rintro _ w2 ⟨rfl, hw2⟩; rw [hw2]; clear hw2 w2
    go_wp2_with fail
    refine (HLF.out _).mono ?_; rintro _ w2 ⟨rfl, hw2⟩; rw [hw2]; clear hw2 w2
    go_wp2_with fail
    go_loopw [6, 3] (fun q v wr => wr = w ∧ ∃ i : Nat, i ≤ 4 ∧ q = .int .i64 (i : Int) ∧ ∃ t : ByteArray, t.size ≤ i ∧ v = .string t) (fun q _ _ => 4 - (intOf q).toNat)
    case atStart => exact ⟨rfl, 0, by omega, rfl, _, Nat.le_refl _, rfl⟩
    case round =>
      obtain ⟨hw, i, hi, rfl, t, ht, rfl⟩ := hrel
      rw [hw]; clear hw
      by_cases h4 : i < 4
      · have hx : ((⟨#[97, 98, 99, 100]⟩ : ByteArray).extract i (i + 1)).size = 1 := ex1_size (s := ⟨#[97, 98, 99, 100]⟩) h4
        have HP : Hid (∃ j : Nat, j ≤ 4 ∧ Value.int IntKind.i64 ((i : Int) + 1) = .int .i64 (j : Int) ∧ ∃ t' : ByteArray, t'.size ≤ j ∧ Value.string (t ++ (⟨#[97, 98, 99, 100]⟩ : ByteArray).extract i (i + 1)) = Value.string t') := ⟨i + 1, by omega, rfl, _, by rw [ByteArray.size_append, hx]; omega, rfl⟩
        have HP0 : Hid (∃ j : Nat, j ≤ 4 ∧ Value.int IntKind.i64 ((i : Int) + 1) = .int .i64 (j : Int) ∧ ∃ t' : ByteArray, t'.size ≤ j ∧ Value.string t = Value.string t') := ⟨i + 1, by omega, rfl, _, by omega, rfl⟩
        have hiI : (i : Int) < 4 := by omega
        clear hx hi
        go_wp2_with fail
        · exact ⟨⟨trivial, HP.out⟩, by simp [intOf]; omega⟩
        · exact ⟨⟨trivial, HP0.out⟩, by simp [intOf]; omega⟩
      · obtain rfl : i = 4 := by omega
        go_wp2_with fail
        go_ret
        exact ⟨⟨_, ht, rfl⟩, rfl⟩
end Go.Proofs.YtihomcedaaiidaaGreatDoor
namespace Go.Proofs.YtihomcedaaiidaaGreatDoor
open Go.RowKit
set_option linter.unusedVariables false
set_option maxRecDepth 100000
set_option maxHeartbeats 4000000 in
theorem l2Closed_any (b : Nat) (vs : ByteArray) (cnt : Bool) (hv : 1 ≤ vs.size) (hv4 : vs.size ≤ 4) (d : Nat) (hd : d ≤ 5) (w : World) (K : Nat) (h : RdB w b K) (hk : K + nP d < 10000000000) :
    Calls Tryz.prog 21 #[.pointer (some ⟨b, 0, none⟩), .int .i64 (d : Int), .string vs, .bool cnt] w (TxtN b (K + nP d + 4) (tP d + 8) w) := by
  have HC := Lib.hid (l2Draw_any b vs cnt hv hv4 d hd w K h (by omega))
  have htp : tP d ≤ 1000000 := by rcases d with _ | _ | _ | _ | _ | _ | d <;> first | decide | omega
  generalize nP d = N at *
  generalize tP d = M at *
  clear h
  go_enter Tryz.func21, Tryz.ntmps21
  go_wp2_with fail
  refine HC.out.mono ?_; rintro e w1 ⟨f, f1, f2, rfl, hr, hg⟩
  have HR1 := Lib.hid hr; have HG1 := Lib.hid hg; clear hr hg HC
  have HFV := Lib.hid (fun w => FreeVars_any f (by omega) w)
  go_wp2_with fail
  refine (HFV.out _).mono ?_; rintro _ w2 ⟨⟨fr, h4, rfl⟩, hw2⟩; rw [hw2]; clear hw2 w2 HFV
  go_wp2_with fail
  go_loopw [11, 9] (fun q v wr => ∃ i : Nat, i ≤ fr.size ∧ q = .int .i64 (i : Int) ∧ ∃ t : ByteArray, 1 ≤ t.size ∧ t.size ≤ M + 2 * i ∧ v = .string t ∧ Hid (RdB wr b (K + N + i) ∧ w.grownBy wr (some b))) (fun q _ _ => fr.size - (intOf q).toNat)
  case atStart => exact ⟨0, by omega, rfl, f, f1, by omega, rfl, HR1.out, HG1.out⟩
  case round =>
    obtain ⟨i, hi, rfl, t, t1, t2, rfl, HI⟩ := hrel
    by_cases hlt : i < fr.size
    · have hiI : (i : Int) + 1 ≤ (fr.size : Int) := by omega
      have h4I : (fr.size : Int) ≤ 4 := by omega
      have hx : (fr.extract i (i + 1)).size = 1 := ex1_size hlt
      have hwr : IntKind.i64.wrap ((i : Int) + 1) = (i : Int) + 1 := IntWalk.i64_in _ (by omega)
      have HRD := Lib.hid (rdB_bel HI.out.1 (Below.refl wr.heap.size wr).drew)
      have HX : Hid (∀ (o : ByteArray) wz, o.size ≤ 1 → 1 ≤ o.size → RdB wz b (K + N + i + 1) → wr.drew.grownBy wz (some b) → ∃ j : Nat, j ≤ fr.size ∧ Value.int IntKind.i64 ((i : Int) + 1) = .int .i64 (j : Int) ∧ ∃ t' : ByteArray, 1 ≤ t'.size ∧ t'.size ≤ M + 2 * j ∧ Value.string (o ++ fr.extract i (i + 1) ++ t) = Value.string t' ∧ Hid (RdB wz b (K + N + j) ∧ w.grownBy wz (some b))) :=
        fun o wz h1 h0 h2 h3 => ⟨i + 1, by omega, rfl, _, by rw [ByteArray.size_append]; omega, by rw [ByteArray.size_append, ByteArray.size_append, hx]; omega, rfl, h2, HI.out.2.trans ((grown_drewF wr).trans h3)⟩
      clear hx
      go_wp2_with fail
      go_region_with (first | (go_at_call 23; refine (of_ne wr.drew b _ 1 [⟨#[65]⟩, ⟨#[83]⟩] _ HRD.out (by omega) (by decide) (by decide) (by intro x hx; simp at hx; rcases hx with rfl | rfl <;> decide)).mono ?_; rintro e wz ⟨o, o1, o2, rfl, hr, hg⟩; have HQ := Lib.hid (HX.out o wz o2 o1 hr hg); clear hr hg))
      all_goals
        go_wp2_with fail
        exact ⟨HQ.out, by simp [intOf]; omega⟩
    · obtain rfl : i = fr.size := by omega
      have HQ : Hid (TxtN b (K + N + 4) (M + 8) w (.returned (.string t)) wr) := ⟨t, t1, by omega, rfl, HI.out.1.mono (by omega), HI.out.2⟩
      clear HI
      go_wp2_with fail
      go_ret
      exact HQ.out
end Go.Proofs.YtihomcedaaiidaaGreatDoor
namespace Go.Proofs.YtihomcedaaiidaaGreatDoor
open Go.RowKit
set_option linter.unusedVariables false
set_option maxRecDepth 100000
/-- A text that is drawn, of at most n bytes. -/
def TxtM (b K n : Nat) (w : World) (e : Ending) (w' : World) : Prop := ∃ t : ByteArray, t.size ≤ n ∧ e = .returned (.string t) ∧ RdB w' b K ∧ w.grownBy w' (some b)
set_option maxHeartbeats 4000000 in
theorem l2Bad_any (b n : Nat) (f : ByteArray) (hf1 : 1 ≤ f.size) (hfn : f.size ≤ n) (hn : n ≤ 10000000) (w : World) (K : Nat) (h : RdB w b K) (hk : K < 20000000000) :
    Calls Tryz.prog 20 #[.pointer (some ⟨b, 0, none⟩), .string f] w (TxtM b (K + 3) (n + 1) w) := by
  have H := Lib.hid h
  clear h
  have hfI : (1 : Int) ≤ (f.size : Int) ∧ (f.size : Int) ≤ 10000000 := by omega
  go_enter Tryz.func20, Tryz.ntmps20
  go_wp2_with fail
  refine (pickB _ b K _ H.out (by omega) (by omega) (by omega)).mono ?_; rintro e w1 ⟨k1, rfl, p0, p1, hr, hg⟩
  have HR1 := Lib.hid hr; have HG1 := Lib.hid hg; clear hr hg H
  have HP : Hid (∀ (t : ByteArray) wz, t.size ≤ n + 1 → RdB wz b (K + 3) → w1.grownBy wz (some b) → TxtM b (K + 3) (n + 1) w (.returned (.string t)) wz) := fun t wz h1 h2 h3 => ⟨t, h1, rfl, h2, HG1.out.trans h3⟩
  by_cases c0 : k1 = 0
  · subst c0
    go_wp2_with fail
    refine (of_ne w1 b _ 1 [⟨#[116]⟩, ⟨#[97]⟩, ⟨#[32]⟩] _ HR1.out (by omega) (by decide) (by decide) (by intro x hx; simp at hx; rcases hx with rfl | rfl | rfl <;> decide)).mono ?_; rintro e w5 ⟨t, ht1, ht, rfl, hr, hg⟩
    have HQ := Lib.hid (HP.out (f ++ t) _ (by rw [ByteArray.size_append]; omega) (hr.mono (by omega)) hg)
    clear hr hg
    go_wp2_with fail
    go_ret
    exact HQ.out
  · by_cases c1 : k1 = 1
    · subst c1
      have HQ := Lib.hid (HP.out (f.extract 0 (f.size - 1)) w1 (by rw [ByteArray.size_extract]; omega) (HR1.out.mono (by omega)) (World.grownBy.refl _ _))
      go_wp2_with fail
      go_ret
      exact HQ.out
    · by_cases c2 : k1 = 2
      · subst c2
        go_wp2_with fail
        refine (pickB _ b _ _ HR1.out (by omega) (by omega) (by omega)).mono ?_; rintro e w2 ⟨i, rfl, i0, i1, hr, hg⟩
        have HR2 := Lib.hid hr; have HG2 := Lib.hid hg; clear hr hg HR1
        obtain ⟨i, rfl⟩ := Int.eq_ofNat_of_zero_le i0
        have hwr : IntKind.i64.wrap ((i : Int) + 1) = (i : Int) + 1 := IntWalk.i64_in _ (by omega)
        have HRD := Lib.hid (rdB_bel HR2.out (Below.refl w2.heap.size w2).drew)
        have HX : Hid (∀ (o : ByteArray) wz, o.size ≤ 1 → RdB wz b (K + 1 + 1 + 1) → w2.drew.grownBy wz (some b) → TxtM b (K + 3) (n + 1) w (.returned (.string (f.extract 0 i ++ o ++ f.extract (i + 1) f.size))) wz) :=
          fun o wz h1 h2 h3 => HP.out _ _ (by rw [ByteArray.size_append, ByteArray.size_append, ByteArray.size_extract, ByteArray.size_extract]; omega) (h2.mono (by omega)) (HG2.out.trans ((grown_drewF w2).trans h3))
        go_wp2_with fail
        go_region_with (first | (go_at_call 23; refine (of_ne w2.drew b _ 1 [⟨#[101]⟩, ⟨#[65]⟩, ⟨#[80]⟩, ⟨#[53]⟩] _ HRD.out (by omega) (by decide) (by decide) (by intro x hx; simp at hx; rcases hx with rfl | rfl | rfl | rfl <;> decide)).mono ?_; rintro e wz ⟨o, o1, o2, rfl, hr, hg⟩; have HQ := Lib.hid (HX.out o wz o2 hr hg); clear hr hg))
        all_goals
          go_wp2_with fail
          go_ret
          exact HQ.out
      · have HQ := Lib.hid (HP.out f w1 (by omega) (HR1.out.mono (by omega)) (World.grownBy.refl _ _))
        go_wp2_with fail
        go_ret
        exact HQ.out
end Go.Proofs.YtihomcedaaiidaaGreatDoor
namespace Go.Proofs.YtihomcedaaiidaaGreatDoor
open Go.RowKit
set_option linter.unusedVariables false
set_option maxRecDepth 100000
theorem nP4 {d : Nat} (h : d ≤ 4) : nP d ≤ 248 ∧ tP d ≤ 63 := by
  rcases d with _ | _ | _ | _ | _ | d <;> first | (constructor <;> decide) | omega
end Go.Proofs.YtihomcedaaiidaaGreatDoor

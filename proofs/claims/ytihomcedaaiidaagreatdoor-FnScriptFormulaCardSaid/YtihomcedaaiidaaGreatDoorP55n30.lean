/- Contracts of the program's functions and what they compute: part 30. Conditions: those that each theorem states. -/
import Derived.Test.YtihomcedaaiidaaGreatDoorP55n26
import Derived.Test.YtihomcedaaiidaaGreatDoorP55n28
import Derived.Test.YtihomcedaaiidaaGreatDoorP55n29
namespace Go.Proofs.YtihomcedaaiidaaGreatDoor
open Go.RowKit
set_option linter.unusedVariables false
set_option maxRecDepth 100000
/-- A formula in words. -/
def shB : Fm.T → ByteArray
  | .lit true => ⟨#[116, 114, 117, 101]⟩
  | .lit false => ⟨#[102, 97, 108, 115, 101]⟩
  | .set x => ⟨#[80, 40]⟩ ++ txtS [Fm.vb x] ++ ⟨#[41]⟩
  | .rel false x y => txtS [Fm.vb x] ++ ⟨#[61]⟩ ++ txtS [Fm.vb y]
  | .rel true x y => ⟨#[69, 40]⟩ ++ txtS [Fm.vb x] ++ ⟨#[44]⟩ ++ txtS [Fm.vb y] ++ ⟨#[41]⟩
  | .neg f => ⟨#[110, 111, 116, 32]⟩ ++ shB f
  | .bin false f g => ⟨#[40]⟩ ++ shB f ++ ⟨#[32, 97, 110, 100, 32]⟩ ++ shB g ++ ⟨#[41]⟩
  | .bin true f g => ⟨#[40]⟩ ++ shB f ++ ⟨#[32, 111, 114, 32]⟩ ++ shB g ++ ⟨#[41]⟩
  | .qu .all x f => ⟨#[97, 108, 108, 32]⟩ ++ txtS [Fm.vb x] ++ ⟨#[58, 32]⟩ ++ shB f
  | .qu .some x f => ⟨#[115, 111, 109, 101, 32]⟩ ++ txtS [Fm.vb x] ++ ⟨#[58, 32]⟩ ++ shB f
  | .qu .two x f => ⟨#[97, 116, 32, 108, 101, 97, 115, 116, 32]⟩ ++ txtS [50] ++ ⟨#[32]⟩ ++ txtS [Fm.vb x] ++ ⟨#[58, 32]⟩ ++ shB f
  | .qu .three x f => ⟨#[97, 116, 32, 108, 101, 97, 115, 116, 32]⟩ ++ txtS [51] ++ ⟨#[32]⟩ ++ txtS [Fm.vb x] ++ ⟨#[58, 32]⟩ ++ shB f
  | .qu .four x f => ⟨#[97, 116, 32, 108, 101, 97, 115, 116, 32]⟩ ++ txtS [52] ++ ⟨#[32]⟩ ++ txtS [Fm.vb x] ++ ⟨#[58, 32]⟩ ++ shB f
theorem shB_size : ∀ φ : Fm.T, (shB φ).size ≤ 20 * (Fm.text φ).length
  | .lit true => by decide
  | .lit false => by decide
  | .set x => by simp only [shB, ByteArray.size_append, txtS_size]; show 2 + 1 + 1 ≤ 20 * 2; omega
  | .rel false x y => by simp only [shB, ByteArray.size_append, txtS_size]; show 1 + 1 + 1 ≤ 20 * 3; omega
  | .rel true x y => by simp only [shB, ByteArray.size_append, txtS_size]; show 2 + 1 + 1 + 1 + 1 ≤ 20 * 3; omega
  | .neg f => by
    have := shB_size f
    simp only [shB, ByteArray.size_append, Fm.text, List.length_cons]
    show 4 + (shB f).size ≤ _
    omega
  | .bin false f g => by
    have := shB_size f
    have := shB_size g
    simp only [shB, ByteArray.size_append, Fm.text, List.length_cons, List.length_append]
    show 1 + (shB f).size + 5 + (shB g).size + 1 ≤ _
    omega
  | .bin true f g => by
    have := shB_size f
    have := shB_size g
    simp only [shB, ByteArray.size_append, Fm.text, List.length_cons, List.length_append]
    show 1 + (shB f).size + 4 + (shB g).size + 1 ≤ _
    omega
  | .qu .all x f => by
    have := shB_size f
    simp only [shB, ByteArray.size_append, txtS_size, Fm.text, List.length_cons, List.length_nil]
    show 4  + 1 + 2 + (shB f).size ≤ _
    omega
  | .qu .some x f => by
    have := shB_size f
    simp only [shB, ByteArray.size_append, txtS_size, Fm.text, List.length_cons, List.length_nil]
    show 5  + 1 + 2 + (shB f).size ≤ _
    omega
  | .qu .two x f => by
    have := shB_size f
    simp only [shB, ByteArray.size_append, txtS_size, Fm.text, List.length_cons, List.length_nil]
    show 9 + 1 + 1 + 1 + 2 + (shB f).size ≤ _
    omega
  | .qu .three x f => by
    have := shB_size f
    simp only [shB, ByteArray.size_append, txtS_size, Fm.text, List.length_cons, List.length_nil]
    show 9 + 1 + 1 + 1 + 2 + (shB f).size ≤ _
    omega
  | .qu .four x f => by
    have := shB_size f
    simp only [shB, ByteArray.size_append, txtS_size, Fm.text, List.length_cons, List.length_nil]
    show 9 + 1 + 1 + 1 + 2 + (shB f).size ≤ _
    omega
/-- What a node holds. -/
theorem nd_facts {F : Nat → Prop} {w : World} {p : Nat} {op : UInt8} {vs : List (Fin 4)} {qs : List Nat} {fr al : Nat} {v u : Value} (h : Nd F w p op vs qs fr al v u) (nv nq : Nat) (hv : vs.length = nv) (hq : qs.length = nq) :
    ∃ av cv ap cp, v = .slice av nv cv ∧ u = .slice ap nq cp ∧ nq ≤ cp ∧ w.cell? ⟨p, 0, none⟩ = some (.int .u8 (op.toNat : Int)) ∧ w.cell? ⟨p, 1, none⟩ = some (.slice av nv cv) ∧ w.cell? ⟨p, 2, none⟩ = some (.slice ap nq cp) ∧ p < w.heap.size ∧
      (∀ W, Below w.heap.size w W → (convert 22 9 (.slice av nv cv)).run Tryz.prog W = .ok (.string (txtS (vs.map Fm.vb))) W) ∧
      (0 < nq → ∃ g, ap = some ⟨g, 0, none⟩ ∧ g < w.heap.size ∧ ∀ j, j < nq → w.cell? ⟨g, j, none⟩ = some (ptrV (qs.getD j 0))) := by
  obtain ⟨av, cv, rfl, lv, mv, hvc⟩ := h.vars.view
  obtain ⟨ap, cp, rfl, lp, mp, hpc⟩ := h.parts.view
  have cs := h.cells
  simp only [List.length_map] at lv lp hvc hpc cs h
  subst hv hq
  refine ⟨av, cv, ap, cp, by simp, by simp, lp, cs.1, by rw [cs.2.1], by rw [cs.2.2.1], h.lt, fun W hb => ?_, fun h0 => ?_⟩
  · have e : vs.length = (vs.map Fm.vb).length := by simp
    rw [e]
    refine conv_row W av cv (vs.map Fm.vb) ?_
    by_cases h0 : 0 < vs.length
    · obtain ⟨g, rfl, _, hg, hc⟩ := hvc h0
      refine .inr ⟨g, rfl, fun j hj => ?_⟩
      have hj2 : j < vs.length := by simpa using hj
      rw [hb.cell hg, hc j hj2]
      simp [hj2, vbV, vb_nat]
    · exact .inl (by rw [List.eq_nil_of_length_eq_zero (by omega : vs.length = 0)]; rfl)
  · obtain ⟨g, rfl, _, hg, hc⟩ := hpc h0
    refine ⟨g, rfl, hg, fun j hj => ?_⟩
    rw [hc j hj]
    simp [hj]
def ShowOK (φ : Fm.T) : Prop := ∀ (F : Nat → Prop) (w : World) (p : Nat), Tree F w φ p → Calls Tryz.prog 36 #[ptrV p] w fun e w' => e = .returned (.string (shB φ)) ∧ Below w.heap.size w w'
set_option maxHeartbeats 1000000 in
theorem show_true : ShowOK (.lit true) := by
  intro F w p hT
  obtain ⟨v, u, qs, nd, hts⟩ := hT.node
  have hq0 : qs.length = 0 := hts.length.symm
  obtain ⟨av, cv, ap, cp, rfl, rfl, hcp, c0, c1, c2, hpl, hcv, hpp⟩ := nd_facts nd 0 0 rfl hq0
  have cB := hcv w (Below.refl _ _)
  replace c0 : w.cell? ⟨p, 0, none⟩ = some (.int .u8 116) := c0
  clear hcv hpp nd hts hT hq0
  unfold ptrV
  go_enter Tryz.func36, Tryz.ntmps36
  go_wp2_with fail
  go_ret
  exact ⟨rfl, Below.refl _ _⟩
set_option maxHeartbeats 1000000 in
theorem show_false : ShowOK (.lit false) := by
  intro F w p hT
  obtain ⟨v, u, qs, nd, hts⟩ := hT.node
  have hq0 : qs.length = 0 := hts.length.symm
  obtain ⟨av, cv, ap, cp, rfl, rfl, hcp, c0, c1, c2, hpl, hcv, hpp⟩ := nd_facts nd 0 0 rfl hq0
  have cB := hcv w (Below.refl _ _)
  replace c0 : w.cell? ⟨p, 0, none⟩ = some (.int .u8 102) := c0
  clear hcv hpp nd hts hT hq0
  unfold ptrV
  go_enter Tryz.func36, Tryz.ntmps36
  go_wp2_with fail
  go_ret
  exact ⟨rfl, Below.refl _ _⟩
set_option maxHeartbeats 1000000 in
theorem show_set (x : Fin 4) : ShowOK (.set x) := by
  intro F w p hT
  obtain ⟨v, u, qs, nd, hts⟩ := hT.node
  have hq0 : qs.length = 0 := hts.length.symm
  obtain ⟨av, cv, ap, cp, rfl, rfl, hcp, c0, c1, c2, hpl, hcv, hpp⟩ := nd_facts nd 1 0 rfl hq0
  have cB := hcv w (Below.refl _ _)
  replace c0 : w.cell? ⟨p, 0, none⟩ = some (.int .u8 80) := c0
  clear hcv hpp nd hts hT hq0
  unfold ptrV
  have hR : Hid ((⟨#[80, 40]⟩ : ByteArray) ++ txtS [Fm.vb x] ++ ⟨#[41]⟩ = shB (.set x)) := rfl
  replace cB : (convert 22 9 (.slice av 1 cv)).run Tryz.prog w = .ok (.string (txtS [Fm.vb x])) w := cB
  have hz : (txtS [Fm.vb x]).size = 1 := rfl
  have hz1 : (⟨#[80, 40]⟩ ++ txtS [Fm.vb x] : ByteArray).size ≤ 10 := by rw [ByteArray.size_append, hz]; decide
  generalize txtS [Fm.vb x] = T at *
  rw [← hR.out]
  go_enter Tryz.func36, Tryz.ntmps36
  go_wp2_with fail
  go_ret
  exact ⟨rfl, Below.refl _ _⟩
set_option maxHeartbeats 1000000 in
theorem show_eq (x y : Fin 4) : ShowOK (.rel false x y) := by
  intro F w p hT
  obtain ⟨v, u, qs, nd, hts⟩ := hT.node
  have hq0 : qs.length = 0 := hts.length.symm
  obtain ⟨av, cv, ap, cp, rfl, rfl, hcp, c0, c1, c2, hpl, hcv, hpp⟩ := nd_facts nd 2 0 rfl hq0
  have cB := hcv w (Below.refl _ _)
  replace c0 : w.cell? ⟨p, 0, none⟩ = some (.int .u8 61) := c0
  clear hcv hpp nd hts hT hq0
  unfold ptrV
  have hR : Hid (∀ A C, txtS [Fm.vb x] = A → txtS [Fm.vb y] = C → A ++ ⟨#[61]⟩ ++ C = shB (.rel false x y)) := fun A C h1 h2 => by subst h1; subst h2; rfl
  replace cB : (convert 22 9 (.slice av 2 cv)).run Tryz.prog w = .ok (.string (txtS [Fm.vb x, Fm.vb y])) w := cB
  have s0 : ∀ wx, (Instr.slice 9 (.string (txtS [Fm.vb x, Fm.vb y])) none (some (.int .i64 1)) none).run Tryz.prog wx = .ok (.string (txtS [Fm.vb x])) wx := fun wx => by
    have h := run_slice_string_to_if wx 9 (txtS [Fm.vb x, Fm.vb y]) .i64 1 Tryz.underlying9
    rw [if_pos ⟨by decide, by show (1 : Int) ≤ 2; decide⟩] at h
    exact h.trans (by congr 1)
  have s1 : ∀ wx, (Instr.slice 9 (.string (txtS [Fm.vb x, Fm.vb y])) (some (.int .i64 1)) none none).run Tryz.prog wx = .ok (.string (txtS [Fm.vb y])) wx := fun wx => by
    have h := run_slice_string_from_if wx 9 (txtS [Fm.vb x, Fm.vb y]) .i64 1 Tryz.underlying9
    rw [if_pos ⟨by decide, by show (1 : Int) ≤ 2; decide⟩] at h
    exact h.trans (by congr 1)
  obtain ⟨A, hA0⟩ : ∃ A, txtS [Fm.vb x] = A := ⟨_, rfl⟩
  obtain ⟨C, hC0⟩ : ∃ A, txtS [Fm.vb y] = A := ⟨_, rfl⟩
  have hRR := Lib.hid (hR.out A C hA0 hC0)
  have hA : A.size = 1 := by rw [← hA0]; rfl
  have hC : C.size = 1 := by rw [← hC0]; rfl
  rw [hA0] at s0
  rw [hC0] at s1
  clear hA0 hC0 hR
  generalize txtS [Fm.vb x, Fm.vb y] = T at *
  have hz1 : (A ++ ⟨#[61]⟩ : ByteArray).size ≤ 10 := by rw [ByteArray.size_append, hA]; decide
  rw [← hRR.out]
  go_enter Tryz.func36, Tryz.ntmps36
  go_upto_region 10 with fail
  refine wp_region_since (by kernel_rfl) (by kernel_rfl) ?_
  repeat (go_big_quiet_step (fail))
  refine wpQuiet_nil ?_
  intro w1 hb
  have HB := Lib.hid hb
  clear hb
  go_wp2_with fail
  go_ret
  exact ⟨rfl, HB.out⟩
set_option maxHeartbeats 1000000 in
theorem show_rel (x y : Fin 4) : ShowOK (.rel true x y) := by
  intro F w p hT
  obtain ⟨v, u, qs, nd, hts⟩ := hT.node
  have hq0 : qs.length = 0 := hts.length.symm
  obtain ⟨av, cv, ap, cp, rfl, rfl, hcp, c0, c1, c2, hpl, hcv, hpp⟩ := nd_facts nd 2 0 rfl hq0
  have cB := hcv w (Below.refl _ _)
  replace c0 : w.cell? ⟨p, 0, none⟩ = some (.int .u8 69) := c0
  clear hcv hpp nd hts hT hq0
  unfold ptrV
  have hR : Hid (∀ A C, txtS [Fm.vb x] = A → txtS [Fm.vb y] = C → (⟨#[69, 40]⟩ : ByteArray) ++ A ++ ⟨#[44]⟩ ++ C ++ ⟨#[41]⟩ = shB (.rel true x y)) := fun A C h1 h2 => by subst h1; subst h2; rfl
  replace cB : (convert 22 9 (.slice av 2 cv)).run Tryz.prog w = .ok (.string (txtS [Fm.vb x, Fm.vb y])) w := cB
  have s0 : ∀ wx, (Instr.slice 9 (.string (txtS [Fm.vb x, Fm.vb y])) none (some (.int .i64 1)) none).run Tryz.prog wx = .ok (.string (txtS [Fm.vb x])) wx := fun wx => by
    have h := run_slice_string_to_if wx 9 (txtS [Fm.vb x, Fm.vb y]) .i64 1 Tryz.underlying9
    rw [if_pos ⟨by decide, by show (1 : Int) ≤ 2; decide⟩] at h
    exact h.trans (by congr 1)
  have s1 : ∀ wx, (Instr.slice 9 (.string (txtS [Fm.vb x, Fm.vb y])) (some (.int .i64 1)) none none).run Tryz.prog wx = .ok (.string (txtS [Fm.vb y])) wx := fun wx => by
    have h := run_slice_string_from_if wx 9 (txtS [Fm.vb x, Fm.vb y]) .i64 1 Tryz.underlying9
    rw [if_pos ⟨by decide, by show (1 : Int) ≤ 2; decide⟩] at h
    exact h.trans (by congr 1)
  obtain ⟨A, hA0⟩ : ∃ A, txtS [Fm.vb x] = A := ⟨_, rfl⟩
  obtain ⟨C, hC0⟩ : ∃ A, txtS [Fm.vb y] = A := ⟨_, rfl⟩
  have hRR := Lib.hid (hR.out A C hA0 hC0)
  have hA : A.size = 1 := by rw [← hA0]; rfl
  have hC : C.size = 1 := by rw [← hC0]; rfl
  rw [hA0] at s0
  rw [hC0] at s1
  clear hA0 hC0 hR
  generalize txtS [Fm.vb x, Fm.vb y] = T at *
  have hz1 : (⟨#[69, 40]⟩ ++ A : ByteArray).size ≤ 10 := by rw [ByteArray.size_append, hA]; decide
  have hz2 : (⟨#[69, 40]⟩ ++ A ++ ⟨#[44]⟩ : ByteArray).size ≤ 10 := by rw [ByteArray.size_append, ByteArray.size_append, hA]; decide
  have hz3 : (⟨#[69, 40]⟩ ++ A ++ ⟨#[44]⟩ ++ C : ByteArray).size ≤ 10 := by rw [ByteArray.size_append, ByteArray.size_append, ByteArray.size_append, hA, hC]; decide
  rw [← hRR.out]
  go_enter Tryz.func36, Tryz.ntmps36
  go_upto_region 12 with fail
  refine wp_region_since (by kernel_rfl) (by kernel_rfl) ?_
  repeat (go_big_quiet_step (fail))
  refine wpQuiet_nil ?_
  intro w1 hb
  have HB := Lib.hid hb
  clear hb
  go_wp2_with fail
  go_ret
  exact ⟨rfl, HB.out⟩
set_option maxHeartbeats 1000000 in
theorem show_neg (f : Fm.T) (hf : (Fm.text f).length ≤ 100000) (IH : ShowOK f) : ShowOK (.neg f) := by
  intro F w p hT
  obtain ⟨v, u, q, nd, ht⟩ := hT
  obtain ⟨av, cv, ap, cp, rfl, rfl, hcp, c0, c1, c2, hpl, hcv, hpp⟩ := nd_facts nd 0 1 rfl rfl
  obtain ⟨g, rfl, hg, hgc⟩ := hpp (by decide)
  have d0 : w.cell? ⟨g, 0, none⟩ = some (ptrV q) := hgc 0 (by decide)
  have cB := hcv w (Below.refl _ _)
  replace c0 : w.cell? ⟨p, 0, none⟩ = some (.int .u8 33) := c0
  have HI := Lib.hid (fun w' (hb : Below w.heap.size w w') => IH F w' q (ht.below hb))
  have hz := shB_size f
  have hzE : (shB f).size ≤ 2000000 := by omega
  have hR : Hid ((⟨#[110, 111, 116, 32]⟩ : ByteArray) ++ shB f = shB (.neg f)) := rfl
  clear hcv hpp nd ht hz hgc IH
  generalize shB f = E at *
  unfold ptrV at *
  rw [← hR.out]
  go_enter Tryz.func36, Tryz.ntmps36
  go_wp2_with fail
  refine (HI.out _ (Below.refl _ _)).mono ?_; rintro e w1 ⟨rfl, hb⟩
  have HB := Lib.hid hb
  clear hb
  go_wp2_with fail
  go_ret
  exact ⟨rfl, HB.out⟩
set_option maxHeartbeats 1000000 in
theorem show_all (x : Fin 4) (f : Fm.T) (hf : (Fm.text f).length ≤ 100000) (IH : ShowOK f) : ShowOK (.qu .all x f) := by
  intro F w p hT
  obtain ⟨v, u, q, nd, ht⟩ := hT
  obtain ⟨av, cv, ap, cp, rfl, rfl, hcp, c0, c1, c2, hpl, hcv, hpp⟩ := nd_facts nd 1 1 rfl rfl
  obtain ⟨g, rfl, hg, hgc⟩ := hpp (by decide)
  have d0 : w.cell? ⟨g, 0, none⟩ = some (ptrV q) := hgc 0 (by decide)
  have cB := hcv w (Below.refl _ _)
  replace c0 : w.cell? ⟨p, 0, none⟩ = some (.int .u8 65) := c0
  have HI := Lib.hid (fun w' (hb : Below w.heap.size w w') => IH F w' q (ht.below hb))
  have hz := shB_size f
  have hzE : (shB f).size ≤ 2000000 := by omega
  have hR : Hid ((⟨#[97, 108, 108, 32]⟩ : ByteArray) ++ txtS [Fm.vb x] ++ ⟨#[58, 32]⟩ ++ shB f = shB (.qu .all x f)) := rfl
  replace cB : (convert 22 9 (.slice av 1 cv)).run Tryz.prog w = .ok (.string (txtS [Fm.vb x])) w := cB
  have hT : (txtS [Fm.vb x]).size = 1 := rfl
  have hz1 : (⟨#[97, 108, 108, 32]⟩ ++ txtS [Fm.vb x] : ByteArray).size ≤ 10 := by rw [ByteArray.size_append, hT]; decide
  have hz2 : (⟨#[97, 108, 108, 32]⟩ ++ txtS [Fm.vb x] ++ ⟨#[58, 32]⟩ : ByteArray).size ≤ 10 := by rw [ByteArray.size_append, ByteArray.size_append, hT]; decide
  clear hcv hpp nd ht hz hgc IH
  generalize txtS [Fm.vb x] = T at *
  generalize shB f = E at *
  unfold ptrV at *
  rw [← hR.out]
  go_enter Tryz.func36, Tryz.ntmps36
  go_wp2_with fail
  refine (HI.out _ (Below.refl _ _)).mono ?_; rintro e w1 ⟨rfl, hb⟩
  have HB := Lib.hid hb
  clear hb
  go_wp2_with fail
  go_ret
  exact ⟨rfl, HB.out⟩
set_option maxHeartbeats 1000000 in
theorem show_some (x : Fin 4) (f : Fm.T) (hf : (Fm.text f).length ≤ 100000) (IH : ShowOK f) : ShowOK (.qu .some x f) := by
  intro F w p hT
  obtain ⟨v, u, q, nd, ht⟩ := hT
  obtain ⟨av, cv, ap, cp, rfl, rfl, hcp, c0, c1, c2, hpl, hcv, hpp⟩ := nd_facts nd 1 1 rfl rfl
  obtain ⟨g, rfl, hg, hgc⟩ := hpp (by decide)
  have d0 : w.cell? ⟨g, 0, none⟩ = some (ptrV q) := hgc 0 (by decide)
  have cB := hcv w (Below.refl _ _)
  replace c0 : w.cell? ⟨p, 0, none⟩ = some (.int .u8 83) := c0
  have HI := Lib.hid (fun w' (hb : Below w.heap.size w w') => IH F w' q (ht.below hb))
  have hz := shB_size f
  have hzE : (shB f).size ≤ 2000000 := by omega
  have hR : Hid ((⟨#[115, 111, 109, 101, 32]⟩ : ByteArray) ++ txtS [Fm.vb x] ++ ⟨#[58, 32]⟩ ++ shB f = shB (.qu .some x f)) := rfl
  replace cB : (convert 22 9 (.slice av 1 cv)).run Tryz.prog w = .ok (.string (txtS [Fm.vb x])) w := cB
  have hT : (txtS [Fm.vb x]).size = 1 := rfl
  have hz1 : (⟨#[115, 111, 109, 101, 32]⟩ ++ txtS [Fm.vb x] : ByteArray).size ≤ 10 := by rw [ByteArray.size_append, hT]; decide
  have hz2 : (⟨#[115, 111, 109, 101, 32]⟩ ++ txtS [Fm.vb x] ++ ⟨#[58, 32]⟩ : ByteArray).size ≤ 10 := by rw [ByteArray.size_append, ByteArray.size_append, hT]; decide
  clear hcv hpp nd ht hz hgc IH
  generalize txtS [Fm.vb x] = T at *
  generalize shB f = E at *
  unfold ptrV at *
  rw [← hR.out]
  go_enter Tryz.func36, Tryz.ntmps36
  go_wp2_with fail
  refine (HI.out _ (Below.refl _ _)).mono ?_; rintro e w1 ⟨rfl, hb⟩
  have HB := Lib.hid hb
  clear hb
  go_wp2_with fail
  go_ret
  exact ⟨rfl, HB.out⟩
set_option maxHeartbeats 1000000 in
theorem show_two (x : Fin 4) (f : Fm.T) (hf : (Fm.text f).length ≤ 100000) (IH : ShowOK f) : ShowOK (.qu .two x f) := by
  intro F w p hT
  obtain ⟨v, u, q, nd, ht⟩ := hT
  obtain ⟨av, cv, ap, cp, rfl, rfl, hcp, c0, c1, c2, hpl, hcv, hpp⟩ := nd_facts nd 1 1 rfl rfl
  obtain ⟨g, rfl, hg, hgc⟩ := hpp (by decide)
  have d0 : w.cell? ⟨g, 0, none⟩ = some (ptrV q) := hgc 0 (by decide)
  have cB := hcv w (Below.refl _ _)
  replace c0 : w.cell? ⟨p, 0, none⟩ = some (.int .u8 50) := c0
  have HI := Lib.hid (fun w' (hb : Below w.heap.size w w') => IH F w' q (ht.below hb))
  have hz := shB_size f
  have hzE : (shB f).size ≤ 2000000 := by omega
  have hR : Hid ((⟨#[97, 116, 32, 108, 101, 97, 115, 116, 32]⟩ : ByteArray) ++ txtS [50] ++ ⟨#[32]⟩ ++ txtS [Fm.vb x] ++ ⟨#[58, 32]⟩ ++ shB f = shB (.qu .two x f)) := rfl
  replace cB : (convert 22 9 (.slice av 1 cv)).run Tryz.prog w = .ok (.string (txtS [Fm.vb x])) w := cB
  have hT : (txtS [Fm.vb x]).size = 1 := rfl
  have hO : (txtS [50]).size = 1 := rfl
  have hz1 : (⟨#[97, 116, 32, 108, 101, 97, 115, 116, 32]⟩ ++ txtS [50] : ByteArray).size ≤ 20 := by rw [ByteArray.size_append, hO]; decide
  have hz2 : (⟨#[97, 116, 32, 108, 101, 97, 115, 116, 32]⟩ ++ txtS [50] ++ ⟨#[32]⟩ : ByteArray).size ≤ 20 := by rw [ByteArray.size_append, ByteArray.size_append, hO]; decide
  have hz3 : (⟨#[97, 116, 32, 108, 101, 97, 115, 116, 32]⟩ ++ txtS [50] ++ ⟨#[32]⟩ ++ txtS [Fm.vb x] : ByteArray).size ≤ 20 := by rw [ByteArray.size_append, ByteArray.size_append, ByteArray.size_append, hO, hT]; decide
  have hz4 : (⟨#[97, 116, 32, 108, 101, 97, 115, 116, 32]⟩ ++ txtS [50] ++ ⟨#[32]⟩ ++ txtS [Fm.vb x] ++ ⟨#[58, 32]⟩ : ByteArray).size ≤ 20 := by rw [ByteArray.size_append, ByteArray.size_append, ByteArray.size_append, ByteArray.size_append, hO, hT]; decide
  have HCO : Hid (∀ W W' : World, Below (W.heap.size + 1) (W.alloc (.cells #[.int .u8 50] 5)) W' → (convert 22 9 (.slice (some ⟨W.heap.size, 0, none⟩) 1 1)).run Tryz.prog W' = .ok (.string (txtS [50])) W') := fun W W' hb => conv_bytes W' W.heap.size 1 [50] (fun j hj => by
    obtain rfl : j = 0 := by simpa using hj
    rw [hb.cell (by simp)]
    show (W.alloc (.cells #[.int .u8 50] 5)).cell? ⟨W.heap.size, 0, none⟩ = some (.int .u8 50)
    unfold World.cell?
    rw [heap_alloc_new]; rfl)
  have HCE := Lib.hid (And.intro c0 (And.intro c2 d0))
  clear hcv hpp nd ht hz hgc IH
  generalize txtS [Fm.vb x] = T at *
  generalize shB f = E at *
  unfold ptrV at *
  rw [← hR.out]
  go_enter Tryz.func36, Tryz.ntmps36
  go_upto_region 23 with fail
  clear cB c1
  refine wp_region_U (by kernel_rfl) ?_
  refine wpU_seg 20 16 0 4 rfl (by decide) (by kernel_rfl) (fun c a d v w h => by cases d <;> exact h) (by kernel_rfl) ?_
  intro w7 hw7 K hK
  simp only [List.take_succ_cons, List.take_zero, List.drop_zero]
  have C0 := fun s' => Since.cell ((hw7.below.cell (p := ⟨p, 0, none⟩) hpl).trans HCE.out.1) s'
  repeat (go_big_quiet_step (with_reducible exact C0 _))
  refine wpQuiet_nil ?_
  refine hK _ ?_
  clear hK K hw7 C0
  refine wpU_seg 16 15 8 1 rfl (by decide) (by kernel_rfl) (fun c a d v w h => by cases d <;> exact h) (by kernel_rfl) ?_
  intro w7 hw7 K hK
  simp only [List.take_succ_cons, List.take_zero, List.drop_succ_cons, List.drop_zero]
  repeat (go_big_quiet_step (fail))
  refine wpQuiet_nil ?_
  refine hK _ ?_
  clear hK K hw7
  refine wpU_seg 15 8 11 7 rfl (by decide) (by kernel_rfl) (fun c a d v w h => by cases d <;> exact h) (by kernel_rfl) ?_
  intro w7 hw7 K hK
  simp only [List.take_succ_cons, List.take_zero, List.drop_succ_cons, List.drop_zero]
  have C2 := fun s' => Since.cell ((hw7.below.cell (p := ⟨p, 2, none⟩) hpl).trans HCE.out.2.1) s'
  have D0 := fun s' => Since.cell ((hw7.below.cell (p := ⟨g, 0, none⟩) hg).trans HCE.out.2.2) s'
  have HJ := Lib.hid (fun s' : Since w7 => HI.out s'.w (hw7.below.trans (s'.below.mono hw7.below.size)))
  have HJ2 : Hid (∀ s' : Since w7, Calls Tryz.prog 36 #[.pointer (some ⟨q, 0, none⟩)] s'.w fun e w' => e = .returned (.string E) ∧ Below s'.w.heap.size s'.w w') := HJ.out
  repeat (go_big_quiet_step (first | (with_reducible exact Since.call (HJ2.out _)) | (with_reducible exact C2 _) | (with_reducible exact D0 _)))
  refine wpQuiet_nil ?_
  refine hK _ ?_
  clear hK K hw7 C2 D0 HJ HJ2
  refine wpU_at 8 7 4 rfl (by kernel_rfl) ?_
  intro w8 hw8
  simp only [List.drop_succ_cons, List.drop_zero]
  refine ⟨by kernel_rfl, ?_⟩
  have HCW := Lib.hid (HCO.out w8)
  have HB8 := Lib.hid hw8.below
  refine wp_value (v := .slice (some ⟨w8.heap.size, 0, none⟩) 1 1) (w2 := w8.alloc (.cells #[.int .u8 50] 5)) (by kernel_rfl) ?_
  refine ⟨RS.of ((Below.refl _ _).alloc (Nat.le_refl _) _), ?_⟩
  clear hw8
  simp only [Act.put, List.setIfInBounds_toArray, List.set_cons_zero, List.set_cons_succ]
  have HS8 : Hid (Below w.heap.size w (w8.alloc (.cells #[.int .u8 50] 5))) := HB8.out.alloc HB8.out.size _
  have hsz8 : (w8.alloc (.cells #[.int .u8 50] 5)).heap.size = w8.heap.size + 1 := by simp
  have HSZ := Lib.hid hsz8
  clear hsz8 HB8
  generalize w8.alloc (.cells #[.int .u8 50] 5) = w9 at *
  refine wpU_seg 7 4 5 3 rfl (by decide) (by kernel_rfl) (fun c a d v w h => by cases d <;> exact h) (by kernel_rfl) ?_
  intro w7 hw7 K hK
  simp only [List.take_succ_cons, List.take_zero, List.drop_succ_cons, List.drop_zero]
  have HCV : ∀ s' : Since w7, (convert 22 9 (.slice (some ⟨w8.heap.size, 0, none⟩) 1 1)).run Tryz.prog s'.w = .ok (.string (txtS [50])) s'.w := fun s' => HCW.out s'.w ((hw7.below.trans (s'.below.mono hw7.below.size)).mono (by rw [HSZ.out]; exact Nat.le_refl _))
  repeat (go_big_quiet_step (fail))
  refine wpQuiet_nil ?_
  refine hK _ ?_
  clear hK K hw7 HCV
  refine wpU_seg 4 2 9 2 rfl (by decide) (by kernel_rfl) (fun c a d v w h => by cases d <;> exact h) (by kernel_rfl) ?_
  intro w7 hw7 K hK
  simp only [List.take_succ_cons, List.take_zero, List.drop_succ_cons, List.drop_zero]
  repeat (go_big_quiet_step (fail))
  refine wpQuiet_nil ?_
  refine hK _ ?_
  clear hK K hw7
  refine wpU_seg 2 0 18 2 rfl (by decide) (by kernel_rfl) (fun c a d v w h => by cases d <;> exact h) (by kernel_rfl) ?_
  intro w7 hw7 K hK
  simp only [List.take_succ_cons, List.take_zero, List.drop_succ_cons, List.drop_zero]
  repeat (go_big_quiet_step (fail))
  refine wpQuiet_nil ?_
  refine hK _ ?_
  clear hK K hw7
  refine ⟨by kernel_rfl, fun w10 hw10 => ?_⟩
  have HB := Lib.hid (HS8.out.trans (hw10.below.mono HS8.out.size))
  clear hw10
  go_wp2_with fail
  go_ret
  exact ⟨rfl, HB.out⟩
set_option maxHeartbeats 1000000 in
theorem show_three (x : Fin 4) (f : Fm.T) (hf : (Fm.text f).length ≤ 100000) (IH : ShowOK f) : ShowOK (.qu .three x f) := by
  intro F w p hT
  obtain ⟨v, u, q, nd, ht⟩ := hT
  obtain ⟨av, cv, ap, cp, rfl, rfl, hcp, c0, c1, c2, hpl, hcv, hpp⟩ := nd_facts nd 1 1 rfl rfl
  obtain ⟨g, rfl, hg, hgc⟩ := hpp (by decide)
  have d0 : w.cell? ⟨g, 0, none⟩ = some (ptrV q) := hgc 0 (by decide)
  have cB := hcv w (Below.refl _ _)
  replace c0 : w.cell? ⟨p, 0, none⟩ = some (.int .u8 51) := c0
  have HI := Lib.hid (fun w' (hb : Below w.heap.size w w') => IH F w' q (ht.below hb))
  have hz := shB_size f
  have hzE : (shB f).size ≤ 2000000 := by omega
  have hR : Hid ((⟨#[97, 116, 32, 108, 101, 97, 115, 116, 32]⟩ : ByteArray) ++ txtS [51] ++ ⟨#[32]⟩ ++ txtS [Fm.vb x] ++ ⟨#[58, 32]⟩ ++ shB f = shB (.qu .three x f)) := rfl
  replace cB : (convert 22 9 (.slice av 1 cv)).run Tryz.prog w = .ok (.string (txtS [Fm.vb x])) w := cB
  have hT : (txtS [Fm.vb x]).size = 1 := rfl
  have hO : (txtS [51]).size = 1 := rfl
  have hz1 : (⟨#[97, 116, 32, 108, 101, 97, 115, 116, 32]⟩ ++ txtS [51] : ByteArray).size ≤ 20 := by rw [ByteArray.size_append, hO]; decide
  have hz2 : (⟨#[97, 116, 32, 108, 101, 97, 115, 116, 32]⟩ ++ txtS [51] ++ ⟨#[32]⟩ : ByteArray).size ≤ 20 := by rw [ByteArray.size_append, ByteArray.size_append, hO]; decide
  have hz3 : (⟨#[97, 116, 32, 108, 101, 97, 115, 116, 32]⟩ ++ txtS [51] ++ ⟨#[32]⟩ ++ txtS [Fm.vb x] : ByteArray).size ≤ 20 := by rw [ByteArray.size_append, ByteArray.size_append, ByteArray.size_append, hO, hT]; decide
  have hz4 : (⟨#[97, 116, 32, 108, 101, 97, 115, 116, 32]⟩ ++ txtS [51] ++ ⟨#[32]⟩ ++ txtS [Fm.vb x] ++ ⟨#[58, 32]⟩ : ByteArray).size ≤ 20 := by rw [ByteArray.size_append, ByteArray.size_append, ByteArray.size_append, ByteArray.size_append, hO, hT]; decide
  have HCO : Hid (∀ W W' : World, Below (W.heap.size + 1) (W.alloc (.cells #[.int .u8 51] 5)) W' → (convert 22 9 (.slice (some ⟨W.heap.size, 0, none⟩) 1 1)).run Tryz.prog W' = .ok (.string (txtS [51])) W') := fun W W' hb => conv_bytes W' W.heap.size 1 [51] (fun j hj => by
    obtain rfl : j = 0 := by simpa using hj
    rw [hb.cell (by simp)]
    show (W.alloc (.cells #[.int .u8 51] 5)).cell? ⟨W.heap.size, 0, none⟩ = some (.int .u8 51)
    unfold World.cell?
    rw [heap_alloc_new]; rfl)
  have HCE := Lib.hid (And.intro c0 (And.intro c2 d0))
  clear hcv hpp nd ht hz hgc IH
  generalize txtS [Fm.vb x] = T at *
  generalize shB f = E at *
  unfold ptrV at *
  rw [← hR.out]
  go_enter Tryz.func36, Tryz.ntmps36
  go_upto_region 23 with fail
  clear cB c1
  refine wp_region_U (by kernel_rfl) ?_
  refine wpU_seg 20 16 0 4 rfl (by decide) (by kernel_rfl) (fun c a d v w h => by cases d <;> exact h) (by kernel_rfl) ?_
  intro w7 hw7 K hK
  simp only [List.take_succ_cons, List.take_zero, List.drop_zero]
  have C0 := fun s' => Since.cell ((hw7.below.cell (p := ⟨p, 0, none⟩) hpl).trans HCE.out.1) s'
  repeat (go_big_quiet_step (with_reducible exact C0 _))
  refine wpQuiet_nil ?_
  refine hK _ ?_
  clear hK K hw7 C0
  refine wpU_seg 16 15 8 1 rfl (by decide) (by kernel_rfl) (fun c a d v w h => by cases d <;> exact h) (by kernel_rfl) ?_
  intro w7 hw7 K hK
  simp only [List.take_succ_cons, List.take_zero, List.drop_succ_cons, List.drop_zero]
  repeat (go_big_quiet_step (fail))
  refine wpQuiet_nil ?_
  refine hK _ ?_
  clear hK K hw7
  refine wpU_seg 15 8 11 7 rfl (by decide) (by kernel_rfl) (fun c a d v w h => by cases d <;> exact h) (by kernel_rfl) ?_
  intro w7 hw7 K hK
  simp only [List.take_succ_cons, List.take_zero, List.drop_succ_cons, List.drop_zero]
  have C2 := fun s' => Since.cell ((hw7.below.cell (p := ⟨p, 2, none⟩) hpl).trans HCE.out.2.1) s'
  have D0 := fun s' => Since.cell ((hw7.below.cell (p := ⟨g, 0, none⟩) hg).trans HCE.out.2.2) s'
  have HJ := Lib.hid (fun s' : Since w7 => HI.out s'.w (hw7.below.trans (s'.below.mono hw7.below.size)))
  have HJ2 : Hid (∀ s' : Since w7, Calls Tryz.prog 36 #[.pointer (some ⟨q, 0, none⟩)] s'.w fun e w' => e = .returned (.string E) ∧ Below s'.w.heap.size s'.w w') := HJ.out
  repeat (go_big_quiet_step (first | (with_reducible exact Since.call (HJ2.out _)) | (with_reducible exact C2 _) | (with_reducible exact D0 _)))
  refine wpQuiet_nil ?_
  refine hK _ ?_
  clear hK K hw7 C2 D0 HJ HJ2
  refine wpU_at 8 7 4 rfl (by kernel_rfl) ?_
  intro w8 hw8
  simp only [List.drop_succ_cons, List.drop_zero]
  refine ⟨by kernel_rfl, ?_⟩
  have HCW := Lib.hid (HCO.out w8)
  have HB8 := Lib.hid hw8.below
  refine wp_value (v := .slice (some ⟨w8.heap.size, 0, none⟩) 1 1) (w2 := w8.alloc (.cells #[.int .u8 51] 5)) (by kernel_rfl) ?_
  refine ⟨RS.of ((Below.refl _ _).alloc (Nat.le_refl _) _), ?_⟩
  clear hw8
  simp only [Act.put, List.setIfInBounds_toArray, List.set_cons_zero, List.set_cons_succ]
  have HS8 : Hid (Below w.heap.size w (w8.alloc (.cells #[.int .u8 51] 5))) := HB8.out.alloc HB8.out.size _
  have hsz8 : (w8.alloc (.cells #[.int .u8 51] 5)).heap.size = w8.heap.size + 1 := by simp
  have HSZ := Lib.hid hsz8
  clear hsz8 HB8
  generalize w8.alloc (.cells #[.int .u8 51] 5) = w9 at *
  refine wpU_seg 7 4 5 3 rfl (by decide) (by kernel_rfl) (fun c a d v w h => by cases d <;> exact h) (by kernel_rfl) ?_
  intro w7 hw7 K hK
  simp only [List.take_succ_cons, List.take_zero, List.drop_succ_cons, List.drop_zero]
  have HCV : ∀ s' : Since w7, (convert 22 9 (.slice (some ⟨w8.heap.size, 0, none⟩) 1 1)).run Tryz.prog s'.w = .ok (.string (txtS [51])) s'.w := fun s' => HCW.out s'.w ((hw7.below.trans (s'.below.mono hw7.below.size)).mono (by rw [HSZ.out]; exact Nat.le_refl _))
  repeat (go_big_quiet_step (fail))
  refine wpQuiet_nil ?_
  refine hK _ ?_
  clear hK K hw7 HCV
  refine wpU_seg 4 2 9 2 rfl (by decide) (by kernel_rfl) (fun c a d v w h => by cases d <;> exact h) (by kernel_rfl) ?_
  intro w7 hw7 K hK
  simp only [List.take_succ_cons, List.take_zero, List.drop_succ_cons, List.drop_zero]
  repeat (go_big_quiet_step (fail))
  refine wpQuiet_nil ?_
  refine hK _ ?_
  clear hK K hw7
  refine wpU_seg 2 0 18 2 rfl (by decide) (by kernel_rfl) (fun c a d v w h => by cases d <;> exact h) (by kernel_rfl) ?_
  intro w7 hw7 K hK
  simp only [List.take_succ_cons, List.take_zero, List.drop_succ_cons, List.drop_zero]
  repeat (go_big_quiet_step (fail))
  refine wpQuiet_nil ?_
  refine hK _ ?_
  clear hK K hw7
  refine ⟨by kernel_rfl, fun w10 hw10 => ?_⟩
  have HB := Lib.hid (HS8.out.trans (hw10.below.mono HS8.out.size))
  clear hw10
  go_wp2_with fail
  go_ret
  exact ⟨rfl, HB.out⟩
set_option maxHeartbeats 1000000 in
theorem show_four (x : Fin 4) (f : Fm.T) (hf : (Fm.text f).length ≤ 100000) (IH : ShowOK f) : ShowOK (.qu .four x f) := by
  intro F w p hT
  obtain ⟨v, u, q, nd, ht⟩ := hT
  obtain ⟨av, cv, ap, cp, rfl, rfl, hcp, c0, c1, c2, hpl, hcv, hpp⟩ := nd_facts nd 1 1 rfl rfl
  obtain ⟨g, rfl, hg, hgc⟩ := hpp (by decide)
  have d0 : w.cell? ⟨g, 0, none⟩ = some (ptrV q) := hgc 0 (by decide)
  have cB := hcv w (Below.refl _ _)
  replace c0 : w.cell? ⟨p, 0, none⟩ = some (.int .u8 52) := c0
  have HI := Lib.hid (fun w' (hb : Below w.heap.size w w') => IH F w' q (ht.below hb))
  have hz := shB_size f
  have hzE : (shB f).size ≤ 2000000 := by omega
  have hR : Hid ((⟨#[97, 116, 32, 108, 101, 97, 115, 116, 32]⟩ : ByteArray) ++ txtS [52] ++ ⟨#[32]⟩ ++ txtS [Fm.vb x] ++ ⟨#[58, 32]⟩ ++ shB f = shB (.qu .four x f)) := rfl
  replace cB : (convert 22 9 (.slice av 1 cv)).run Tryz.prog w = .ok (.string (txtS [Fm.vb x])) w := cB
  have hT : (txtS [Fm.vb x]).size = 1 := rfl
  have hO : (txtS [52]).size = 1 := rfl
  have hz1 : (⟨#[97, 116, 32, 108, 101, 97, 115, 116, 32]⟩ ++ txtS [52] : ByteArray).size ≤ 20 := by rw [ByteArray.size_append, hO]; decide
  have hz2 : (⟨#[97, 116, 32, 108, 101, 97, 115, 116, 32]⟩ ++ txtS [52] ++ ⟨#[32]⟩ : ByteArray).size ≤ 20 := by rw [ByteArray.size_append, ByteArray.size_append, hO]; decide
  have hz3 : (⟨#[97, 116, 32, 108, 101, 97, 115, 116, 32]⟩ ++ txtS [52] ++ ⟨#[32]⟩ ++ txtS [Fm.vb x] : ByteArray).size ≤ 20 := by rw [ByteArray.size_append, ByteArray.size_append, ByteArray.size_append, hO, hT]; decide
  have hz4 : (⟨#[97, 116, 32, 108, 101, 97, 115, 116, 32]⟩ ++ txtS [52] ++ ⟨#[32]⟩ ++ txtS [Fm.vb x] ++ ⟨#[58, 32]⟩ : ByteArray).size ≤ 20 := by rw [ByteArray.size_append, ByteArray.size_append, ByteArray.size_append, ByteArray.size_append, hO, hT]; decide
  have HCO : Hid (∀ W W' : World, Below (W.heap.size + 1) (W.alloc (.cells #[.int .u8 52] 5)) W' → (convert 22 9 (.slice (some ⟨W.heap.size, 0, none⟩) 1 1)).run Tryz.prog W' = .ok (.string (txtS [52])) W') := fun W W' hb => conv_bytes W' W.heap.size 1 [52] (fun j hj => by
    obtain rfl : j = 0 := by simpa using hj
    rw [hb.cell (by simp)]
    show (W.alloc (.cells #[.int .u8 52] 5)).cell? ⟨W.heap.size, 0, none⟩ = some (.int .u8 52)
    unfold World.cell?
    rw [heap_alloc_new]; rfl)
  have HCE := Lib.hid (And.intro c0 (And.intro c2 d0))
  clear hcv hpp nd ht hz hgc IH
  generalize txtS [Fm.vb x] = T at *
  generalize shB f = E at *
  unfold ptrV at *
  rw [← hR.out]
  go_enter Tryz.func36, Tryz.ntmps36
  go_upto_region 23 with fail
  clear cB c1
  refine wp_region_U (by kernel_rfl) ?_
  refine wpU_seg 20 16 0 4 rfl (by decide) (by kernel_rfl) (fun c a d v w h => by cases d <;> exact h) (by kernel_rfl) ?_
  intro w7 hw7 K hK
  simp only [List.take_succ_cons, List.take_zero, List.drop_zero]
  have C0 := fun s' => Since.cell ((hw7.below.cell (p := ⟨p, 0, none⟩) hpl).trans HCE.out.1) s'
  repeat (go_big_quiet_step (with_reducible exact C0 _))
  refine wpQuiet_nil ?_
  refine hK _ ?_
  clear hK K hw7 C0
  refine wpU_seg 16 15 8 1 rfl (by decide) (by kernel_rfl) (fun c a d v w h => by cases d <;> exact h) (by kernel_rfl) ?_
  intro w7 hw7 K hK
  simp only [List.take_succ_cons, List.take_zero, List.drop_succ_cons, List.drop_zero]
  repeat (go_big_quiet_step (fail))
  refine wpQuiet_nil ?_
  refine hK _ ?_
  clear hK K hw7
  refine wpU_seg 15 8 11 7 rfl (by decide) (by kernel_rfl) (fun c a d v w h => by cases d <;> exact h) (by kernel_rfl) ?_
  intro w7 hw7 K hK
  simp only [List.take_succ_cons, List.take_zero, List.drop_succ_cons, List.drop_zero]
  have C2 := fun s' => Since.cell ((hw7.below.cell (p := ⟨p, 2, none⟩) hpl).trans HCE.out.2.1) s'
  have D0 := fun s' => Since.cell ((hw7.below.cell (p := ⟨g, 0, none⟩) hg).trans HCE.out.2.2) s'
  have HJ := Lib.hid (fun s' : Since w7 => HI.out s'.w (hw7.below.trans (s'.below.mono hw7.below.size)))
  have HJ2 : Hid (∀ s' : Since w7, Calls Tryz.prog 36 #[.pointer (some ⟨q, 0, none⟩)] s'.w fun e w' => e = .returned (.string E) ∧ Below s'.w.heap.size s'.w w') := HJ.out
  repeat (go_big_quiet_step (first | (with_reducible exact Since.call (HJ2.out _)) | (with_reducible exact C2 _) | (with_reducible exact D0 _)))
  refine wpQuiet_nil ?_
  refine hK _ ?_
  clear hK K hw7 C2 D0 HJ HJ2
  refine wpU_at 8 7 4 rfl (by kernel_rfl) ?_
  intro w8 hw8
  simp only [List.drop_succ_cons, List.drop_zero]
  refine ⟨by kernel_rfl, ?_⟩
  have HCW := Lib.hid (HCO.out w8)
  have HB8 := Lib.hid hw8.below
  refine wp_value (v := .slice (some ⟨w8.heap.size, 0, none⟩) 1 1) (w2 := w8.alloc (.cells #[.int .u8 52] 5)) (by kernel_rfl) ?_
  refine ⟨RS.of ((Below.refl _ _).alloc (Nat.le_refl _) _), ?_⟩
  clear hw8
  simp only [Act.put, List.setIfInBounds_toArray, List.set_cons_zero, List.set_cons_succ]
  have HS8 : Hid (Below w.heap.size w (w8.alloc (.cells #[.int .u8 52] 5))) := HB8.out.alloc HB8.out.size _
  have hsz8 : (w8.alloc (.cells #[.int .u8 52] 5)).heap.size = w8.heap.size + 1 := by simp
  have HSZ := Lib.hid hsz8
  clear hsz8 HB8
  generalize w8.alloc (.cells #[.int .u8 52] 5) = w9 at *
  refine wpU_seg 7 4 5 3 rfl (by decide) (by kernel_rfl) (fun c a d v w h => by cases d <;> exact h) (by kernel_rfl) ?_
  intro w7 hw7 K hK
  simp only [List.take_succ_cons, List.take_zero, List.drop_succ_cons, List.drop_zero]
  have HCV : ∀ s' : Since w7, (convert 22 9 (.slice (some ⟨w8.heap.size, 0, none⟩) 1 1)).run Tryz.prog s'.w = .ok (.string (txtS [52])) s'.w := fun s' => HCW.out s'.w ((hw7.below.trans (s'.below.mono hw7.below.size)).mono (by rw [HSZ.out]; exact Nat.le_refl _))
  repeat (go_big_quiet_step (fail))
  refine wpQuiet_nil ?_
  refine hK _ ?_
  clear hK K hw7 HCV
  refine wpU_seg 4 2 9 2 rfl (by decide) (by kernel_rfl) (fun c a d v w h => by cases d <;> exact h) (by kernel_rfl) ?_
  intro w7 hw7 K hK
  simp only [List.take_succ_cons, List.take_zero, List.drop_succ_cons, List.drop_zero]
  repeat (go_big_quiet_step (fail))
  refine wpQuiet_nil ?_
  refine hK _ ?_
  clear hK K hw7
  refine wpU_seg 2 0 18 2 rfl (by decide) (by kernel_rfl) (fun c a d v w h => by cases d <;> exact h) (by kernel_rfl) ?_
  intro w7 hw7 K hK
  simp only [List.take_succ_cons, List.take_zero, List.drop_succ_cons, List.drop_zero]
  repeat (go_big_quiet_step (fail))
  refine wpQuiet_nil ?_
  refine hK _ ?_
  clear hK K hw7
  refine ⟨by kernel_rfl, fun w10 hw10 => ?_⟩
  have HB := Lib.hid (HS8.out.trans (hw10.below.mono HS8.out.size))
  clear hw10
  go_wp2_with fail
  go_ret
  exact ⟨rfl, HB.out⟩
set_option maxHeartbeats 1000000 in
theorem show_and (f f2 : Fm.T) (hf : (Fm.text f).length ≤ 100000) (hf2 : (Fm.text f2).length ≤ 100000) (IH : ShowOK f) (IH2 : ShowOK f2) : ShowOK (.bin false f f2) := by
  intro F w p hT
  obtain ⟨v, u, q, r, nd, ht, ht2⟩ := hT
  obtain ⟨av, cv, ap, cp, rfl, rfl, hcp, c0, c1, c2, hpl, hcv, hpp⟩ := nd_facts nd 0 2 rfl rfl
  obtain ⟨g, rfl, hg, hgc⟩ := hpp (by decide)
  have d0 : w.cell? ⟨g, 0, none⟩ = some (ptrV q) := hgc 0 (by decide)
  have d1 : w.cell? ⟨g, 1, none⟩ = some (ptrV r) := hgc 1 (by decide)
  have cB := hcv w (Below.refl _ _)
  replace c0 : w.cell? ⟨p, 0, none⟩ = some (.int .u8 38) := c0
  have HI := Lib.hid (fun s : Since w => IH F s.w q (ht.below s.below))
  have HI2 := Lib.hid (fun s : Since w => IH2 F s.w r (ht2.below s.below))
  have hz := shB_size f
  have hz2 := shB_size f2
  have hzE : (shB f).size ≤ 2000000 := by omega
  have hzE2 : (shB f2).size ≤ 2000000 := by omega
  have hR : Hid ((⟨#[40]⟩ : ByteArray) ++ shB f ++ ⟨#[32, 97, 110, 100, 32]⟩ ++ shB f2 ++ ⟨#[41]⟩ = shB (.bin false f f2)) := rfl
  clear hcv hpp nd ht ht2 hz hz2 hgc IH IH2
  generalize shB f = E at *
  generalize shB f2 = E2 at *
  have y1 : (⟨#[40]⟩ ++ E : ByteArray).size ≤ 2000010 := by rw [ByteArray.size_append]; show 1 + E.size ≤ _; omega
  have y2 : (⟨#[40]⟩ ++ E ++ ⟨#[32, 97, 110, 100, 32]⟩ : ByteArray).size ≤ 2000020 := by rw [ByteArray.size_append, ByteArray.size_append]; show 1 + E.size + 5 ≤ _; omega
  have y3 : (⟨#[40]⟩ ++ E ++ ⟨#[32, 97, 110, 100, 32]⟩ ++ E2 : ByteArray).size ≤ 4000020 := by rw [ByteArray.size_append, ByteArray.size_append, ByteArray.size_append]; show 1 + E.size + 5 + E2.size ≤ _; omega
  unfold ptrV at *
  have C2 := fun s' => Since.cell c2 s'
  have D0 := fun s' => Since.cell d0 s'
  have D1 := fun s' => Since.cell d1 s'
  rw [← hR.out]
  go_enter Tryz.func36, Tryz.ntmps36
  go_upto_region 16 with fail
  refine wp_region_since (by kernel_rfl) (by kernel_rfl) ?_
  repeat (go_big_quiet_step (first | (with_reducible exact Since.call (HI.out _)) | (with_reducible exact Since.call (HI2.out _)) | (with_reducible exact C2 _) | (with_reducible exact D0 _) | (with_reducible exact D1 _)))
  refine wpQuiet_nil ?_
  intro w1 hb
  have HB := Lib.hid hb
  clear hb
  go_wp2_with fail
  go_ret
  exact ⟨rfl, HB.out⟩
set_option maxHeartbeats 1000000 in
theorem show_or (f f2 : Fm.T) (hf : (Fm.text f).length ≤ 100000) (hf2 : (Fm.text f2).length ≤ 100000) (IH : ShowOK f) (IH2 : ShowOK f2) : ShowOK (.bin true f f2) := by
  intro F w p hT
  obtain ⟨v, u, q, r, nd, ht, ht2⟩ := hT
  obtain ⟨av, cv, ap, cp, rfl, rfl, hcp, c0, c1, c2, hpl, hcv, hpp⟩ := nd_facts nd 0 2 rfl rfl
  obtain ⟨g, rfl, hg, hgc⟩ := hpp (by decide)
  have d0 : w.cell? ⟨g, 0, none⟩ = some (ptrV q) := hgc 0 (by decide)
  have d1 : w.cell? ⟨g, 1, none⟩ = some (ptrV r) := hgc 1 (by decide)
  have cB := hcv w (Below.refl _ _)
  replace c0 : w.cell? ⟨p, 0, none⟩ = some (.int .u8 124) := c0
  have HI := Lib.hid (fun s : Since w => IH F s.w q (ht.below s.below))
  have HI2 := Lib.hid (fun s : Since w => IH2 F s.w r (ht2.below s.below))
  have hz := shB_size f
  have hz2 := shB_size f2
  have hzE : (shB f).size ≤ 2000000 := by omega
  have hzE2 : (shB f2).size ≤ 2000000 := by omega
  have hR : Hid ((⟨#[40]⟩ : ByteArray) ++ shB f ++ ⟨#[32, 111, 114, 32]⟩ ++ shB f2 ++ ⟨#[41]⟩ = shB (.bin true f f2)) := rfl
  clear hcv hpp nd ht ht2 hz hz2 hgc IH IH2
  generalize shB f = E at *
  generalize shB f2 = E2 at *
  have y1 : (⟨#[40]⟩ ++ E : ByteArray).size ≤ 2000010 := by rw [ByteArray.size_append]; show 1 + E.size ≤ _; omega
  have y2 : (⟨#[40]⟩ ++ E ++ ⟨#[32, 111, 114, 32]⟩ : ByteArray).size ≤ 2000020 := by rw [ByteArray.size_append, ByteArray.size_append]; show 1 + E.size + 4 ≤ _; omega
  have y3 : (⟨#[40]⟩ ++ E ++ ⟨#[32, 111, 114, 32]⟩ ++ E2 : ByteArray).size ≤ 4000020 := by rw [ByteArray.size_append, ByteArray.size_append, ByteArray.size_append]; show 1 + E.size + 4 + E2.size ≤ _; omega
  unfold ptrV at *
  have C2 := fun s' => Since.cell c2 s'
  have D0 := fun s' => Since.cell d0 s'
  have D1 := fun s' => Since.cell d1 s'
  rw [← hR.out]
  go_enter Tryz.func36, Tryz.ntmps36
  go_upto_region 18 with fail
  refine wp_region_since (by kernel_rfl) (by kernel_rfl) ?_
  repeat (go_big_quiet_step (first | (with_reducible exact Since.call (HI.out _)) | (with_reducible exact Since.call (HI2.out _)) | (with_reducible exact C2 _) | (with_reducible exact D0 _) | (with_reducible exact D1 _)))
  refine wpQuiet_nil ?_
  intro w1 hb
  have HB := Lib.hid hb
  clear hb
  go_wp2_with fail
  go_ret
  exact ⟨rfl, HB.out⟩
theorem show_all_any : ∀ φ : Fm.T, (Fm.text φ).length ≤ 100000 → ShowOK φ
  | .lit true, _ => show_true
  | .lit false, _ => show_false
  | .set x, _ => show_set x
  | .rel false x y, _ => show_eq x y
  | .rel true x y, _ => show_rel x y
  | .neg f, h => show_neg f (by simp only [Fm.text, List.length_cons] at h; omega) (show_all_any f (by simp only [Fm.text, List.length_cons] at h; omega))
  | .bin false f g, h => show_and f g (by simp only [Fm.text, List.length_cons, List.length_append] at h; omega) (by simp only [Fm.text, List.length_cons, List.length_append] at h; omega) (show_all_any f (by simp only [Fm.text, List.length_cons, List.length_append] at h; omega)) (show_all_any g (by simp only [Fm.text, List.length_cons, List.length_append] at h; omega))
  | .bin true f g, h => show_or f g (by simp only [Fm.text, List.length_cons, List.length_append] at h; omega) (by simp only [Fm.text, List.length_cons, List.length_append] at h; omega) (show_all_any f (by simp only [Fm.text, List.length_cons, List.length_append] at h; omega)) (show_all_any g (by simp only [Fm.text, List.length_cons, List.length_append] at h; omega))
  | .qu .all x f, h => show_all x f (by simp only [Fm.text, List.length_cons] at h; omega) (show_all_any f (by simp only [Fm.text, List.length_cons] at h; omega))
  | .qu .some x f, h => show_some x f (by simp only [Fm.text, List.length_cons] at h; omega) (show_all_any f (by simp only [Fm.text, List.length_cons] at h; omega))
  | .qu .two x f, h => show_two x f (by simp only [Fm.text, List.length_cons] at h; omega) (show_all_any f (by simp only [Fm.text, List.length_cons] at h; omega))
  | .qu .three x f, h => show_three x f (by simp only [Fm.text, List.length_cons] at h; omega) (show_all_any f (by simp only [Fm.text, List.length_cons] at h; omega))
  | .qu .four x f, h => show_four x f (by simp only [Fm.text, List.length_cons] at h; omega) (show_all_any f (by simp only [Fm.text, List.length_cons] at h; omega))
theorem ShowFormula_any (f : ByteArray) (φ : Fm.T) (hr : readB f = some φ) (hf : f.size ≤ 9223372036854775807) (w : World) : Calls Tryz.prog 11 #[.string f] w fun e w' => e = .returned (.string (shB φ)) ∧ Below w.heap.size w w' := by
  have hlen : (Fm.text φ).length ≤ 100000 := by
    have h := (Fm.read_iff (s := f.data.toList)).1 hr
    rw [← h.1]
    omega
  have HS := Lib.hid (show_all_any φ hlen)
  have HPF := Lib.hid (fun w => parseFormula_any f w hf)
  go_enter Tryz.func11, Tryz.ntmps11
  go_wp2_with fail
  refine (HPF.out _).mono ?_; rintro e w2 ⟨hb, ⟨h, _⟩ | ⟨φ', p, h, rfl, ht⟩⟩
  · rw [hr] at h; cases h
  · rw [hr] at h
    injection h with h
    subst h
    have HB := Lib.hid hb
    have HC := Lib.hid (HS.out _ _ _ ht)
    clear hb ht hr HPF HS hlen
    unfold ptrV at *
    go_wp2_with fail
    refine HC.out.mono ?_; rintro e w3 ⟨rfl, hb⟩
    have HB3 := Lib.hid (HB.out.trans (hb.mono HB.out.size))
    clear hb
    go_wp2_with fail
    go_ret
    exact ⟨rfl, HB3.out⟩
end Go.Proofs.YtihomcedaaiidaaGreatDoor

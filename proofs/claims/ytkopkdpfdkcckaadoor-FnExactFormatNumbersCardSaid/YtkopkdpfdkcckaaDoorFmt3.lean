/- The law FnExactFormatNumbers: it returns true. Conditions: the argument is a list of numbers; the table of powers of ten holds what it does. -/
import Derived.Test.YtkopkdpfdkcckaaDoorFmt2
import Derived.Test.YtkopkdpfdkcckaaDoorInts
namespace Go.Proofs.YtkopkdpfdkcckaaDoor
open Go.RowKit
set_option linter.unusedVariables false

/-- A slice that holds numbers. -/
def IntsIn (w : World) (v : Value) (ys : List Int) : Prop :=
  ∃ g, v = .slice (some ⟨g, 0, none⟩) ys.length ys.length ∧ g < w.heap.size ∧ ∀ j (h : j < ys.length), w.cell? ⟨g, j, none⟩ = some (.int .i64 ys[j])
theorem IntsOut.toIn {w w' : World} {v : Value} {ys : List Int} (h : IntsOut w w' v ys) : IntsIn w' v ys := ⟨_, h.form, h.lt, h.cells⟩
theorem IntsIn.below {w w' : World} {v : Value} {ys : List Int} (h : IntsIn w v ys) (hb : Below w.heap.size w w') : IntsIn w' v ys := by
  obtain ⟨g, h1, h2, h3⟩ := h
  exact ⟨g, h1, Nat.lt_of_lt_of_le h2 hb.size, fun j hj => (hb.cell (p := ⟨g, j, none⟩) h2).trans (h3 j hj)⟩

theorem implFmt_in (v : Value) (ys : List Int) (w : World) (h : IntsIn w v ys) (hl : ys.length ≤ 1048576) (hf : Fits ys) (ht : Tab w) :
    Calls Tryd.prog 16 #[v] w fun e w' => e = .returned (.string (fmtRes ys)) ∧ Below w.heap.size w w' := by
  obtain ⟨g, rfl, hg, hc⟩ := h
  unfold fmtRes
  by_cases h0 : ys.length = 0
  · rw [if_pos h0, h0]
    exact implFmt_zero _ _ w
  · rw [if_neg h0]
    exact implFmt_any g 0 ys.length ys w h0 hl hf ht (Nat.le_refl _) (by unfold maxLen; omega) hg (fun j hj => by rw [Nat.zero_add]; exact hc j hj)
theorem specFmt_in (v : Value) (ys : List Int) (w : World) (h : IntsIn w v ys) (hl : ys.length ≤ 1048576) (hf : Fits ys) :
    Calls Tryd.prog 14 #[v] w fun e w' => e = .returned (.string (fmtRes ys)) ∧ Below w.heap.size w w' := by
  obtain ⟨g, rfl, hg, hc⟩ := h
  unfold fmtRes
  by_cases h0 : ys.length = 0
  · rw [if_pos h0, h0]
    exact specFmt_zero _ _ w
  · rw [if_neg h0]
    exact specFmt_any g 0 ys.length ys w h0 hl hf (Nat.le_refl _) (by unfold maxLen; omega) hg (fun j hj => by rw [Nat.zero_add]; exact hc j hj)
theorem eqInts_in (v v2 : Value) (ys : List Int) (w : World) (h : IntsIn w v ys) (h2 : IntsIn w v2 ys) (hl : ys.length ≤ 1048576) :
    Calls Tryd.prog 17 #[v, v2] w fun e w' => e = .returned (.bool true) ∧ Below w.heap.size w w' := by
  obtain ⟨g, rfl, hg, hc⟩ := h
  obtain ⟨g2, rfl, hg2, hc2⟩ := h2
  exact eqIntS_same ys g g2 w (by omega) hc hc2
theorem row_fits {w : World} {a : Option Addr} {len cap : Nat} {zs : List Int} (h : IsRow .i64 w a len cap zs) : Fits (zs.take len) := by
  intro z hz
  have hm := List.mem_of_mem_take hz
  rcases h with ⟨_, _, _, rfl⟩ | ⟨x, _, _, _, _, _, h6⟩
  · cases hm
  · exact bounds_i64 (h6 z hm)

theorem fnExactFormatNumbers_walk (a0 : Option Addr) (len0 cap0 : Nat) (z0 : List Int) (w : World) (w0 : IsRow .i64 w a0 len0 cap0 z0) (ht : Tab w) :
    Calls Tryd.prog 4 #[.slice a0 len0 cap0] w fun e w' => e = .returned (.bool true) ∧ Below w.heap.size w w' := by
  have hf := row_fits w0
  have hll : (z0.take len0).length ≤ len0 := by rw [List.length_take]; omega
  have HT := Lib.hid ht; have HW := Lib.hid w0; have HF := Lib.hid hf; clear ht w0 hf
  by_cases h0 : (len0 : Int) ≤ 1048576
  · have HL : Hid ((z0.take len0).length ≤ 1048576) := by show _ ≤ _; omega
    have HC := Lib.hid (fun W hb => toIntS_any W a0 len0 cap0 z0 (HW.out.below (w' := W) hb) h0)
    clear HW hll
    generalize z0.take len0 = ys at *
    go_enter Tryd.func4, Tryd.ntmps4
    go_wp2_with fail
    refine (HC.out w (Below.refl _ _)).mono ?_; rintro e w1 ⟨v1, rfl, hi1⟩
    have HI1 := Lib.hid hi1; clear hi1
    go_wp2_with fail
    refine (specFmt_in v1 ys w1 HI1.out.toIn HL.out HF.out).mono ?_; rintro e w2 ⟨rfl, hb⟩
    have HB2 := Lib.hid (HI1.out.old.trans (hb.mono HI1.out.old.size)); clear hb HI1
    go_wp2_with fail
    refine (HC.out w2 HB2.out).mono ?_; rintro e w3 ⟨v3, rfl, hi3⟩
    have HI3 := Lib.hid hi3; clear hi3
    have HB3 := Lib.hid (HB2.out.trans (HI3.out.old.mono HB2.out.size))
    go_wp2_with fail
    refine (implFmt_in v3 ys w3 HI3.out.toIn HL.out HF.out (HT.out.below HB3.out (Nat.le_refl _))).mono ?_; rintro e w4 ⟨rfl, hb⟩
    have HN3 := Lib.hid (HI3.out.toIn.below hb)
    have HB4 := Lib.hid (HB3.out.trans (hb.mono HB3.out.size)); clear hb HI3
    generalize fmtRes ys = F at *
    go_wp2_with fail
    refine (HC.out w4 HB4.out).mono ?_; rintro e w5 ⟨v5, rfl, hi5⟩
    have HI5 := Lib.hid hi5; clear hi5
    have HB5 := Lib.hid (HB4.out.trans (HI5.out.old.mono HB4.out.size))
    go_wp2_with fail
    refine (eqInts_in v3 v5 ys w5 (HN3.out.below HI5.out.old) HI5.out.toIn HL.out).mono ?_; rintro e w6 ⟨rfl, hb⟩
    have HB6 := Lib.hid (HB5.out.trans (hb.mono HB5.out.size)); clear hb
    go_wp2_with fail
    go_ret
    exact ⟨rfl, HB6.out⟩
  · go_enter Tryd.func4, Tryd.ntmps4
    go_wp2_with fail
    go_ret
    exact ⟨rfl, Below.refl _ _⟩
end Go.Proofs.YtkopkdpfdkcckaaDoor

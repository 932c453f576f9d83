/- The law FnExactFormatNumbers: it returns true. Conditions: the argument is a list of numbers; the table of powers of ten holds what it does. -/
import Derived.Test.YtmabpmkkleelaaaDoorFmt2
import Derived.Test.YtmabpmkkleelaaaDoorInts
namespace Go.Proofs.YtmabpmkkleelaaaDoor
open Go.RowKit
set_option linter.unusedVariables false

/-- A slice that holds numbers. -/
def IntsIn (w : World) (v : Value) (ys : List Int) : Prop :=
  ∃ g, v = .slice (some ⟨g, 0, none⟩) ys.length ys.length ∧ g < w.heap.size ∧ ∀ j (h : j < ys.length), w.cell? ⟨g, j, none⟩ = some (.int .i64 ys[j])
theorem IntsOut.toIn {w w' : World} {v : Value} {ys : List Int} (h : IntsOut w w' v ys) : IntsIn w' v ys := ⟨_, h.form, h.lt, h.cells⟩
theorem IntsIn.below {w w' : World} {v : Value} {ys : List Int} (h : IntsIn w v ys) (hb : Below w.heap.size w w') : IntsIn w' v ys := by
  obtain ⟨g, h1, h2, h3⟩ := h
  exact ⟨g, h1, Nat.lt_of_lt_of_le h2 hb.size, fun j hj => (hb.cell (p := ⟨g, j, none⟩) h2).trans (h3 j hj)⟩

theorem implFmt_in (v : Value) (ys : List Int) (w : World) (h : IntsIn w v ys) (hl : ys.length ≤ 1048576) (hf : Fits ys) (ht : Tab w) :
    Calls Tryd.prog 37 #[v] w fun e w' => e = .returned (.string (fmtRes ys)) ∧ Below w.heap.size w w' := by
  obtain ⟨g, rfl, hg, hc⟩ := h
  unfold fmtRes
  by_cases h0 : ys.length = 0
  · rw [if_pos h0, h0]
    exact implFmt_zero _ _ w
  · rw [if_neg h0]
    exact implFmt_any g 0 ys.length ys w h0 hl hf ht (Nat.le_refl _) (by unfold maxLen; omega) hg (fun j hj => by rw [Nat.zero_add]; exact hc j hj)
theorem specFmt_in (v : Value) (ys : List Int) (w : World) (h : IntsIn w v ys) (hl : ys.length ≤ 1048576) (hf : Fits ys) :
    Calls Tryd.prog 38 #[v] w fun e w' => e = .returned (.string (fmtRes ys)) ∧ Below w.heap.size w w' := by
  obtain ⟨g, rfl, hg, hc⟩ := h
  unfold fmtRes
  by_cases h0 : ys.length = 0
  · rw [if_pos h0, h0]
    exact specFmt_zero _ _ w
  · rw [if_neg h0]
    exact specFmt_any g 0 ys.length ys w h0 hl hf (Nat.le_refl _) (by unfold maxLen; omega) hg (fun j hj => by rw [Nat.zero_add]; exact hc j hj)
theorem row_fits {w : World} {a : Option Addr} {len cap : Nat} {zs : List Int} (h : IsRow .i64 w a len cap zs) : Fits (zs.take len) := by
  intro z hz
  have hm := List.mem_of_mem_take hz
  rcases h with ⟨_, _, _, rfl⟩ | ⟨x, _, _, _, _, _, h6⟩
  · cases hm
  · exact bounds_i64 (h6 z hm)

end Go.Proofs.YtmabpmkkleelaaaDoor

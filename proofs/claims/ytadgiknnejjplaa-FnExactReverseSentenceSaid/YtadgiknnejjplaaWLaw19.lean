/- The law FnExactReverseSentence: both answer alike. Condition: the text's length fits an integer. -/
import Derived.Test.YtadgiknnejjplaaRevS
namespace Go.Proofs.Ytadgiknnejjplaa
open Go.RowKit
set_option linter.unusedVariables false

theorem fnExactReverseSentence_walk (f : ByteArray) (w : World) (hf : f.size ≤ maxLen) :
    Calls Try.prog 4 #[.string f] w fun e w' => e = .returned (.bool true) ∧ Below w.heap.size w w' := by
  unfold maxLen at hf
  have HS := Lib.hid (fun w => specReverse_any f (by omega) w)
  have HI := Lib.hid (fun w => implReverse_any f (by omega) w)
  obtain ⟨s, b, hsf⟩ := short_form (rvRes f)
  rw [hsf] at HS HI
  clear hsf
  by_cases h1 : 1048576 < f.size
  · go_enter Try.func4, Try.ntmps4
    go_wp2_with fail
    go_ret
    exact ⟨rfl, Below.refl _ _⟩
  go_enter Try.func4, Try.ntmps4
  go_wp2_with fail
  refine (HS.out _).mono ?_; rintro _ w1 ⟨rfl, hb1⟩
  have HB1 := Lib.hid hb1
  clear hb1
  go_wp2_with fail
  refine (HI.out _).mono ?_; rintro _ w2 ⟨rfl, hb2⟩
  have HB2 := Lib.hid (HB1.out.trans (hb2.mono HB1.out.size))
  clear hb2
  cases b
  all_goals
    go_wp2_with fail
    go_ret
    exact ⟨rfl, HB2.out⟩
end Go.Proofs.Ytadgiknnejjplaa

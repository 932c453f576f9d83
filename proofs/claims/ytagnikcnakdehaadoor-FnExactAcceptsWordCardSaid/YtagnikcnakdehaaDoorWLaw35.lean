/- The law FnExactAcceptsWord: both answer alike. Conditions: the texts' lengths fit an integer. -/
import Derived.Test.YtagnikcnakdehaaDoorHoldsIn
namespace Go.Proofs.YtagnikcnakdehaaDoor
open Go.RowKit
set_option linter.unusedVariables false

theorem fnExactAcceptsWord_walk (f s : ByteArray) (w : World) (hf : f.size ≤ maxLen) (hs : s.size ≤ maxLen) :
    Calls Tryd.prog 13 #[.string f, .string s] w fun e w' => e = .returned (.bool true) ∧ Below w.heap.size w w' := by
  unfold maxLen at hf hs
  have HS := Lib.hid (fun w => specAccepts_any f s (by omega) (by omega) w)
  have HI := Lib.hid (fun w => implAccepts_any f s (by omega) (by omega) w)
  generalize accW f s = r at *
  obtain ⟨r1, r2⟩ := r
  by_cases h1 : 1048576 < f.size
  · go_enter Tryd.func13, Tryd.ntmps13
    go_wp2_with fail
    go_ret
    exact ⟨rfl, Below.refl _ _⟩
  by_cases h2 : 1048576 < s.size
  · go_enter Tryd.func13, Tryd.ntmps13
    go_wp2_with fail
    go_ret
    exact ⟨rfl, Below.refl _ _⟩
  go_enter Tryd.func13, Tryd.ntmps13
  go_wp2_with fail
  refine (HS.out _).mono ?_; rintro _ w1 ⟨rfl, hb1⟩
  have HB1 := Lib.hid hb1
  clear hb1
  go_wp2_with fail
  refine (HI.out _).mono ?_; rintro _ w2 ⟨rfl, hb2⟩
  have HB2 := Lib.hid (HB1.out.trans (hb2.mono HB1.out.size))
  clear hb2
  cases r1 <;> cases r2
  all_goals
    go_wp2_with fail
    go_ret
    exact ⟨rfl, HB2.out⟩
end Go.Proofs.YtagnikcnakdehaaDoor

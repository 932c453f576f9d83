/- The law FnExactWordsOf: both answer alike. Condition: the text's length fits an integer. -/
import Derived.Test.YtadgiknnejjplaaWordsO
import Derived.Test.YtadgiknnejjplaaMarks0
namespace Go.Proofs.Ytadgiknnejjplaa
open Go.RowKit
set_option linter.unusedVariables false
set_option maxRecDepth 100000

theorem truW_length (φ : Fm.T) (z : Nat) (hz : z ≤ 8) : (truW φ z).length ≤ 256 := by
  have h1 := List.length_filter_le (fun u => Fm.holds (wSt' u) φ env0) (allW z)
  have h2 := allW_length z
  have h3 := pow_8 hz
  unfold truW
  omega
theorem wordsRes_length {f : ByteArray} {z : Int} {L : List ByteArray} (h : wordsRes f z = some L) : L.length ≤ 256 := by
  rcases wordsRes_is f z with ⟨h1, _⟩ | ⟨φ, hr, _, hz, h1⟩
  · rw [h1] at h; cases h
  · rw [h1] at h
    injection h with h
    subst h
    have := inB_iff.1 hz
    exact truW_length φ _ (by omega)
/-- What WordsOf leaves, as a list and a truth. -/
def WdsT (w : World) (L : List ByteArray) (b : Bool) (e : Ending) (w' : World) : Prop := ∃ v, e = .returned (.tuple #[v, .bool b]) ∧ OwnT w.heap.size w' v L ∧ Below w.heap.size w w'
theorem WdsP.t {w : World} {r : Option (List ByteArray)} {e : Ending} {w' : World} (h : WdsP w r e w') : WdsT w (r.getD []) r.isSome e w' := by
  obtain ⟨hb, ⟨rfl, v, rfl, hv⟩ | ⟨v, L, rfl, rfl, hv⟩⟩ := h
  · exact ⟨v, rfl, by rcases hv with h | h; · exact .inl ⟨h, rfl⟩
                      · exact .inr h, hb⟩
  · exact ⟨v, rfl, .inr hv, hb⟩
set_option maxHeartbeats 1000000 in
theorem fnExactWordsOf_walk (f : ByteArray) (z : Int) (w : World) (hf : f.size ≤ maxLen) (_w1 : (Lit.int .i64 z).wf = true) :
    Calls Try.prog 3 #[.string f, .int .i64 z] w fun e w' => e = .returned (.bool true) ∧ Below w.heap.size w w' := by
  unfold maxLen at hf
  have H1 := Lib.hid (fun w => (specWordsOf_any f (by omega) z w).mono fun _ _ h => h.t)
  have H2 := Lib.hid (fun w => (implWordsOf_any f (by omega) z w).mono fun _ _ h => h.t)
  have hl : ((wordsRes f z).getD []).length ≤ 256 := by
    cases h : wordsRes f z with
    | none => simp
    | some L => exact wordsRes_length h
  generalize (wordsRes f z).getD [] = L at *
  generalize (wordsRes f z).isSome = b at *
  by_cases z1 : 1048576 < f.size
  · go_enter Try.func3, Try.ntmps3
    go_wp2_with fail
    go_ret
    exact ⟨rfl, Below.refl _ _⟩
  go_enter Try.func3, Try.ntmps3
  go_wp2_with fail
  refine (H1.out _).mono ?_; rintro e w1 ⟨v0, rfl, h0, hb⟩
  have HV := Lib.hid h0.texts
  have HB1 := Lib.hid hb; clear hb h0
  go_wp2_with fail
  refine (H2.out _).mono ?_; rintro e w2 ⟨g0, rfl, hg, hb⟩
  have HG := Lib.hid hg
  have HB2 := Lib.hid hb; clear hb hg
  go_wp2_with fail
  refine (eqStringS_same g0 v0 L _ HG.out.texts (HV.out.below HB2.out) (by omega)).mono ?_; rintro e w3 ⟨rfl, hb⟩
  have HB3 := Lib.hid (HB2.out.trans (hb.mono HB2.out.size))
  have HG3 := Lib.hid (HG.out.below hb)
  clear hb
  have e1 : ((1 + L.length : Nat) : Int) = 1 + (L.length : Int) := by omega
  cases b
  all_goals
    go_wp2_with fail
    refine (markT_any g0 L 1 w1.heap.size _ HG3.out (by omega) (by omega) HB3.out.size).mono ?_; rintro e w4 ⟨rfl, hb, M, hM, ho, hk⟩
    have HB4 := Lib.hid (HB3.out.trans hb)
    have HG4 := Lib.hid ho
    have HMK := Lib.hid hk
    clear hb ho hk
    go_wp2_with fail
    refine (heldStringS_any g0 M 1 _ HG4.out.texts (fun j hj => HMK.out j (by omega)) (by omega) (by omega)).mono ?_; rintro e w5 ⟨rfl, hb⟩
    have HB5 := Lib.hid (HB4.out.trans (hb.mono HB4.out.size))
    have HG5 := Lib.hid (HG4.out.below hb)
    clear hb
    rw [hM]
    have e2 : ((1 : Int) + (L.length : Int) < 0) = False := by simp; omega
    go_wp2_with fail
    refine (H2.out _).mono ?_; rintro e w6 ⟨h0, rfl, hg, hb⟩
    have HH := Lib.hid hg
    have HB6 := Lib.hid (HB5.out.trans (hb.mono HB5.out.size))
    have HG6 := Lib.hid (HG5.out.below hb)
    clear hb hg
    go_wp2_with fail
    refine (eqStringS_same h0 v0 L _ HH.out.texts (HV.out.below HB6.out) (by omega)).mono ?_; rintro e w7 ⟨rfl, hb⟩
    have HB7 := Lib.hid (HB6.out.trans (hb.mono HB6.out.size))
    have HG7 := Lib.hid (HG6.out.below hb)
    clear hb
    go_wp2_with fail
    refine (heldStringS_any g0 M 1 _ HG7.out.texts (fun j hj => HMK.out j (by omega)) (by omega) (by omega)).mono ?_; rintro e w8 ⟨rfl, hb⟩
    have HB8 := Lib.hid (HB1.out.trans ((HB7.out.trans (hb.mono HB7.out.size)).mono HB1.out.size))
    clear hb
    rw [hM]
    go_wp2_with fail
    go_ret
    exact ⟨rfl, HB8.out⟩
end Go.Proofs.Ytadgiknnejjplaa

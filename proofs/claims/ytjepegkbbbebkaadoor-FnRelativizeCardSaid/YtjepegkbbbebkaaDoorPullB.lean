/- PullBack of the program and of the reference. Condition: the texts' lengths fit an integer. -/
import Derived.Test.YtjepegkbbbebkaaDoorPut2
import Derived.Test.YtjepegkbbbebkaaDoorPut3
import Derived.Test.YtjepegkbbbebkaaDoorViewOf
import Derived.Test.YtjepegkbbbebkaaDoorOkV
import Derived.Laws.ResultCell
import Derived.Lib.SlBytesConst
import Derived.Laws.Cover3
namespace Go.Proofs.YtjepegkbbbebkaaDoor
open Go.RowKit
set_option linter.unusedVariables false
set_option maxRecDepth 100000

/-- What is told of a text that is put: it, if it is not too long. -/
def shortV (r : Option Fm.T) : Value := match r with
  | none => .tuple #[.string ⟨#[]⟩, .bool false]
  | some ψ => if (Fm.text ψ).length ≤ 4000 then .tuple #[.string (txtS (Fm.text ψ)), .bool true] else .tuple #[.string ⟨#[]⟩, .bool false]
theorem shortFormula_any (s : ByteArray) (b : Bool) (R : Value) (hR : (if b = true ∧ s.size ≤ 4000 then (.tuple #[.string s, .bool true] : Value) else .tuple #[.string ⟨#[]⟩, .bool false]) = R) (w : World) (hs : s.size ≤ 9223372036854775807) :
    Calls Tryd.prog 64 #[.string s, .bool b] w fun e w' => e = .returned R ∧ w' = w := by
  by_cases h : s.size ≤ 4000
  · have hI : ¬ ((4000 : Int) < (s.size : Int)) := by omega
    cases b
    · have HE : Hid (R = .tuple #[.string ⟨#[]⟩, .bool false]) := by show _ = _; rw [← hR]; exact if_neg (by simp)
      clear hR h
      go_enter Tryd.func64, Tryd.ntmps64
      go_wp2_with fail
      go_ret2
      exact ⟨congrArg Ending.returned HE.out.symm, rfl⟩
    · have HE : Hid (R = .tuple #[.string s, .bool true]) := by show _ = _; rw [← hR]; exact if_pos ⟨rfl, h⟩
      clear hR h
      go_enter Tryd.func64, Tryd.ntmps64
      go_wp2_with fail
      go_ret2
      exact ⟨congrArg Ending.returned HE.out.symm, rfl⟩
  · have hI : ((4000 : Int) < (s.size : Int)) := by omega
    have HE : Hid (R = .tuple #[.string ⟨#[]⟩, .bool false]) := by show _ = _; rw [← hR]; exact if_neg (fun h' => h h'.2)
    clear hR h
    cases b
    all_goals
      go_enter Tryd.func64, Tryd.ntmps64
      go_wp2_with fail
      go_ret2
      exact ⟨congrArg Ending.returned HE.out.symm, rfl⟩
theorem l11Result_any (s : ByteArray) (b : Bool) (R : Value) (hR : (if b = true ∧ s.size ≤ 4000 then (.tuple #[.string s, .bool true] : Value) else .tuple #[.string ⟨#[]⟩, .bool false]) = R) (w : World) (hs : s.size ≤ 9223372036854775807) :
    Calls Tryd.prog 68 #[.string s, .bool b] w fun e w' => e = .returned R ∧ w' = w := by
  by_cases h : s.size ≤ 4000
  · have hI : ¬ ((4000 : Int) < (s.size : Int)) := by omega
    cases b
    · have HE : Hid (R = .tuple #[.string ⟨#[]⟩, .bool false]) := by show _ = _; rw [← hR]; exact if_neg (by simp)
      clear hR h
      go_enter Tryd.func68, Tryd.ntmps68
      go_wp2_with fail
      go_ret2
      exact ⟨congrArg Ending.returned HE.out.symm, rfl⟩
    · have HE : Hid (R = .tuple #[.string s, .bool true]) := by show _ = _; rw [← hR]; exact if_pos ⟨rfl, h⟩
      clear hR h
      go_enter Tryd.func68, Tryd.ntmps68
      go_wp2_with fail
      go_ret2
      exact ⟨congrArg Ending.returned HE.out.symm, rfl⟩
  · have hI : ((4000 : Int) < (s.size : Int)) := by omega
    have HE : Hid (R = .tuple #[.string ⟨#[]⟩, .bool false]) := by show _ = _; rw [← hR]; exact if_neg (fun h' => h h'.2)
    clear hR h
    cases b
    all_goals
      go_enter Tryd.func68, Tryd.ntmps68
      go_wp2_with fail
      go_ret2
      exact ⟨congrArg Ending.returned HE.out.symm, rfl⟩
theorem short_of {r : Option Fm.T} {s : ByteArray} {b : Bool} (h : LR r s b) : (if b = true ∧ s.size ≤ 4000 then (.tuple #[.string s, .bool true] : Value) else .tuple #[.string ⟨#[]⟩, .bool false]) = shortV r := by
  rcases h with ⟨rfl, rfl⟩ | ⟨ψ, rfl, rfl, rfl⟩
  · rw [if_neg (by simp)]; rfl
  · unfold shortV
    rw [tS_size]
    by_cases h : (Fm.text ψ).length ≤ 4000
    · rw [if_pos ⟨rfl, h⟩]; simp only [if_pos h]; rfl
    · rw [if_neg (fun h' => h h'.2)]; simp only [if_neg h]
theorem short_form (r : Option Fm.T) : ∃ s b, shortV r = .tuple #[.string s, .bool b] := by
  cases r with
  | none => exact ⟨_, _, rfl⟩
  | some ψ =>
    unfold shortV
    by_cases h : (Fm.text ψ).length ≤ 4000
    · simp only [if_pos h]; exact ⟨_, _, rfl⟩
    · simp only [if_neg h]; exact ⟨_, _, rfl⟩
/-- What PullBack returns. -/
def pbRes (h f g : ByteArray) : Option Fm.T :=
  match readB h, viewB f g with
  | some χ, some (φ, ψ) => Fm.putG (some (φ, ψ)) χ id
  | _, _ => none
theorem pb_none1 {h f g : ByteArray} (e : readB h = none) : pbRes h f g = none := by unfold pbRes; rw [e]
theorem pb_none2 {h f g : ByteArray} (e : viewB f g = none) : pbRes h f g = none := by unfold pbRes; rw [e]; cases readB h <;> rfl
theorem pb_some {h f g : ByteArray} {χ φ ψ : Fm.T} (e : readB h = some χ) (e2 : viewB f g = some (φ, ψ)) : pbRes h f g = Fm.putG (some (φ, ψ)) χ id := by unfold pbRes; rw [e, e2]
theorem read_len {f : ByteArray} {φ : Fm.T} (h : readB f = some φ) : (Fm.text φ).length ≤ 4000 ∧ f.data.toList = Fm.text φ := by
  have := (Fm.read_iff (s := f.data.toList)).1 h
  rw [← this.1]; exact ⟨this.2, rfl⟩
theorem viewB_reads {f g : ByteArray} {φ ψ : Fm.T} (h : viewB f g = some (φ, ψ)) : readB f = some φ ∧ readB g = some ψ := by
  unfold viewB at h
  cases hf : readB f with
  | none => rw [hf] at h; cases h
  | some φ' =>
    cases hg : readB g with
    | none => rw [hf, hg] at h; cases h
    | some ψ' =>
      rw [hf, hg] at h
      simp only at h
      by_cases hz : Fm.free φ' / 2 = 0 ∧ Fm.free ψ' / 4 = 0
      · rw [if_pos hz] at h
        injection h with h
        injection h with h1 h2
        exact ⟨by rw [h1], by rw [h2]⟩
      · rw [if_neg hz] at h; cases h
theorem slice_arr (w : World) (g : Nat) (h : w.heap[g]? = some (.cells #[.int .u8 97, .int .u8 98, .int .u8 99, .int .u8 100] 5 (0, 0))) : True := trivial

theorem pview_ok {f g : ByteArray} {φ ψ : Fm.T} (h : viewB f g = some (φ, ψ)) : readB f = some φ ∧ readB g = some ψ ∧ okV f 2 = true ∧ okV g 4 = true := by
  unfold viewB at h
  cases hf : readB f with
  | none => rw [hf] at h; cases h
  | some φ' =>
    cases hg : readB g with
    | none => rw [hf, hg] at h; cases h
    | some ψ' =>
      rw [hf, hg] at h
      simp only at h
      by_cases hz : Fm.free φ' / 2 = 0 ∧ Fm.free ψ' / 4 = 0
      · rw [if_pos hz] at h
        injection h with h
        injection h with h1 h2
        subst h1; subst h2
        exact ⟨rfl, rfl, by rw [okV_some hf, decide_eq_true_iff]; exact hz.1, by rw [okV_some hg, decide_eq_true_iff]; exact hz.2⟩
      · rw [if_neg hz] at h; cases h
theorem pview_no {f g : ByteArray} (h : viewB f g = none) : okV f 2 = false ∨ okV g 4 = false := by
  unfold viewB at h
  cases hf : readB f with
  | none => exact .inl (okV_none hf)
  | some φ' =>
    cases hg : readB g with
    | none => exact .inr (okV_none hg)
    | some ψ' =>
      rw [hf, hg] at h
      simp only at h
      by_cases hz : Fm.free φ' / 2 = 0 ∧ Fm.free ψ' / 4 = 0
      · rw [if_pos hz] at h; cases h
      · by_cases h1 : Fm.free φ' / 2 = 0
        · exact .inr (by rw [okV_some hg, decide_eq_false_iff_not]; exact fun h2 => hz ⟨h1, h2⟩)
        · exact .inl (by rw [okV_some hf, decide_eq_false_iff_not]; exact h1)
theorem upto1 {s : Nat} (h : s / 2 = 0) (u : Fin 4) (hu : s.testBit u.val = true) : u = 0 := by
  have hs : s = 0 ∨ s = 1 := by omega
  rcases hs with rfl | rfl
  · simp at hu
  · revert hu; revert u; decide
theorem upto2 {s : Nat} (h : s / 4 = 0) (u : Fin 4) (hu : s.testBit u.val = true) : u = 0 ∨ u = 1 := by
  have hs : s = 0 ∨ s = 1 ∨ s = 2 ∨ s = 3 := by omega
  rcases hs with rfl | rfl | rfl | rfl
  · simp at hu
  all_goals (revert hu; revert u; decide)
theorem vok_none : VOK none ⟨#[]⟩ ⟨#[]⟩ 1 := .inl ⟨rfl, rfl, rfl, rfl⟩
theorem vok_some {f g : ByteArray} {φ ψ : Fm.T} (hf : readB f = some φ) (hg : readB g = some ψ) (o1 : okV f 2 = true) (o2 : okV g 4 = true) : VOK (some (φ, ψ)) f g 4000 := by
  rw [okV_some hf, decide_eq_true_iff] at o1
  rw [okV_some hg, decide_eq_true_iff] at o2
  have a1 := readO_at hf
  have a2 := readO_at hg
  have l1 := read_len hf
  have l2 := read_len hg
  have ne : ∀ {s : ByteArray} {χ : Fm.T}, s.data.toList = Fm.text χ → s.toList.isEmpty = false := fun {s χ} h => by
    rw [Lib.toList_data, h]
    cases hx : Fm.text χ with
    | nil => have := Fm.text_pos χ; rw [hx] at this; simp at this
    | cons a l => rfl
  refine .inr ⟨φ, ψ, rfl, rfl, ne l1.2, ne l2.2, fun k w => ⟨0 + Fm.len φ, ?_⟩, fun k l w => ⟨0 + Fm.len ψ, ?_⟩⟩
  · have h := l11Put_any f (by have := a1.2; omega) none ⟨#[]⟩ ⟨#[]⟩ 1 vok_none φ 0 0 (fun i => if i = 0 then k else 0) w rfl a1.1
    rw [Fm.putG_none, Fm.put_congr φ (m' := Fm.fput id 0 k) (fun u hu => by
      obtain rfl := upto1 o1 u hu
      simp [Fm.fput])] at h
    refine (show Calls _ _ _ _ _ from h).mono fun e w' ⟨s, b, h1, h2, h3, h4⟩ => ⟨s, b, h1, h2, ?_, h4⟩
    have : Fm.len φ ≤ 4000 := l1.1
    omega
  · have h := l11Put_any g (by have := a2.2; omega) none ⟨#[]⟩ ⟨#[]⟩ 1 vok_none ψ 0 0 (fun i => if i = 0 then k else if i = 1 then l else 0) w rfl a2.1
    rw [Fm.putG_none, Fm.put_congr ψ (m' := Fm.fput (Fm.fput id 1 l) 0 k) (fun u hu => by
      rcases upto2 o2 u hu with rfl | rfl
      · simp [Fm.fput]
      · simp [Fm.fput])] at h
    refine (show Calls _ _ _ _ _ from h).mono fun e w' ⟨s, b, h1, h2, h3, h4⟩ => ⟨s, b, h1, h2, ?_, h4⟩
    have : Fm.len ψ ≤ 4000 := l2.1
    omega
theorem mapInfo : (Tryd.prog.info? 144).map (·.size) = some 4 := by kernel_rfl
end Go.Proofs.YtjepegkbbbebkaaDoor

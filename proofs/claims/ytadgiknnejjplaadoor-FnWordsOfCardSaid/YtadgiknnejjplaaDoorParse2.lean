/- The program's parseFormula: the formula that a text is, as a tree in memory. Condition: the text's length fits an integer. -/
import Derived.Test.YtadgiknnejjplaaDoorParse
import Derived.Test.YtadgiknnejjplaaDoorFmFree2
namespace Go.Proofs.YtadgiknnejjplaaDoor
open Go.RowKit
set_option linter.unusedVariables false

set_option maxRecDepth 100000 in
theorem parsePart_zero : ParseOK 0 := by
  intro s w hn hm
  have h0 : s = ByteArray.empty := by
    have : s.size = 0 := by omega
    simpa using this
  subst h0
  have HP : Hid (ParseP w (Fm.parse ByteArray.empty.size ByteArray.empty.data.toList) (.returned (.tuple #[.pointer none, .string ByteArray.empty])) w) := ⟨Below.refl _ _, .inl ⟨rfl, _, rfl⟩⟩
  go_enter Tryd.func150, Tryd.ntmps150
  go_wp2_with fail
  go_ret2
  exact HP.out
theorem parsePart_any : ∀ n, ParseOK n
  | 0 => parsePart_zero
  | n + 1 => parsePart_succ n (Lib.hid (parsePart_any n))

/-- What parseFormula leaves. -/
def FormP (w : World) (res : Option Fm.T) (e : Ending) (w' : World) : Prop :=
  Below w.heap.size w w' ∧ ((res = none ∧ e = .returned (.pointer none)) ∨ ∃ (φ : Fm.T) (p : Nat), res = some φ ∧ e = .returned (ptrV p) ∧ Tree (fun b => w.heap.size ≤ b) w' φ p)
set_option maxRecDepth 100000 in
theorem parseFormula_any (f : ByteArray) (w : World) (hf : f.size ≤ 9223372036854775807) : Calls Tryd.prog 94 #[.string f] w (FormP w (readB f)) := by
  by_cases h : f.size ≤ 4000
  · have HC := Lib.hid (fun w => parsePart_any f.size f w (Nat.le_refl _) (by omega))
    have hI : ((f.size : Int) ≤ 4000) := by omega
    have HR : Hid (readB f = (Fm.parse f.size f.data.toList).bind fun p => if p.2 = [] then some p.1 else none) := by
      show Fm.read f.data.toList = _
      unfold Fm.read
      rw [if_neg (by simp; omega)]
      simp
    obtain ⟨RES, hres⟩ : ∃ r, readB f = r := ⟨_, rfl⟩
    rw [hres] at HR ⊢
    clear hres h hf
    go_enter Tryd.func94, Tryd.ntmps94
    go_wp2_with fail
    refine (HC.out _).mono ?_; rintro e w1 ⟨hb, hres⟩
    have HB := Lib.hid hb
    clear hb
    rcases hres with ⟨hnone, r, rfl⟩ | ⟨φ, r, q, hsome, rfl, htree⟩
    · have HP : Hid (FormP w RES (.returned (.pointer none)) w1) := ⟨HB.out, .inl ⟨by rw [HR.out, hnone]; rfl, rfl⟩⟩
      clear hnone
      by_cases hr : r = ByteArray.empty
      · subst hr
        go_wp2_with fail
        go_ret
        exact HP.out
      · have h1 : ¬ r.toList = [] := by
          intro h
          apply hr
          apply ByteArray.ext
          apply Array.ext'
          rw [← Lib.toList_data, h]; rfl
        have h2 : r.toList.isEmpty = false := by
          cases h3 : r.toList with
          | nil => exact absurd h3 h1
          | cons a l => rfl
        clear hr
        go_wp2_with fail
        go_ret
        exact HP.out
    · by_cases hr : r = ByteArray.empty
      · subst hr
        have HP : Hid (FormP w RES (.returned (.pointer (some ⟨q, 0, none⟩))) w1) := ⟨HB.out, .inr ⟨φ, q, by rw [HR.out, hsome]; rfl, rfl, htree⟩⟩
        clear hsome htree
        unfold ptrV
        go_wp2_with fail
        go_ret
        exact HP.out
      · have h0 : r.data.toList ≠ [] := by
          intro h
          apply hr
          apply ByteArray.ext
          apply Array.ext'
          rw [h]; rfl
        have HP : Hid (FormP w RES (.returned (.pointer none)) w1) := ⟨HB.out, .inl ⟨by rw [HR.out, hsome]; show (if r.data.toList = [] then some φ else none) = none; rw [if_neg h0], rfl⟩⟩
        have h1 : ¬ r.toList = [] := by rw [Lib.toList_data]; exact h0
        have h2 : r.toList.isEmpty = false := by
          cases h3 : r.toList with
          | nil => exact absurd h3 h1
          | cons a l => rfl
        clear hsome htree hr h0
        unfold ptrV
        go_wp2_with fail
        go_ret
        exact HP.out
  · have HP : Hid (FormP w (readB f) (.returned (.pointer none)) w) := by
      refine ⟨Below.refl _ _, .inl ⟨?_, rfl⟩⟩
      show Fm.read f.data.toList = _
      unfold Fm.read
      rw [if_pos (by simp; omega)]
    have hI : ¬ ((f.size : Int) ≤ 4000) := by omega
    go_enter Tryd.func94, Tryd.ntmps94
    go_wp2_with fail
    go_ret
    exact HP.out
end Go.Proofs.YtadgiknnejjplaaDoor

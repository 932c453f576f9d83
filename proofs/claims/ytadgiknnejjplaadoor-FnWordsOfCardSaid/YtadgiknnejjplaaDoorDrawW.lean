/- Draws of words: (*l15Rd).of, l12Draw, l12Open, and the arguments of the word laws. Condition: at most so many numbers have been drawn; the bytes are readable. -/
import Derived.Test.YtadgiknnejjplaaDoorRd
namespace Go.Proofs.YtadgiknnejjplaaDoor
open Go.RowKit
set_option linter.unusedVariables false

/-- A text that is drawn: at most n bytes; at most K numbers have been drawn then. -/
def TxtP (b K n : Nat) (w : World) (e : Ending) (w' : World) : Prop := ∃ t : ByteArray, t.size ≤ n ∧ e = .returned (.string t) ∧ RdB w' b K ∧ w.grownBy w' (some b)
theorem of_list (w : World) (b K m : Nat) (xs : List ByteArray) (T : TypeId) (h : RdB w b K) (hk : K < 1099511627776) (h0 : 1 ≤ xs.length) (h1 : xs.length ≤ 1000) (hm : ∀ x ∈ xs, x.size ≤ m) :
    Calls Tryd.prog 101 #[.pointer (some ⟨b, 0, none⟩), .slice (some ⟨w.heap.size, 0, none⟩) xs.length xs.length] (w.alloc (.cells (xs.map Value.string).toArray T)) (TxtP b (K + 1) m w) := by
  have H := Lib.hid (h.grown (grown_alloc w (.cells (xs.map Value.string).toArray T)))
  have HB := Lib.hid h.block
  have HX : Hid (∀ j, j < xs.length → (w.alloc (.cells (xs.map Value.string).toArray T)).cell? ⟨w.heap.size, j, none⟩ = some (.string (xs.getD j ByteArray.empty))) := by
    intro j hj
    rw [World.cell?_alloc_new]
    simp [hj]
  have HG := Lib.hid (grown_alloc w (.cells (xs.map Value.string).toArray T))
  have HM : Hid (∀ j, j < xs.length → (xs.getD j ByteArray.empty).size ≤ m) := fun j hj => hm _ (by simp [hj])
  obtain ⟨W, hW⟩ : ∃ W, w.alloc (.cells (xs.map Value.string).toArray T) = W := ⟨_, rfl⟩
  rw [hW] at H HX HG ⊢
  obtain ⟨B, hB⟩ : ∃ B, w.heap.size = B := ⟨_, rfl⟩
  rw [hB] at HX HB ⊢
  have hne : B ≠ b := by have := HB.out; omega
  have HNE := Lib.hid hne
  have hlI : (xs.length : Int) ≤ 1000 := by omega
  clear hW hB h hm hne
  go_enter Tryd.func101, Tryd.ntmps101
  go_wp2_with fail
  refine (pickB _ b K _ H.out hk (by omega) (by omega)).mono ?_; rintro e w1 ⟨v, rfl, v0, v1, hr, hg⟩
  obtain ⟨j, rfl⟩ := Int.eq_ofNat_of_zero_le v0
  have hj : j < xs.length := by omega
  have hc := hg.cell (HX.out j hj) (by intro h; injection h with h; exact HNE.out h)
  have HP : Hid (TxtP b (K + 1) m w (.returned (.string (xs.getD j ByteArray.empty))) w1) := ⟨_, HM.out j hj, rfl, hr, (HG.out.but _).trans hg⟩
  clear hr hg HX H HM HG
  generalize xs.getD j ByteArray.empty = t at *
  go_wp2
  go_ret
  exact HP.out

set_option maxHeartbeats 1000000 in
theorem l12Draw_any (w : World) (b K m : Nat) (h : RdB w b K) (hk : K < 1000000000000) (hm : 1 ≤ m) (hm2 : m ≤ 8) :
    Calls Tryd.prog 154 #[.pointer (some ⟨b, 0, none⟩), .int .i64 (m : Int)] w (TxtP b (K + 9) 8 w) := by
  have H := Lib.hid h
  clear h
  go_enter Tryd.func154, Tryd.ntmps154
  go_wp2_with fail
  refine (pickB _ b K _ H.out (by omega) (by omega) (by omega)).mono ?_; rintro e w1 ⟨v, rfl, v0, v1, hr, hg⟩
  obtain ⟨j, rfl⟩ := Int.eq_ofNat_of_zero_le v0
  have HR := Lib.hid hr
  have HG := Lib.hid hg
  clear hr hg
  go_wp2_with fail
  go_loopw [6, 5] (fun n o wr => ∃ (i : Nat) (out : ByteArray), n = .int .i64 i ∧ o = .string out ∧ i ≤ 8 ∧ out.size + i ≤ 8 ∧ Hid (RdB wr b (K + 1 + (8 - i))) ∧ Hid (w.grownBy wr (some b))) (fun n _ _ => (intOf n).toNat)
  case atStart => exact ⟨j + 1, ByteArray.empty, by go_num, rfl, by omega, by simp; omega, HR.out.mono (by omega), HG.out⟩
  case round =>
    obtain ⟨i, out, rfl, rfl, hi, ho, HRR, HGG⟩ := hrel
    by_cases h0 : i = 0
    · subst h0
      have HP : Hid (TxtP b (K + 9) 8 w (.returned (.string out)) wr) := ⟨out, by omega, rfl, HRR.out.mono (by omega), HGG.out⟩
      go_wp2_with fail
      go_ret
      exact HP.out
    · obtain ⟨i, rfl⟩ : ∃ l, i = l + 1 := ⟨i - 1, by omega⟩
      have hiI : (0 : Int) < (i : Int) + 1 := by omega
      have hw1 : IntKind.i64.wrap ((i : Int) + 1 - 1) = (i : Int) := by
        rw [show (i : Int) + 1 - 1 = (i : Int) by omega]; exact IntWalk.i64_in _ (by omega)
      go_wp2_with fail
      refine (of_list wr b _ 1 [⟨#[120]⟩, ⟨#[121]⟩] _ HRR.out (by omega) (by decide) (by decide) (by intro x hx; simp at hx; rcases hx with rfl | rfl <;> decide)).mono ?_; rintro e w2 ⟨t, ht, rfl, hr, hg⟩
      have HR2 := Lib.hid hr
      have HG2 := Lib.hid (HGG.out.trans hg)
      clear hr hg
      go_wp2_with fail
      go_roundw
      case rel => exact ⟨i, out ++ t, by go_num, rfl, by omega, by rw [ByteArray.size_append]; omega, HR2.out.mono (by omega), HG2.out⟩
      case measure => simp [intOf]

set_option maxHeartbeats 1000000 in
theorem l12Open_any (w : World) (b K : Nat) (h : RdB w b K) (hk : K < 100000000000) :
    Calls Tryd.prog 102 #[.pointer (some ⟨b, 0, none⟩)] w (TxtP b (K + 20) 9 w) := by
  have H := Lib.hid h
  clear h
  go_enter Tryd.func102, Tryd.ntmps102
  go_wp2_with fail
  refine (l12Draw_any w b K 6 H.out (by omega) (by omega) (by omega)).mono ?_; rintro e w1 ⟨t, ht, rfl, hr, hg⟩
  have HR := Lib.hid hr
  have HG := Lib.hid hg
  clear hr hg
  go_wp2_with fail
  refine (pickB _ b _ _ HR.out (by omega) (by omega) (by omega)).mono ?_; rintro e w2 ⟨v, rfl, v0, v1, hr, hg⟩
  have HR2 := Lib.hid hr
  have HG2 := Lib.hid (HG.out.trans hg)
  clear hr hg
  by_cases h0 : v = 0
  · subst h0
    have HP : Hid (TxtP b (K + 20) 9 w (.returned (.string ByteArray.empty)) w2) := ⟨_, by simp, rfl, HR2.out.mono (by omega), HG2.out⟩
    go_wp2_with fail
    go_ret
    exact HP.out
  · have e0 : (v == 0) = false := by simpa using h0
    by_cases h1 : v = 1
    · subst h1
      have HP : Hid (TxtP b (K + 20) 9 w (.returned (.string (t ++ ⟨#[122]⟩))) w2) := ⟨_, by rw [ByteArray.size_append]; have : (⟨#[122]⟩ : ByteArray).size = 1 := rfl; omega, rfl, HR2.out.mono (by omega), HG2.out⟩
      go_wp2_with fail
      go_ret
      exact HP.out
    · have e1 : (v == 1) = false := by simpa using h1
      by_cases h2 : v = 2
      · subst h2
        go_wp2_with fail
        refine (of_list w2 b _ 1 [⟨#[]⟩, ⟨#[120]⟩] _ HR2.out (by omega) (by decide) (by decide) (by intro x hx; simp at hx; rcases hx with rfl | rfl <;> decide)).mono ?_; rintro e w3 ⟨u, hu, rfl, hr, hg⟩
        have HP : Hid (TxtP b (K + 20) 9 w (.returned (.string (⟨#[120, 121, 120, 121, 120, 121, 120, 121]⟩ ++ u))) w3) := ⟨_, by rw [ByteArray.size_append]; have : (⟨#[120, 121, 120, 121, 120, 121, 120, 121]⟩ : ByteArray).size = 8 := rfl; omega, rfl, hr.mono (by omega), HG2.out.trans hg⟩
        clear hr hg
        go_wp2_with fail
        go_ret
        exact HP.out
      · have e2 : (v == 2) = false := by simpa using h2
        have HP : Hid (TxtP b (K + 20) 9 w (.returned (.string t)) w2) := ⟨_, by omega, rfl, HR2.out.mono (by omega), HG2.out⟩
        go_wp2_with fail
        go_ret
        exact HP.out
end Go.Proofs.YtadgiknnejjplaaDoor
/- The draws of the word laws' arguments. Condition: the bytes are readable. -/
namespace Go.Proofs.YtadgiknnejjplaaDoor
open Go.RowKit
set_option linter.unusedVariables false

/-- A text and a number that are drawn. -/
def DrawTN (w : World) (e : Ending) (w' : World) : Prop := ∃ (t : ByteArray) (n : Int), t.size ≤ 9 ∧ e = .returned (.tuple #[.string t, .int .i64 n]) ∧ Below w.heap.size w w'

def DrawNN (w : World) (e : Ending) (w' : World) : Prop := ∃ (n m : Int), e = .returned (.tuple #[.int .i64 n, .int .i64 m]) ∧ Below w.heap.size w w'
def DrawT1 (w : World) (e : Ending) (w' : World) : Prop := ∃ t : ByteArray, t.size ≤ 9 ∧ e = .returned (.string t) ∧ Below w.heap.size w w'
theorem DrawWordValid_any (w : World) (a : Option Addr) (len cap : Nat) (zs : List Int) (h : IsRow .u8 w a len cap zs) :
    Calls Tryd.prog 36 #[.slice a len cap] w (DrawT1 w) := by
  have H := Lib.hid h; clear h
  go_enter Tryd.func36, Tryd.ntmps36
  go_wp2_with fail
  refine (l15Open_any _ _ _ _ _ H.out).mono ?_; rintro e w1 ⟨rfl, hr, hb, hs⟩
  have HR := Lib.hid hr; have HB := Lib.hid hb; clear hr hb hs
  generalize hB : w.heap.size = B at *
  have HW := Lib.hid hB; clear hB
  go_wp2_with fail
  refine (l12Open_any _ _ _ HR.out (by omega)).mono ?_; rintro e w2 ⟨t, ht, rfl, hr2, hg2⟩
  have HP : Hid (DrawT1 w (.returned (.string t)) w2) := by
    have hB := HW.out
    subst hB
    exact ⟨t, ht, rfl, below_of_grown HB.out (Nat.le_refl _) hg2⟩
  clear hr2 hg2
  go_wp2_with fail
  go_ret
  exact HP.out
end Go.Proofs.YtadgiknnejjplaaDoor

/- Words: what a word is; WordValid of the program and of the reference. Condition: a text's length fits an integer. -/
import Derived.Test.YtadgiknnejjplaaDoorNum
import Derived.Test.YtadgiknnejjplaaDoorShelf
namespace Go.Proofs.YtadgiknnejjplaaDoor
open Go.RowKit

def isXY (b : UInt8) : Bool := b == 120 || b == 121
/-- Whether a text is a word. -/
def wordB (s : ByteArray) : Bool := inB s.size 1 8 && s.data.toList.all isXY

theorem dropWhile_nil (p : UInt8 → Bool) : ∀ l : List UInt8, l.dropWhile p = [] ↔ l.all p = true
  | [] => by simp
  | x :: l => by
    have ih := dropWhile_nil p l
    cases h : p x
    · simp [List.dropWhile, h]
    · simp only [List.dropWhile, h, List.all_cons, Bool.true_and]; exact ih
theorem dropWhile_head (p : UInt8 → Bool) : ∀ l : List UInt8, ∀ x m, l.dropWhile p = x :: m → p x = false
  | [], _, _, h => by simp at h
  | y :: l, x, m, h => by
    cases hy : p y
    · simp only [List.dropWhile, hy, List.cons.injEq] at h
      rw [← h.1]; exact hy
    · simp only [List.dropWhile, hy] at h
      exact dropWhile_head p l x m h
theorem trim_nil (p : UInt8 → Bool) (l : List UInt8) : ((l.reverse.dropWhile p).reverse.dropWhile p = []) ↔ l.all p = true := by
  rw [dropWhile_nil, List.all_reverse]
  cases h : l.reverse.dropWhile p with
  | nil =>
    have := (dropWhile_nil p _).1 h
    rw [List.all_reverse] at this
    simp [this]
  | cons x m =>
    have hx := dropWhile_head p _ x m h
    constructor
    · intro ha
      simp [hx] at ha
    · intro ha
      rw [← List.all_reverse] at ha
      rw [(dropWhile_nil p _).2 ha] at h
      cases h
theorem trimS_xy (l : List UInt8) : /- 151 -/ (Lib.trimS l [120, 121]).isEmpty = l.all isXY := by
  have h := trim_nil ([120, 121].contains ·) l
  have e : l.all ([120, 121].contains ·) = l.all isXY := by
    congr 1
    funext b
    rw [Bool.eq_iff_iff]
    simp [isXY]
  rw [e] at h
  rw [Bool.eq_iff_iff, List.isEmpty_iff]
  exact h

theorem trim_xy (s : ByteArray) (w : World) (hs : s.size ≤ 9223372036854775807) :
    Calls Tryd.prog 151 #[.string s, .string ⟨#[120, 121]⟩] w fun e w' => (∃ t : ByteArray, e = .returned (.string t) ∧ t.toList.isEmpty = s.data.toList.all isXY) ∧ Below w.heap.size w w' := by
  have hcon := Any.strings_Trim_laid Tryd.lays160 (by kernel_rfl) s ⟨#[120, 121]⟩ w hs (by decide) (ascii_of_all (by decide))
  refine hcon.mono fun e w' ⟨h1, h2⟩ => ⟨⟨_, h1, ?_⟩, h2⟩
  rw [Lib.toList_data]
  exact trimS_xy _

theorem isWord_any (s : ByteArray) (w : World) (hs : s.size ≤ 9223372036854775807) :
    Calls Tryd.prog 98 #[.string s] w fun e w' => e = .returned (.bool (wordB s)) ∧ Below w.heap.size w w' := by
  by_cases h1 : (1 : Int) ≤ s.size
  · by_cases h8 : (s.size : Int) ≤ 8
    · have HI := Lib.hid (inB_true h1 h8)
      go_enter Tryd.func98, Tryd.ntmps98
      go_wp2_with fail
      refine (trim_xy s _ hs).mono ?_
      rintro e w1 ⟨⟨t, rfl, ht⟩, hb⟩
      have HB := Lib.hid hb; clear hb
      have HW : Hid (s.data.toList.all isXY = wordB s) := by simp [Hid, wordB, HI.out]
      generalize s.data.toList.all isXY = b at *
      go_wp2_with fail
      go_ret
      exact ⟨ret_bool HW.out, HB.out⟩
    · have HI := Lib.hid (inB_hi (lo := 1) h8)
      go_enter Tryd.func98, Tryd.ntmps98
      go_wp2_with fail
      go_ret
      exact ⟨ret_bool (by simp [wordB, HI.out]), Below.refl _ _⟩
  · have HI := Lib.hid (inB_lo (hi := 8) h1)
    go_enter Tryd.func98, Tryd.ntmps98
    go_wp2_with fail
    go_ret
    exact ⟨ret_bool (by simp [wordB, HI.out]), Below.refl _ _⟩
theorem implWordValid_any (s : ByteArray) (w : World) (hs : s.size ≤ 9223372036854775807) :
    Calls Tryd.prog 52 #[.string s] w fun e w' => e = .returned (.bool (wordB s)) ∧ Below w.heap.size w w' := by
  go_enter Tryd.func52, Tryd.ntmps52
  go_wp2_with fail
  refine (isWord_any s _ hs).mono ?_; rintro e w1 ⟨rfl, hb⟩
  go_wp2_with fail
  go_ret
  exact ⟨rfl, hb⟩

theorem all_take_succ (s : ByteArray) (k : Nat) (h : k < s.size) : (s.data.toList.take (k + 1)).all isXY = ((s.data.toList.take k).all isXY && isXY s[k]) := by
  rw [List.take_succ_eq_append_getElem (by simpa using h), List.all_append]
  simp
  rfl
theorem specWordValid_any (s : ByteArray) (w : World) (hs : s.size ≤ 9223372036854775807) :
    Calls Tryd.prog 103 #[.string s] w fun e w' => e = .returned (.bool (wordB s)) ∧ w = w' := by
  go_enter Tryd.func103, Tryd.ntmps103
  go_wp2_with fail
  go_loop [3] (fun i => ∃ k : Nat, k ≤ s.size ∧ i = .int .i64 k ∧ Hid ((s.data.toList.take k).all isXY = true)) (fun i => s.size - (intOf i).toNat)
  case atStart => exact ⟨0, by omega, rfl, rfl⟩
  case round =>
    obtain ⟨k, hk, rfl, HK⟩ := hrel
    by_cases hlt : k < s.size
    · have HS := Lib.hid (all_take_succ s k hlt)
      obtain ⟨c, hc⟩ : ∃ c, s[k] = c := ⟨_, rfl⟩
      have HC := Lib.hid hc
      by_cases hx : c = 120
      · have e1 : ((c.toNat : Int) == 120) = true := by rw [hx]; rfl
        have e1' : ((c.toNat : Int) != 120) = false := by rw [hx]; rfl
        have HX := Lib.hid hx; clear hx
        go_wp2_with fail
        go_round
        case rel =>
          refine ⟨k + 1, by omega, by go_num, ?_⟩
          rw [HS.out, HK.out, HC.out, HX.out]; rfl
        case measure => simp [intOf]; omega
      · have hx' : c.toNat ≠ 120 := fun h => hx (UInt8.toNat_inj.1 h)
        have e1 : ((c.toNat : Int) == 120) = false := by simp; omega
        have e1' : ((c.toNat : Int) != 120) = true := by simp; omega
        by_cases hy : c = 121
        · have e2 : ((c.toNat : Int) == 121) = true := by rw [hy]; rfl
          have e2' : ((c.toNat : Int) != 121) = false := by rw [hy]; rfl
          have HY := Lib.hid hy; clear hx hy hx'
          go_wp2_with fail
          go_round
          case rel =>
            refine ⟨k + 1, by omega, by go_num, ?_⟩
            rw [HS.out, HK.out, HC.out, HY.out]; rfl
          case measure => simp [intOf]; omega
        · have hy' : c.toNat ≠ 121 := fun h => hy (UInt8.toNat_inj.1 h)
          have e2 : ((c.toNat : Int) == 121) = false := by simp; omega
          have e2' : ((c.toNat : Int) != 121) = true := by simp; omega
          have HR : Hid (wordB s = false) := by
            have h1 : isXY s[k] = false := by rw [HC.out]; simp [isXY, hx, hy]
            have h2 : s.data.toList.all isXY = false := by
              rw [← Bool.not_eq_true, List.all_eq_true]
              intro h
              have := h s[k] (by
                show s.data[k] ∈ s.data.toList
                simp)
              rw [h1] at this; cases this
            simp [Hid, wordB, h2]
          clear hx hy hx' hy'
          go_wp2_with fail
          go_ret
          exact ⟨ret_bool HR.out.symm, rfl⟩
    · have HR : Hid (wordB s = inB s.size 1 8) := by
        have h := HK.out
        rw [List.take_of_length_le (by simp; omega)] at h
        simp [Hid, wordB, h]
      go_wp2_with fail
      refine (l1In_any _ _ _ _).mono ?_; rintro e w' ⟨rfl, rfl⟩
      go_wp2_with fail
      go_ret
      exact ⟨ret_bool HR.out.symm, rfl⟩

end Go.Proofs.YtadgiknnejjplaaDoor

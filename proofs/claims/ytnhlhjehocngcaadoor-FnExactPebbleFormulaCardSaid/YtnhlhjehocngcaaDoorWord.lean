/- Words: what a word is; WordValid of the program and of the reference. Condition: a text's length fits an integer. -/
import Derived.Test.YtnhlhjehocngcaaDoorNum
import Derived.Test.YtnhlhjehocngcaaDoorShelf
import Derived.Test.YtnhlhjehocngcaaDoorBits
import Derived.StillTailTactics
import Derived.IntWalk
namespace Go.Proofs.YtnhlhjehocngcaaDoor
open Go.RowKit

def isXY (b : UInt8) : Bool := b == 120 || b == 121
/-- Whether a text is a word. -/
def wordB (s : ByteArray) : Bool := inB s.size 1 8 && s.data.toList.all isXY

theorem dropWhile_nil (p : UInt8 → Bool) : ∀ l : List UInt8, l.dropWhile p = [] ↔ l.all p = true
  | [] => by simp
  | x :: l => by
    have ih := dropWhile_nil p l
    cases h : p x
    · simp [List.dropWhile, h]
    · simp only [List.dropWhile, h, List.all_cons, Bool.true_and]; exact ih
theorem dropWhile_head (p : UInt8 → Bool) : ∀ l : List UInt8, ∀ x m, l.dropWhile p = x :: m → p x = false
  | [], _, _, h => by simp at h
  | y :: l, x, m, h => by
    cases hy : p y
    · simp only [List.dropWhile, hy, List.cons.injEq] at h
      rw [← h.1]; exact hy
    · simp only [List.dropWhile, hy] at h
      exact dropWhile_head p l x m h
theorem trim_nil (p : UInt8 → Bool) (l : List UInt8) : ((l.reverse.dropWhile p).reverse.dropWhile p = []) ↔ l.all p = true := by
  rw [dropWhile_nil, List.all_reverse]
  cases h : l.reverse.dropWhile p with
  | nil =>
    have := (dropWhile_nil p _).1 h
    rw [List.all_reverse] at this
    simp [this]
  | cons x m =>
    have hx := dropWhile_head p _ x m h
    constructor
    · intro ha
      simp [hx] at ha
    · intro ha
      rw [← List.all_reverse] at ha
      rw [(dropWhile_nil p _).2 ha] at h
      cases h
theorem trimS_xy (l : List UInt8) : /- 77 -/ (Lib.trimS l [120, 121]).isEmpty = l.all isXY := by
  have h := trim_nil ([120, 121].contains ·) l
  have e : l.all ([120, 121].contains ·) = l.all isXY := by
    congr 1
    funext b
    rw [Bool.eq_iff_iff]
    simp [isXY]
  rw [e] at h
  rw [Bool.eq_iff_iff, List.isEmpty_iff]
  exact h

theorem trim_xy (s : ByteArray) (w : World) (hs : s.size ≤ 9223372036854775807) :
    Calls Tryd.prog 77 #[.string s, .string ⟨#[120, 121]⟩] w fun e w' => (∃ t : ByteArray, e = .returned (.string t) ∧ t.toList.isEmpty = s.data.toList.all isXY) ∧ Below w.heap.size w w' := by
  have hcon := Any.strings_Trim_laid Tryd.lays160 (by kernel_rfl) s ⟨#[120, 121]⟩ w hs (by decide) (ascii_of_all (by decide))
  refine hcon.mono fun e w' ⟨h1, h2⟩ => ⟨⟨_, h1, ?_⟩, h2⟩
  rw [Lib.toList_data]
  exact trimS_xy _

theorem all_take_succ (s : ByteArray) (k : Nat) (h : k < s.size) : (s.data.toList.take (k + 1)).all isXY = ((s.data.toList.take k).all isXY && isXY s[k]) := by
  rw [List.take_succ_eq_append_getElem (by simpa using h), List.all_append]
  simp
  rfl
end Go.Proofs.YtnhlhjehocngcaaDoor
/- The structure of a word: of the program and of the reference. Condition: the text has at most eight bytes. -/
namespace Go.Proofs.YtnhlhjehocngcaaDoor
open Go.RowKit
set_option linter.unusedVariables false

section
variable {P : Program} {w : World} {ops : Array Oper} {Q : Act → Prop} {a : Act} {o : Oper} {rest : List Oper}
theorem wpStill_skip' (hw : Region.wanted o (yielded ops a.tmps) = false) (h : wpStill P ops w Q rest (a.put o.dst undef)) : wpStill P ops w Q (o :: rest) a :=
  wpStill_step fun K hK => by rw [hw]; exact hK _ h
end
theorem l1Bit_quiet (b : Bool) (w : World) : Calls Tryd.prog 52 #[.bool b] w fun e w' => e = .returned (.string (bitS b)) ∧ w' = w :=
  (l1Bit_any b w).mono fun _ _ h => ⟨h.1, h.2.symm⟩

/-- Whether a letter is an x. -/
def letB (s : ByteArray) (x : Nat) : Bool := s.data.toList.getD x 0 == 120
def ltB (x y : Nat) : Bool := decide (x < y)
/-- The structure of a word. -/
def wordV (s : ByteArray) : Value := strV s.size (bitsOf (letB s) s.size) (gridOf ltB s.size)

theorem letB_at (s : ByteArray) (x : Nat) (h : x < s.size) : ((s[x].toNat : Int) == 120) = letB s x := by
  have e : s.data.toList.getD x 0 = s[x] := by
    have hx : x < s.data.toList.length := by simpa using h
    rw [List.getD_eq_getElem?_getD, List.getElem?_eq_getElem hx]
    rfl
  unfold letB
  rw [e]
  generalize s[x] = c
  rw [Bool.eq_iff_iff, beq_iff_eq, beq_iff_eq]
  constructor
  · intro h
    apply UInt8.toNat_inj.1
    have : (120 : UInt8).toNat = 120 := rfl
    omega
  · intro h
    rw [h]; rfl

end Go.Proofs.YtnhlhjehocngcaaDoor

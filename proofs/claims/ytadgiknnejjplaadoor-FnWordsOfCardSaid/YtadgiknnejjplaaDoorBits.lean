/- Texts of bits, as lists of bytes: plain facts; and that a bit's text is what bitOf and l1Bit return. No condition. -/
import Derived.Test.YtadgiknnejjplaaDoorBase
namespace Go.Proofs.YtadgiknnejjplaaDoor
open Go.RowKit

def bit (b : Bool) : UInt8 := if b then 49 else 48
/-- The text of a bit. -/
def bitS (b : Bool) : ByteArray := ⟨#[bit b]⟩
/-- The text of n bits. -/
def bitsOf (f : Nat → Bool) (n : Nat) : ByteArray := ⟨((List.range n).map fun i => bit (f i)).toArray⟩

theorem bitS_size (b : Bool) : (bitS b).size = 1 := rfl
theorem bitsOf_size (f : Nat → Bool) (n : Nat) : (bitsOf f n).size = n := by
  show ((List.range n).map fun i => bit (f i)).toArray.size = n
  simp
theorem bitsOf_succ (f : Nat → Bool) (n : Nat) : bitsOf f (n + 1) = bitsOf f n ++ bitS (f n) := by
  unfold bitsOf bitS
  have h := ByteArray.mk_append_mk ((List.range n).map fun i => bit (f i)) [bit (f n)]
  rw [show (#[bit (f n)] : Array UInt8) = [bit (f n)].toArray from rfl, h]
  congr 2
  rw [List.range_succ]
  simp
theorem bitsOf_zero (f : Nat → Bool) : bitsOf f 0 = ByteArray.empty := rfl
theorem bitsOf_congr {f g : Nat → Bool} {n : Nat} (h : ∀ i, i < n → f i = g i) : bitsOf f n = bitsOf g n := by
  unfold bitsOf
  congr 2
  apply List.map_congr_left
  intro i hi
  rw [h i (List.mem_range.1 hi)]

/-- The text of the bits of n rows of n. -/
def gridOf (r : Nat → Nat → Bool) (n : Nat) : ByteArray := bitsOf (fun k => r (k / n) (k % n)) (n * n)

theorem bitOf_any (b : Bool) (w : World) : Calls Tryd.prog 127 #[.bool b] w fun e w' => e = .returned (.string (bitS b)) ∧ w = w' := by
  cases b
  · go_enter Tryd.func127, Tryd.ntmps127
    go_wp2
    go_ret
    exact ⟨rfl, rfl⟩
  · go_enter Tryd.func127, Tryd.ntmps127
    go_wp2
    go_ret
    exact ⟨rfl, rfl⟩
theorem l1Bit_any (b : Bool) (w : World) : Calls Tryd.prog 64 #[.bool b] w fun e w' => e = .returned (.string (bitS b)) ∧ w = w' := by
  cases b
  · go_enter Tryd.func64, Tryd.ntmps64
    go_wp2
    go_ret
    exact ⟨rfl, rfl⟩
  · go_enter Tryd.func64, Tryd.ntmps64
    go_wp2
    go_ret
    exact ⟨rfl, rfl⟩
end Go.Proofs.YtadgiknnejjplaaDoor

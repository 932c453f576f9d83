/- Decimal numerals: l15Dec of the reference. Condition: the number fits an integer. -/
import Derived.Test.YtadgiknnejjplaaBase
import Derived.Lib.ItoaLen
import Derived.Lib.ItoaMem
import Derived.IntWalk
import Derived.Laws.IdiomStrings
namespace Go.Proofs.Ytadgiknnejjplaa
open Go.RowKit
set_option linter.unusedVariables false

def decS (u : Nat) : ByteArray := ⟨(Lib.decDigits u).toArray⟩
def digS (d : Nat) : ByteArray := ⟨#[UInt8.ofNat (48 + d)]⟩
theorem decS_big (u : Nat) (h : ¬ u < 10) : decS u = decS (u / 10) ++ digS (u % 10) := by
  apply ByteArray.ext
  show (Lib.decDigits u).toArray = (decS (u / 10) ++ digS (u % 10)).data
  rw [ByteArray.data_append, Lib.decDigits, dif_neg h]
  simp [decS, digS]
theorem decS_small (u : Nat) (h : u < 10) : decS u = digS u := by
  unfold decS digS
  rw [Lib.decDigits, dif_pos h]
theorem decS_size (u : Nat) (h : u ≤ 9223372036854775808) : (decS u).size ≤ 20 := by
  show (Lib.decDigits u).toArray.size ≤ 20
  rw [List.size_toArray, Lib.decDigits_length]
  exact Lib.nDigits_le20 u (by omega)

theorem dig_conv (d : Nat) (hd : d < 10) (i : Int) (hi : i = 48 + (d : Int)) (w : World) :
    (convert 42 9 (.slice (some ⟨w.heap.size, 0, none⟩) 1 1)).run Try.prog (w.alloc (.cells #[.int .u8 i] 5)) = .ok (.string (digS d)) (w.alloc (.cells #[.int .u8 i] 5)) := by
  refine run_convert_bytes_back _ 42 9 5 ⟨w.heap.size, 0, none⟩ 1 [UInt8.ofNat (48 + d)] Try.underlying42 Try.underlying5 Try.underlying9 ?_
  intro j hj
  have hj0 : j = 0 := by simpa using hj
  subst hj0
  subst hi
  simp [Addr.add]
  omega

def itoS (n : Int) : ByteArray := ⟨(Lib.itoa n).toArray⟩
theorem itoS_nonneg (u : Nat) : itoS (u : Int) = decS u := by unfold itoS decS; rw [Lib.itoa_nonneg]
theorem itoS_neg (u : Nat) (h : 1 ≤ u) : itoS (-(u : Int)) = ⟨#[45]⟩ ++ decS u := by
  apply ByteArray.ext
  unfold itoS decS
  rw [Lib.itoa_neg u h, ByteArray.data_append]
  simp
theorem itoS_min : itoS (-9223372036854775808) = ⟨#[45, 57, 50, 50, 51, 51, 55, 50, 48, 51, 54, 56, 53, 52, 55, 55, 53, 56, 48, 56]⟩ := by decide +kernel

end Go.Proofs.Ytadgiknnejjplaa

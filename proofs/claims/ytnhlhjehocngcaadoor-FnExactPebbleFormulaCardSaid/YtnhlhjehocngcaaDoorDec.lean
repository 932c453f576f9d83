/- Decimal numerals: l15Dec of the reference. Condition: the number fits an integer. -/
import Derived.Test.YtnhlhjehocngcaaDoorBase
import Derived.Lib.ItoaLen
import Derived.Lib.ItoaMem
import Derived.IntWalk
import Derived.Laws.IdiomStrings
namespace Go.Proofs.YtnhlhjehocngcaaDoor
open Go.RowKit
set_option linter.unusedVariables false

def decS (u : Nat) : ByteArray := ⟨(Lib.decDigits u).toArray⟩
def digS (d : Nat) : ByteArray := ⟨#[UInt8.ofNat (48 + d)]⟩
theorem decS_big (u : Nat) (h : ¬ u < 10) : decS u = decS (u / 10) ++ digS (u % 10) := by
  apply ByteArray.ext
  show (Lib.decDigits u).toArray = (decS (u / 10) ++ digS (u % 10)).data
  rw [ByteArray.data_append, Lib.decDigits, dif_neg h]
  simp [decS, digS]
theorem decS_small (u : Nat) (h : u < 10) : decS u = digS u := by
  unfold decS digS
  rw [Lib.decDigits, dif_pos h]
theorem decS_size (u : Nat) (h : u ≤ 9223372036854775808) : (decS u).size ≤ 20 := by
  show (Lib.decDigits u).toArray.size ≤ 20
  rw [List.size_toArray, Lib.decDigits_length]
  exact Lib.nDigits_le20 u (by omega)

theorem dig_conv (d : Nat) (hd : d < 10) (i : Int) (hi : i = 48 + (d : Int)) (w : World) :
    (convert 22 9 (.slice (some ⟨w.heap.size, 0, none⟩) 1 1)).run Tryd.prog (w.alloc (.cells #[.int .u8 i] 5)) = .ok (.string (digS d)) (w.alloc (.cells #[.int .u8 i] 5)) := by
  refine run_convert_bytes_back _ 22 9 5 ⟨w.heap.size, 0, none⟩ 1 [UInt8.ofNat (48 + d)] Tryd.underlying22 Tryd.underlying5 Tryd.underlying9 ?_
  intro j hj
  have hj0 : j = 0 := by simpa using hj
  subst hj0
  subst hi
  simp [Addr.add]
  omega

set_option maxRecDepth 100000 in
theorem dec_any (u : Nat) (w : World) (hu : (u : Int) ≤ 9223372036854775807) :
    Calls Tryd.prog 88 #[.int .i64 (u : Int)] w fun e w' => e = .returned (.string (decS u)) ∧ Below w.heap.size w w' := by
  have hz := decS_size u (by omega)
  have HZ := Lib.hid hz; clear hz
  go_enter Tryd.func88, Tryd.ntmps88
  go_wp2_with fail
  go_loopw [0, 3] (fun a o wr => ∃ (t : Nat) (out : ByteArray), a = .int .i64 t ∧ o = .string out ∧ (t : Int) ≤ 9223372036854775807 ∧ out.size ≤ 20 ∧ Hid (decS t ++ out = decS u) ∧ Hid (Below w.heap.size w wr)) (fun a _ _ => (intOf a).toNat)
  case atStart => exact ⟨u, ByteArray.empty, rfl, rfl, hu, by simp, by show decS u ++ ByteArray.empty = decS u; apply ByteArray.ext; simp, Below.refl _ _⟩
  case round =>
    obtain ⟨t, out, rfl, rfl, ht, ho, HT, HB⟩ := hrel
    by_cases hlt : (9 : Int) < t
    · have HD := Lib.hid (decS_big t (by omega))
      have hc := dig_conv (t % 10) (by omega) (48 + (t : Int) % 10) (by omega) wr
      have hdz : (digS (t % 10)).size = 1 := rfl
      have HB1 : Hid (Below w.heap.size w (wr.alloc (.cells #[.int .u8 (48 + (t : Int) % 10)] 5))) := HB.out.alloc HB.out.size _
      have hoz : out.size ≤ 19 := by
        have h1 := congrArg ByteArray.size HT.out
        have h2 := HZ.out
        rw [HD.out, ByteArray.size_append, ByteArray.size_append, hdz] at h1
        omega
      have HT1 : Hid (decS (t / 10) ++ (digS (t % 10) ++ out) = decS u) := by
        show _ = _
        rw [← HT.out, HD.out]
        apply ByteArray.ext
        simp [ByteArray.data_append, Array.append_assoc]
      generalize digS (t % 10) = D at *
      go_wp2_with fail
      go_roundw
      case rel => exact ⟨t / 10, D ++ out, by go_num, rfl, by omega, by rw [ByteArray.size_append]; omega, HT1.out, HB1.out⟩
      case measure => simp [intOf]; omega
    · have HD := Lib.hid (decS_small t (by omega))
      have hc := dig_conv t (by omega) (48 + (t : Int)) rfl wr
      have hdz : (digS t).size = 1 := rfl
      have HB1 : Hid (Below w.heap.size w (wr.alloc (.cells #[.int .u8 (48 + (t : Int))] 5))) := HB.out.alloc HB.out.size _
      have HT1 : Hid (digS t ++ out = decS u) := by
        show _ = _
        rw [← HT.out, HD.out]
      generalize digS t = D at *
      go_wp2_with fail
      go_ret
      exact ⟨congrArg (fun s => Ending.returned (.string s)) HT1.out, HB1.out⟩

def itoS (n : Int) : ByteArray := ⟨(Lib.itoa n).toArray⟩
theorem itoS_nonneg (u : Nat) : itoS (u : Int) = decS u := by unfold itoS decS; rw [Lib.itoa_nonneg]
theorem itoS_neg (u : Nat) (h : 1 ≤ u) : itoS (-(u : Int)) = ⟨#[45]⟩ ++ decS u := by
  apply ByteArray.ext
  unfold itoS decS
  rw [Lib.itoa_neg u h, ByteArray.data_append]
  simp
theorem itoS_min : itoS (-9223372036854775808) = ⟨#[45, 57, 50, 50, 51, 51, 55, 50, 48, 51, 54, 56, 53, 52, 55, 55, 53, 56, 48, 56]⟩ := by decide +kernel

set_option maxRecDepth 100000 in
theorem l15Dec_any (n : Int) (w : World) (h0 : -9223372036854775808 ≤ n) (h1 : n ≤ 9223372036854775807) :
    Calls Tryd.prog 88 #[.int .i64 n] w fun e w' => e = .returned (.string (itoS n)) ∧ Below w.heap.size w w' := by
  by_cases hm : n < -9223372036854775807
  · have hn : n = -9223372036854775808 := by omega
    subst hn
    have HE := Lib.hid itoS_min
    rw [HE.out]
    go_enter Tryd.func88, Tryd.ntmps88
    go_wp2_with fail
    go_ret
    exact ⟨rfl, Below.refl _ _⟩
  · by_cases hneg : n < 0
    · obtain ⟨u, rfl⟩ : ∃ u : Nat, n = -(u : Int) := ⟨n.natAbs, by omega⟩
      rw [itoS_neg u (by omega)]
      have HD := Lib.hid (fun w => dec_any u w (by omega))
      have hz := decS_size u (by omega)
      generalize decS u = s at *
      go_enter Tryd.func88, Tryd.ntmps88
      go_wp2_with fail
      refine (HD.out _).mono ?_; rintro e w1 ⟨rfl, hb⟩
      have HB := Lib.hid hb; clear hb
      go_wp2_with fail
      go_ret
      exact ⟨rfl, HB.out⟩
    · obtain ⟨u, rfl⟩ := Int.eq_ofNat_of_zero_le (show 0 ≤ n by omega)
      rw [itoS_nonneg]
      exact dec_any u w h1
end Go.Proofs.YtnhlhjehocngcaaDoor

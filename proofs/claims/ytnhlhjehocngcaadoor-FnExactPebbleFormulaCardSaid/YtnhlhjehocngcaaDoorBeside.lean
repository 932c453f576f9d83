/- The program's besides: pebbles that all lie beside. Condition: they are few. -/
import Derived.Test.YtnhlhjehocngcaaDoorOwnI
namespace Go.Proofs.YtnhlhjehocngcaaDoor
open Go.RowKit
set_option linter.unusedVariables false
set_option maxRecDepth 100000

/-- A list of numbers that a call has built. -/
def ListI (L : List Int) (w : World) (e : Ending) (w' : World) : Prop := ∃ v, e = .returned v ∧ OwnI w.heap.size w' v L ∧ Below w.heap.size w w'
theorem besides_any (n : Nat) (hn : n ≤ 1000) (w : World) : Calls Tryd.prog 37 #[.int .i64 (n : Int)] w (ListI (List.replicate n (-1)) w) := by
  have HP0 : Hid (OwnI w.heap.size (w.alloc (.cells #[] 3)) (.slice (some ⟨w.heap.size, 0, none⟩) 0 0) (List.replicate 0 (-1)) ∧ Below w.heap.size w (w.alloc (.cells #[] 3))) := ⟨OwnI.lit0 _ _ (Nat.le_refl _), (Below.refl _ _).alloc (Nat.le_refl _) _⟩
  go_enter Tryd.func37, Tryd.ntmps37
  go_wp2_with fail
  go_loopw [6, 3] (fun q o wr => ∃ k : Nat, k ≤ n ∧ q = .int .i64 (k : Int) ∧ Hid (OwnI w.heap.size wr o (List.replicate k (-1)) ∧ Below w.heap.size w wr)) (fun q _ _ => n - (intOf q).toNat)
  case atStart => exact ⟨0, by omega, rfl, HP0.out⟩
  case round =>
    clear HP0
    obtain ⟨k, hk, rfl, HP⟩ := hrel
    by_cases hlt : k < n
    · have hkI : (k : Int) < (n : Int) := by omega
      have HLL : Hid ((List.replicate k (-1 : Int)).length ≤ 2000000) := by show _ ≤ _; rw [List.length_replicate]; omega
      go_wp2_with (first | (at_builtin; refine wpList_ownI1 HP.out.1 HLL.out rfl (.tmp 8) (.tmp 9) rfl (-1) _ rfl rfl rfl ?_; intro v' w' ho hg; have HP2 : Hid (OwnI w.heap.size w' v' (List.replicate (k + 1) (-1)) ∧ Below w.heap.size w w') := ⟨by rw [List.replicate_succ']; exact ho, HP.out.2.grown hg HP.out.2.size (fun j hj => (HP.out.1.own.lt j hj).1)⟩; clear ho hg) | fail)
      go_roundw
      case rel => exact ⟨k + 1, by omega, by go_num, HP2.out⟩
      case measure => simp [intOf]; omega
    · obtain rfl : k = n := by omega
      have HF : Hid (ListI (List.replicate k (-1)) w (.returned u3) wr) := ⟨_, rfl, HP.out.1, HP.out.2⟩
      go_wp2_with fail
      go_ret
      exact HF.out
end Go.Proofs.YtnhlhjehocngcaaDoor

/- The program's newHolder, holds, areElements, HoldsIn. Conditions: the structure is valid; the text's length fits an integer. -/
import Derived.Test.YtadgiknnejjplaaDoorDecide3
import Derived.Test.YtadgiknnejjplaaDoorFmTrue
import Derived.Test.YtadgiknnejjplaaDoorParse2
namespace Go.Proofs.YtadgiknnejjplaaDoor
open Go.RowKit
set_option linter.unusedVariables false
set_option maxRecDepth 100000

theorem new_holder_map (w : World) : (Instr.makeMap 135 none).run Tryd.prog w = .ok (.map (some w.heap.size)) (w.alloc (.map #[] 0)) := by kernel_rfl
theorem copy_nil (w : World) (x : Nat) : (Builtin.copy_ #[34, 34] 3 #[.slice (some ⟨x, 0, none⟩) 4 4, .slice none 0 0]).run Tryd.prog w = .ok (.int .i64 0) w := by kernel_rfl
theorem newHolder_any (n : Nat) (S R : ByteArray) (hv : validB n S R = true) (F : Nat → Prop) (w : World) (hF : ∀ b, F b → b < w.heap.size) :
    Calls Tryd.prog 68 #[strV n S R] w fun en w' => ∃ hb kb, en = .returned (ptrV hb) ∧ w.heap.size ≤ kb ∧ Base (fun b => F b ∨ b = hb) (fun b => b = kb) w' hb kb n S R ∧ Below w.heap.size w w' := by
  obtain ⟨h1, h8, hS, hR, _, _⟩ := valid_is hv
  have HF := Lib.hid hF
  clear hF
  unfold strV
  have HB : Hid (Base (fun b => F b ∨ b = w.heap.size + 2) (fun b => b = w.heap.size + 1) (((w.alloc (.cells #[.int .i64 (n : Int), .string S, .string R] 25)).alloc (.map #[] 0)).alloc (.cells #[.int .i64 (n : Int), .string S, .string R, .map (some (w.heap.size + 1))] 137)) (w.heap.size + 2) (w.heap.size + 1) n S R ∧ Below w.heap.size w (((w.alloc (.cells #[.int .i64 (n : Int), .string S, .string R] 25)).alloc (.map #[] 0)).alloc (.cells #[.int .i64 (n : Int), .string S, .string R, .map (some (w.heap.size + 1))] 137))) := by
    refine ⟨⟨?_, .inr rfl, ⟨rfl, ?_, ?_, ?_, #[], 0, ?_, fun x hx => by simp at hx, fun x hx => by simp at hx⟩, hS, hR, h1, h8⟩, (((Below.refl w.heap.size w).alloc (Nat.le_refl _) _).alloc (by simp) _).alloc (by simp; omega) _⟩
    · have := heap_alloc_new ((w.alloc (.cells #[.int .i64 (n : Int), .string S, .string R] 25)).alloc (.map #[] 0)) (.cells #[.int .i64 (n : Int), .string S, .string R, .map (some (w.heap.size + 1))] 137)
      simpa [HoldAt] using this
    · rintro b rfl; simp
    · rintro b (hb | rfl)
      · have := HF.out b hb; simp; omega
      · simp
    · rintro b (hb | rfl) h
      · have := HF.out b hb; omega
      · omega
    · have h0 := heap_alloc_new (w.alloc (.cells #[.int .i64 (n : Int), .string S, .string R] 25)) (.map #[] 0)
      have h1 := Below.block ((Below.refl ((w.alloc (.cells #[.int .i64 (n : Int), .string S, .string R] 25)).alloc (.map #[] 0)).heap.size ((w.alloc (.cells #[.int .i64 (n : Int), .string S, .string R] 25)).alloc (.map #[] 0))).alloc (Nat.le_refl _) (.cells #[.int .i64 (n : Int), .string S, .string R, .map (some (w.heap.size + 1))] 137)) (w.heap.size + 1) (by simp)
      rw [h1]
      simpa using h0
  have nm := new_holder_map (w.alloc (.cells #[.int .i64 (n : Int), .string S, .string R] 25))
  go_enter Tryd.func68, Tryd.ntmps68
  go_wp2_with fail
  go_ret
  exact ⟨_, _, rfl, by omega, HB.out.1, HB.out.2⟩
/-- A list of no elements. -/
theorem holds_nil (φ : Fm.T) (F G : Nat → Prop) (w : World) (hb kb n : Nat) (S R : ByteArray) (p : Nat) (hB : Base F G w hb kb n S R) (hT : Tree F w φ p) :
    Calls Tryd.prog 71 #[ptrV hb, ptrV p, .slice none 0 0] w fun en w' => en = .returned (.bool (Fm.holds (stOf n S R) φ (fun _ => 0))) ∧ EverP F G kb (stOf n S R) w w' := by
  have hbel : Below w.heap.size w (w.alloc (.cells #[.int .i64 0, .int .i64 0, .int .i64 0, .int .i64 0] 80)) := (Below.refl w.heap.size w).alloc (Nat.le_refl _) _
  have HC := Lib.hid (true_any φ F G _ hb kb n S R p (fun _ => 0) (hB.below hbel) (hT.below hbel) (fun _ => by have := hB.n1; omega))
  have HE := Lib.hid (EverP.of_below hB.memo hbel)
  clear hB hT hbel
  unfold ptrV envV at HC
  unfold ptrV
  have cn := copy_nil (w.alloc (.cells #[.int .i64 0, .int .i64 0, .int .i64 0, .int .i64 0] 80)) w.heap.size
  go_enter Tryd.func71, Tryd.ntmps71
  go_wp2_with fail
  refine HC.out.mono ?_; rintro _ w1 ⟨rfl, hev⟩
  have HEND := Lib.hid (HE.out.then (fun b hb => .inl hb) hev)
  clear hev
  go_wp2_with fail
  go_ret
  exact ⟨rfl, HEND.out⟩
theorem index_nil (v : Value) (w : World) : Calls Tryd.prog 197 #[.slice none 0 0, v] w fun en w' => en = .returned (.int .i64 (-1)) ∧ w = w' := by
  go_enter Tryd.func197, Tryd.ntmps197
  go_wp2_with fail
  go_loopw [8, 5] (fun i _ wr => i = .int .i64 0 ∧ wr = w) (fun _ _ _ => 0)
  case atStart => exact ⟨rfl, rfl⟩
  case round =>
    obtain ⟨rfl, rfl⟩ := hrel
    go_wp2_with fail
    go_ret
    exact ⟨rfl, rfl⟩
theorem contains_nil (v : Value) (w : World) : Calls Tryd.prog 164 #[.slice none 0 0, v] w fun en w' => en = .returned (.bool false) ∧ w = w' := by
  go_enter Tryd.func164, Tryd.ntmps164
  go_wp2_with fail
  refine (index_nil _ _).mono ?_; rintro _ _ ⟨rfl, rfl⟩
  go_wp2_with fail
  go_ret
  exact ⟨rfl, rfl⟩
theorem areElements_nil (n : Nat) (S R : ByteArray) (w : World) : Calls Tryd.prog 114 #[strV n S R, .slice none 0 0] w fun en w' => en = .returned (.bool true) ∧ Below w.heap.size w w' := by
  unfold strV
  have HB : Hid (Below w.heap.size w (w.alloc (.cells #[.int .i64 (n : Int), .string S, .string R] 25))) := (Below.refl w.heap.size w).alloc (Nat.le_refl _) _
  go_enter Tryd.func114, Tryd.ntmps114
  go_wp2_with fail
  refine (contains_nil _ _).mono ?_; rintro _ _ ⟨rfl, rfl⟩
  go_wp2_with fail
  go_ret
  exact ⟨rfl, HB.out⟩
end Go.Proofs.YtadgiknnejjplaaDoor

/- The program's newHolder, holds, areElements, HoldsIn. Conditions: the structure is valid; the text's length fits an integer. -/
import Derived.Test.YtadgiknnejjplaaDecide3
import Derived.Test.YtadgiknnejjplaaFmTrue
import Derived.Test.YtadgiknnejjplaaParse2
namespace Go.Proofs.Ytadgiknnejjplaa
open Go.RowKit
set_option linter.unusedVariables false
set_option maxRecDepth 100000

theorem new_holder_map (w : World) : (Instr.makeMap 59 none).run Try.prog w = .ok (.map (some w.heap.size)) (w.alloc (.map #[] 0)) := by kernel_rfl
theorem copy_nil (w : World) (x : Nat) : (Builtin.copy_ #[65, 65] 3 #[.slice (some ⟨x, 0, none⟩) 4 4, .slice none 0 0]).run Try.prog w = .ok (.int .i64 0) w := by kernel_rfl
theorem newHolder_any (n : Nat) (S R : ByteArray) (hv : validB n S R = true) (F : Nat → Prop) (w : World) (hF : ∀ b, F b → b < w.heap.size) :
    Calls Try.prog 19 #[strV n S R] w fun en w' => ∃ hb kb, en = .returned (ptrV hb) ∧ w.heap.size ≤ kb ∧ Base (fun b => F b ∨ b = hb) (fun b => b = kb) w' hb kb n S R ∧ Below w.heap.size w w' := by
  obtain ⟨h1, h8, hS, hR, _, _⟩ := valid_is hv
  have HF := Lib.hid hF
  clear hF
  unfold strV
  have HB : Hid (Base (fun b => F b ∨ b = w.heap.size + 2) (fun b => b = w.heap.size + 1) (((w.alloc (.cells #[.int .i64 (n : Int), .string S, .string R] 36)).alloc (.map #[] 0)).alloc (.cells #[.int .i64 (n : Int), .string S, .string R, .map (some (w.heap.size + 1))] 61)) (w.heap.size + 2) (w.heap.size + 1) n S R ∧ Below w.heap.size w (((w.alloc (.cells #[.int .i64 (n : Int), .string S, .string R] 36)).alloc (.map #[] 0)).alloc (.cells #[.int .i64 (n : Int), .string S, .string R, .map (some (w.heap.size + 1))] 61))) := by
    refine ⟨⟨?_, .inr rfl, ⟨rfl, ?_, ?_, ?_, #[], 0, ?_, fun x hx => by simp at hx, fun x hx => by simp at hx⟩, hS, hR, h1, h8⟩, (((Below.refl w.heap.size w).alloc (Nat.le_refl _) _).alloc (by simp) _).alloc (by simp; omega) _⟩
    · have := heap_alloc_new ((w.alloc (.cells #[.int .i64 (n : Int), .string S, .string R] 36)).alloc (.map #[] 0)) (.cells #[.int .i64 (n : Int), .string S, .string R, .map (some (w.heap.size + 1))] 61)
      simpa [HoldAt] using this
    · rintro b rfl; simp
    · rintro b (hb | rfl)
      · have := HF.out b hb; simp; omega
      · simp
    · rintro b (hb | rfl) h
      · have := HF.out b hb; omega
      · omega
    · have h0 := heap_alloc_new (w.alloc (.cells #[.int .i64 (n : Int), .string S, .string R] 36)) (.map #[] 0)
      have h1 := Below.block ((Below.refl ((w.alloc (.cells #[.int .i64 (n : Int), .string S, .string R] 36)).alloc (.map #[] 0)).heap.size ((w.alloc (.cells #[.int .i64 (n : Int), .string S, .string R] 36)).alloc (.map #[] 0))).alloc (Nat.le_refl _) (.cells #[.int .i64 (n : Int), .string S, .string R, .map (some (w.heap.size + 1))] 61)) (w.heap.size + 1) (by simp)
      rw [h1]
      simpa using h0
  have nm := new_holder_map (w.alloc (.cells #[.int .i64 (n : Int), .string S, .string R] 36))
  go_enter Try.func19, Try.ntmps19
  go_wp2_with fail
  go_ret
  exact ⟨_, _, rfl, by omega, HB.out.1, HB.out.2⟩
/-- A list of no elements. -/
theorem holds_nil (φ : Fm.T) (F G : Nat → Prop) (w : World) (hb kb n : Nat) (S R : ByteArray) (p : Nat) (hB : Base F G w hb kb n S R) (hT : Tree F w φ p) :
    Calls Try.prog 21 #[ptrV hb, ptrV p, .slice none 0 0] w fun en w' => en = .returned (.bool (Fm.holds (stOf n S R) φ (fun _ => 0))) ∧ EverP F G kb (stOf n S R) w w' := by
  have hbel : Below w.heap.size w (w.alloc (.cells #[.int .i64 0, .int .i64 0, .int .i64 0, .int .i64 0] 38)) := (Below.refl w.heap.size w).alloc (Nat.le_refl _) _
  have HC := Lib.hid (true_any φ F G _ hb kb n S R p (fun _ => 0) (hB.below hbel) (hT.below hbel) (fun _ => by have := hB.n1; omega))
  have HE := Lib.hid (EverP.of_below hB.memo hbel)
  clear hB hT hbel
  unfold ptrV envV at HC
  unfold ptrV
  have cn := copy_nil (w.alloc (.cells #[.int .i64 0, .int .i64 0, .int .i64 0, .int .i64 0] 38)) w.heap.size
  go_enter Try.func21, Try.ntmps21
  go_wp2_with fail
  refine HC.out.mono ?_; rintro _ w1 ⟨rfl, hev⟩
  have HEND := Lib.hid (HE.out.then (fun b hb => .inl hb) hev)
  clear hev
  go_wp2_with fail
  go_ret
  exact ⟨rfl, HEND.out⟩
end Go.Proofs.Ytadgiknnejjplaa

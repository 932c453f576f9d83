/- The reference's l2True, HoldsIn: whether a formula without free variables is true in a structure. Conditions: the structure is valid; the text's length fits an integer. -/
import Derived.Test.YtmabpmkkleelaaaDoorFmHolds
import Derived.Test.YtmabpmkkleelaaaDoorSum
namespace Go.Proofs.YtmabpmkkleelaaaDoor
open Go.RowKit
set_option linter.unusedVariables false
set_option maxRecDepth 100000

theorem l2Holds_any (f : ByteArray) (hf : f.size ≤ 1000000) (n : Nat) (S R : ByteArray) (hn : n ≤ 8) (hS : S.size = n) (hR : R.size = n * n) : ∀ φ : Fm.T, LHolds f n S R φ
  | .lit true => lh_lit_true f hf n S R hn hS hR
  | .lit false => lh_lit_false f hf n S R hn hS hR
  | .set v => lh_set f hf n S R hn hS hR v
  | .rel false v u => lh_eq f hf n S R hn hS hR v u
  | .rel true v u => lh_rel f hf n S R hn hS hR v u
  | .neg g => lh_neg f hf n S R hn hS hR g (Lib.hid (l2Holds_any f hf n S R hn hS hR g))
  | .bin false g h => lh_and f hf n S R hn hS hR g h (Lib.hid (l2Holds_any f hf n S R hn hS hR g)) (Lib.hid (l2Holds_any f hf n S R hn hS hR h))
  | .bin true g h => lh_or f hf n S R hn hS hR g h (Lib.hid (l2Holds_any f hf n S R hn hS hR g)) (Lib.hid (l2Holds_any f hf n S R hn hS hR h))
  | .qu q v g => lh_qu f hf n S R hn hS hR q v g (Lib.hid (l2Holds_any f hf n S R hn hS hR g))
theorem l2True_any (f : ByteArray) (hf : f.size ≤ 1000000) (n : Nat) (S R : ByteArray) (hn : n ≤ 8) (hS : S.size = n) (hR : R.size = n * n) (φ : Fm.T) (hA : Fm.At f.data.toList 0 φ) (e : Fm.Env) (he : ∀ v, e v < n) (w : World) :
    Calls Tryd.prog 125 #[strV n S R, .string f, envV e] w fun en w' => en = .returned (.bool (Fm.holds (stOf n S R) φ e)) ∧ Below w.heap.size w w' := by
  have HC : Hid (∀ w, Calls Tryd.prog 184 #[strV n S R, .string f, .int .i64 0, envV e] w fun en w' => en = .returned (.tuple #[.bool (Fm.holds (stOf n S R) φ e), .int .i64 ((0 + Fm.len φ : Nat) : Int)]) ∧ Below w.heap.size w w') := fun w =>
    l2Holds_any f hf n S R hn hS hR φ 0 0 w e rfl hA he
  have hb0 := LBox.new w n S R e
  obtain ⟨x4, hx4⟩ : ∃ x, w.heap.size = x := ⟨_, rfl⟩
  obtain ⟨x7, hx7⟩ : ∃ x, w.heap.size + 1 = x := ⟨_, rfl⟩
  rw [hx7, hx4] at hb0
  unfold envC at hb0
  obtain ⟨W, hW⟩ : ∃ W, (w.alloc (.cells #[.int .i64 (n : Int), .string S, .string R] 28)).alloc (.cells #[.int .i64 ((e 0 : Nat) : Int), .int .i64 ((e 1 : Nat) : Int), .int .i64 ((e 2 : Nat) : Int), .int .i64 ((e 3 : Nat) : Int)] 134) = W := ⟨_, rfl⟩
  rw [hW] at hb0
  have HW := Lib.hid hW; have HB0 := Lib.hid hb0; have HX4 := Lib.hid hx4; have HX7 := Lib.hid hx7
  clear hW hb0 hx4 hx7 hA he
  unfold envV strV at HC
  unfold envV strV
  have s0 := HB0.out.s.1
  have s1 := HB0.out.s.2.1
  have s2 := HB0.out.s.2.2
  have e0 : W.cell? ⟨x7, 0, none⟩ = some (.int .i64 ((e 0 : Nat) : Int)) := HB0.out.e 0
  have e1 : W.cell? ⟨x7, 1, none⟩ = some (.int .i64 ((e 1 : Nat) : Int)) := HB0.out.e 1
  have e2 : W.cell? ⟨x7, 2, none⟩ = some (.int .i64 ((e 2 : Nat) : Int)) := HB0.out.e 2
  have e3 : W.cell? ⟨x7, 3, none⟩ = some (.int .i64 ((e 3 : Nat) : Int)) := HB0.out.e 3
  go_enter Tryd.func125, Tryd.ntmps125
  go_upto_region 1 with fail
  rw [HW.out, HX7.out, HX4.out]
  go_wp2_with fail
  refine (HC.out _).mono ?_; rintro _ w1 ⟨rfl, hb1⟩
  have HB1 := Lib.hid (HB0.out.after hb1).below
  clear s0 s1 s2 e0 e1 e2 e3
  go_wp2_with fail
  go_ret
  exact ⟨rfl, HB1.out⟩
/-- Whether a text is a formula without free variables that is true, and whether it is such a formula. -/
def hin (f : ByteArray) (a : Gs.St) : Bool × Bool :=
  match readB f with
  | none => (false, false)
  | some φ => if Fm.free φ = 0 then (Fm.holds a φ (fun _ => 0), true) else (false, false)
theorem readB_at {f : ByteArray} {φ : Fm.T} (h : readB f = some φ) : Fm.At f.data.toList 0 φ ∧ f.size ≤ 4000 := by
  unfold readB at h
  obtain ⟨h1, h2⟩ := Fm.read_iff.1 h
  exact ⟨by rw [h1]; exact Fm.At.whole φ, by simpa using h2⟩
theorem ret_bb {a b c d : Bool} (h : a = c) (h2 : b = d) : Ending.returned (.tuple #[.bool a, .bool b]) = .returned (.tuple #[.bool c, .bool d]) := by rw [h, h2]
end Go.Proofs.YtmabpmkkleelaaaDoor

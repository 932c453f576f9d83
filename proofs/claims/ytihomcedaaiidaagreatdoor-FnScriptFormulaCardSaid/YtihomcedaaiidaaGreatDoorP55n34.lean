/- Contracts of the program's functions and what they compute: part 34. Conditions: those that each theorem states. -/
import Derived.Test.YtihomcedaaiidaaGreatDoorP55n32
import Derived.Test.YtihomcedaaiidaaGreatDoorP55n1
import Derived.Test.YtihomcedaaiidaaGreatDoorP55n30
namespace Go.Proofs.YtihomcedaaiidaaGreatDoor
namespace Fm
def sgn (o : Bool) (φ : T) : T := if o then .neg φ else φ
def pushT : Bool → T → T
  | o, .lit b => .lit (o ^^ b)
  | o, .set v => sgn o (.set v)
  | o, .rel e v w => sgn o (.rel e v w)
  | o, .neg f => pushT (!o) f
  | o, .bin d f g => .bin (o ^^ d) (pushT o f) (pushT o g)
  | o, .qu .all v f => .qu (if o then .some else .all) v (pushT o f)
  | o, .qu .some v f => .qu (if o then .all else .some) v (pushT o f)
  | o, .qu .two v f => sgn o (.qu .two v (pushT false f))
  | o, .qu .three v f => sgn o (.qu .three v (pushT false f))
  | o, .qu .four v f => sgn o (.qu .four v (pushT false f))
theorem cnt_not (p : Nat → Bool) : ∀ n, cnt (fun x => !p x) n + cnt p n = n
  | 0 => rfl
  | n + 1 => by
    have := cnt_not p n
    unfold cnt
    cases p n <;> simp <;> omega
theorem cnt_dec1 {A B n : Nat} (h : A + B = n) : decide (1 ≤ A) = !decide (n ≤ B) := by
  by_cases h1 : 1 ≤ A
  · rw [decide_eq_true h1, decide_eq_false (by omega)]; rfl
  · rw [decide_eq_false h1, decide_eq_true (by omega)]; rfl
theorem cnt_dec2 {A B n : Nat} (h : A + B = n) : decide (n ≤ A) = !decide (1 ≤ B) := by
  by_cases h1 : 1 ≤ B
  · rw [decide_eq_true h1, decide_eq_false (by omega)]; rfl
  · rw [decide_eq_false h1, decide_eq_true (by omega)]; rfl
theorem holds_sgn (a : Gs.St) (o : Bool) (φ : T) (e : Env) : holds a (sgn o φ) e = (o ^^ holds a φ e) := by
  cases o <;> simp [sgn, holds]
theorem holds_push (a : Gs.St) : ∀ (φ : T) (o : Bool) (e : Env), holds a (pushT o φ) e = (o ^^ holds a φ e)
  | .lit b, o, e => rfl
  | .set v, o, e => holds_sgn a o _ e
  | .rel d v w, o, e => holds_sgn a o _ e
  | .neg f, o, e => by
    show holds a (pushT (!o) f) e = _
    rw [holds_push a f]
    show ((!o) ^^ holds a f e) = (o ^^ !holds a f e)
    cases o <;> cases holds a f e <;> rfl
  | .bin d f g, o, e => by
    show holds a (.bin (o ^^ d) (pushT o f) (pushT o g)) e = _
    have h1 := holds_push a f o e
    have h2 := holds_push a g o e
    cases o <;> cases d <;> simp [holds, h1, h2]
  | .qu .all v f, o, e => by
    show holds a (.qu (if o then .some else .all) v (pushT o f)) e = _
    have h : (fun x => holds a (pushT o f) (upd e v x)) = fun x => (o ^^ holds a f (upd e v x)) := funext fun x => holds_push a f o _
    have hc := cnt_not (fun x => holds a f (upd e v x)) a.n
    cases o
    · simp only [holds, h, Bool.false_bne, Bool.false_eq_true, if_false]
    · simp only [holds, h, Bool.true_bne, if_true, Q.need]
      exact cnt_dec1 hc
  | .qu .some v f, o, e => by
    show holds a (.qu (if o then .all else .some) v (pushT o f)) e = _
    have h : (fun x => holds a (pushT o f) (upd e v x)) = fun x => (o ^^ holds a f (upd e v x)) := funext fun x => holds_push a f o _
    have hc := cnt_not (fun x => holds a f (upd e v x)) a.n
    cases o
    · simp only [holds, h, Bool.false_bne, Bool.false_eq_true, if_false]
    · simp only [holds, h, Bool.true_bne, if_true, Q.need]
      exact cnt_dec2 hc
  | .qu .two v f, o, e => (holds_sgn a o _ e).trans (by
    have h : (fun x => holds a (pushT false f) (upd e v x)) = fun x => holds a f (upd e v x) := funext fun x => (holds_push a f false _).trans (Bool.false_xor _)
    simp only [holds, h])
  | .qu .three v f, o, e => (holds_sgn a o _ e).trans (by
    have h : (fun x => holds a (pushT false f) (upd e v x)) = fun x => holds a f (upd e v x) := funext fun x => (holds_push a f false _).trans (Bool.false_xor _)
    simp only [holds, h])
  | .qu .four v f, o, e => (holds_sgn a o _ e).trans (by
    have h : (fun x => holds a (pushT false f) (upd e v x)) = fun x => holds a f (upd e v x) := funext fun x => (holds_push a f false _).trans (Bool.false_xor _)
    simp only [holds, h])
theorem free_sgn (o : Bool) (φ : T) : free (sgn o φ) = free φ := by cases o <;> rfl
theorem free_push : ∀ (φ : T) (o : Bool), free (pushT o φ) = free φ
  | .lit b, o => rfl
  | .set v, o => free_sgn o _
  | .rel d v w, o => free_sgn o _
  | .neg f, o => free_push f (!o)
  | .bin d f g, o => by show free (pushT o f) ||| free (pushT o g) = _; rw [free_push f, free_push g]; rfl
  | .qu .all v f, o => by show free (pushT o f) &&& _ = _; rw [free_push f]; rfl
  | .qu .some v f, o => by show free (pushT o f) &&& _ = _; rw [free_push f]; rfl
  | .qu .two v f, o => (free_sgn o _).trans (by show free (pushT false f) &&& _ = _; rw [free_push f]; rfl)
  | .qu .three v f, o => (free_sgn o _).trans (by show free (pushT false f) &&& _ = _; rw [free_push f]; rfl)
  | .qu .four v f, o => (free_sgn o _).trans (by show free (pushT false f) &&& _ = _; rw [free_push f]; rfl)
theorem len_sgn (o : Bool) (φ : T) : (text (sgn o φ)).length ≤ (text φ).length + 1 := by cases o <;> simp [sgn, text]
theorem len_push : ∀ (φ : T) (o : Bool), (text (pushT o φ)).length ≤ 2 * (text φ).length
  | .lit b, o => by simp [pushT, text]
  | .set v, o => Nat.le_trans (len_sgn o _) (by simp [text])
  | .rel d v w, o => Nat.le_trans (len_sgn o _) (by simp [text])
  | .neg f, o => Nat.le_trans (len_push f (!o)) (by simp only [text, List.length_cons]; omega)
  | .bin d f g, o => by
    have h1 := len_push f o
    have h2 := len_push g o
    simp only [pushT, text, List.length_cons, List.length_append]; omega
  | .qu .all v f, o => by have h1 := len_push f o; simp only [pushT, text, List.length_cons]; omega
  | .qu .some v f, o => by have h1 := len_push f o; simp only [pushT, text, List.length_cons]; omega
  | .qu .two v f, o => Nat.le_trans (len_sgn o _) (by have h1 := len_push f false; simp only [text, List.length_cons]; omega)
  | .qu .three v f, o => Nat.le_trans (len_sgn o _) (by have h1 := len_push f false; simp only [text, List.length_cons]; omega)
  | .qu .four v f, o => Nat.le_trans (len_sgn o _) (by have h1 := len_push f false; simp only [text, List.length_cons]; omega)
/-- A structure with its relation turned. -/
def turnSt (a : Gs.St) : Gs.St := { a with r := fun x y => a.r y x }
theorem holds_swap (a : Gs.St) : ∀ (φ : T) (e : Env), holds (turnSt a) (swap φ) e = holds a φ e
  | .lit b, e => rfl
  | .set v, e => rfl
  | .rel true v w, e => rfl
  | .rel false v w, e => by first | rfl | (simp [swap, holds]) | (simp [swap, holds, eq_comm])
  | .neg f, e => by show (!holds (turnSt a) (swap f) e) = _; rw [holds_swap a f]; rfl
  | .bin true f g, e => by show (holds (turnSt a) (swap f) e || holds (turnSt a) (swap g) e) = _; rw [holds_swap a f, holds_swap a g]; rfl
  | .bin false f g, e => by show (holds (turnSt a) (swap f) e && holds (turnSt a) (swap g) e) = _; rw [holds_swap a f, holds_swap a g]; rfl
  | .qu q v f, e => by
    have h : (fun x => holds (turnSt a) (swap f) (upd e v x)) = fun x => holds a f (upd e v x) := funext fun x => holds_swap a f _
    show decide (q.need a.n ≤ cnt (fun x => holds (turnSt a) (swap f) (upd e v x)) a.n) = _
    rw [h]
    rfl
end Fm
end Go.Proofs.YtihomcedaaiidaaGreatDoor

namespace Go.Proofs.YtihomcedaaiidaaGreatDoor
open Go.RowKit
set_option linter.unusedVariables false
set_option maxRecDepth 100000
theorem short_yes (s : ByteArray) (hs : s.size ≤ 4000) (w : World) : Calls Tryz.prog 28 #[.string s, .bool true] w fun e w' => e = .returned (.tuple #[.string s, .bool true]) ∧ Below w.heap.size w w' := by
  have h : ¬ (4000 : Int) < (s.size : Int) := by omega
  go_enter Tryz.func28, Tryz.ntmps28
  go_wp2_with fail
  go_ret2
  exact ⟨rfl, Below.refl _ _⟩
theorem turned_116 (w : World) : Calls Tryz.prog 57 #[.int .u8 116] w fun e w' => e = .returned (.int .u8 102) ∧ Below w.heap.size w w' := by
  have HI := Lib.hid (fun w => indexByte_any ⟨#[116, 102, 38, 124, 65, 83]⟩ 116 w)
  have e : Lib.indexByte (⟨#[116, 102, 38, 124, 65, 83]⟩ : ByteArray).data.toList ((116 : Int).toNat.toUInt8) = 0 := by decide
  rw [e] at HI
  replace HI : Hid (∀ w, Calls Tryz.prog 93 #[.string ⟨#[116, 102, 38, 124, 65, 83]⟩, .int .u8 116] w fun e w' => e = .returned (.int .i64 0) ∧ w' = w) := HI.out
  go_enter Tryz.func57, Tryz.ntmps57
  go_wp2_with fail
  refine (HI.out _).mono ?_; rintro e w' ⟨rfl, hw⟩; rw [hw]; clear hw
  go_wp2_with fail
  go_ret
  exact ⟨rfl, Below.refl _ _⟩
theorem turned_102 (w : World) : Calls Tryz.prog 57 #[.int .u8 102] w fun e w' => e = .returned (.int .u8 116) ∧ Below w.heap.size w w' := by
  have HI := Lib.hid (fun w => indexByte_any ⟨#[116, 102, 38, 124, 65, 83]⟩ 102 w)
  have e : Lib.indexByte (⟨#[116, 102, 38, 124, 65, 83]⟩ : ByteArray).data.toList ((102 : Int).toNat.toUInt8) = 1 := by decide
  rw [e] at HI
  replace HI : Hid (∀ w, Calls Tryz.prog 93 #[.string ⟨#[116, 102, 38, 124, 65, 83]⟩, .int .u8 102] w fun e w' => e = .returned (.int .i64 1) ∧ w' = w) := HI.out
  go_enter Tryz.func57, Tryz.ntmps57
  go_wp2_with fail
  refine (HI.out _).mono ?_; rintro e w' ⟨rfl, hw⟩; rw [hw]; clear hw
  go_wp2_with fail
  go_ret
  exact ⟨rfl, Below.refl _ _⟩
theorem turned_38 (w : World) : Calls Tryz.prog 57 #[.int .u8 38] w fun e w' => e = .returned (.int .u8 124) ∧ Below w.heap.size w w' := by
  have HI := Lib.hid (fun w => indexByte_any ⟨#[116, 102, 38, 124, 65, 83]⟩ 38 w)
  have e : Lib.indexByte (⟨#[116, 102, 38, 124, 65, 83]⟩ : ByteArray).data.toList ((38 : Int).toNat.toUInt8) = 2 := by decide
  rw [e] at HI
  replace HI : Hid (∀ w, Calls Tryz.prog 93 #[.string ⟨#[116, 102, 38, 124, 65, 83]⟩, .int .u8 38] w fun e w' => e = .returned (.int .i64 2) ∧ w' = w) := HI.out
  go_enter Tryz.func57, Tryz.ntmps57
  go_wp2_with fail
  refine (HI.out _).mono ?_; rintro e w' ⟨rfl, hw⟩; rw [hw]; clear hw
  go_wp2_with fail
  go_ret
  exact ⟨rfl, Below.refl _ _⟩
theorem turned_124 (w : World) : Calls Tryz.prog 57 #[.int .u8 124] w fun e w' => e = .returned (.int .u8 38) ∧ Below w.heap.size w w' := by
  have HI := Lib.hid (fun w => indexByte_any ⟨#[116, 102, 38, 124, 65, 83]⟩ 124 w)
  have e : Lib.indexByte (⟨#[116, 102, 38, 124, 65, 83]⟩ : ByteArray).data.toList ((124 : Int).toNat.toUInt8) = 3 := by decide
  rw [e] at HI
  replace HI : Hid (∀ w, Calls Tryz.prog 93 #[.string ⟨#[116, 102, 38, 124, 65, 83]⟩, .int .u8 124] w fun e w' => e = .returned (.int .i64 3) ∧ w' = w) := HI.out
  go_enter Tryz.func57, Tryz.ntmps57
  go_wp2_with fail
  refine (HI.out _).mono ?_; rintro e w' ⟨rfl, hw⟩; rw [hw]; clear hw
  go_wp2_with fail
  go_ret
  exact ⟨rfl, Below.refl _ _⟩
theorem turned_65 (w : World) : Calls Tryz.prog 57 #[.int .u8 65] w fun e w' => e = .returned (.int .u8 83) ∧ Below w.heap.size w w' := by
  have HI := Lib.hid (fun w => indexByte_any ⟨#[116, 102, 38, 124, 65, 83]⟩ 65 w)
  have e : Lib.indexByte (⟨#[116, 102, 38, 124, 65, 83]⟩ : ByteArray).data.toList ((65 : Int).toNat.toUInt8) = 4 := by decide
  rw [e] at HI
  replace HI : Hid (∀ w, Calls Tryz.prog 93 #[.string ⟨#[116, 102, 38, 124, 65, 83]⟩, .int .u8 65] w fun e w' => e = .returned (.int .i64 4) ∧ w' = w) := HI.out
  go_enter Tryz.func57, Tryz.ntmps57
  go_wp2_with fail
  refine (HI.out _).mono ?_; rintro e w' ⟨rfl, hw⟩; rw [hw]; clear hw
  go_wp2_with fail
  go_ret
  exact ⟨rfl, Below.refl _ _⟩
theorem turned_83 (w : World) : Calls Tryz.prog 57 #[.int .u8 83] w fun e w' => e = .returned (.int .u8 65) ∧ Below w.heap.size w w' := by
  have HI := Lib.hid (fun w => indexByte_any ⟨#[116, 102, 38, 124, 65, 83]⟩ 83 w)
  have e : Lib.indexByte (⟨#[116, 102, 38, 124, 65, 83]⟩ : ByteArray).data.toList ((83 : Int).toNat.toUInt8) = 5 := by decide
  rw [e] at HI
  replace HI : Hid (∀ w, Calls Tryz.prog 93 #[.string ⟨#[116, 102, 38, 124, 65, 83]⟩, .int .u8 83] w fun e w' => e = .returned (.int .i64 5) ∧ w' = w) := HI.out
  go_enter Tryz.func57, Tryz.ntmps57
  go_wp2_with fail
  refine (HI.out _).mono ?_; rintro e w' ⟨rfl, hw⟩; rw [hw]; clear hw
  go_wp2_with fail
  go_ret
  exact ⟨rfl, Below.refl _ _⟩
end Go.Proofs.YtihomcedaaiidaaGreatDoor

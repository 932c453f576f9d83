/- The reference's l2Var, l2End, FormulaValid. Condition: the text is not long. -/
import Derived.Test.YtnhlhjehocngcaaDoorFind
import Derived.Test.YtnhlhjehocngcaaDoorFm
import Derived.Test.YtnhlhjehocngcaaDoorFmGo
namespace Go.Proofs.YtnhlhjehocngcaaDoor
open Go.RowKit
set_option linter.unusedVariables false

theorem pos_abcd (c : UInt8) (s : List UInt8) : posB c [97, 98, 99, 100] 0 = Fm.varI (c :: s) := by
  rw [Fm.varI_cons]
  simp only [posB]
  by_cases h1 : c = 97
  · rw [if_pos h1.symm, if_pos h1]; rfl
  rw [if_neg (Ne.symm h1), if_neg h1]
  by_cases h2 : c = 98
  · rw [if_pos h2.symm, if_pos h2]; rfl
  rw [if_neg (Ne.symm h2), if_neg h2]
  by_cases h3 : c = 99
  · rw [if_pos h3.symm, if_pos h3]; rfl
  rw [if_neg (Ne.symm h3), if_neg h3]
  by_cases h4 : c = 100
  · rw [if_pos h4.symm, if_pos h4]; rfl
  rw [if_neg (Ne.symm h4), if_neg h4]

theorem char_cases (x : UInt8) : x = 116 ∨ x = 102 ∨ x = 80 ∨ (∃ e : Bool, x = if e then 69 else 61) ∨ x = 33 ∨ (∃ o : Bool, x = if o then 124 else 38) ∨ (∃ q : Fm.Q, x = q.byte) ∨
    (x ≠ 116 ∧ x ≠ 102 ∧ x ≠ 80 ∧ x ≠ 61 ∧ x ≠ 69 ∧ x ≠ 33 ∧ x ≠ 38 ∧ x ≠ 124 ∧ x ≠ 65 ∧ x ≠ 83 ∧ x ≠ 50 ∧ x ≠ 51 ∧ x ≠ 52) := by
  by_cases h1 : x = 116; exact .inl h1
  refine .inr ?_
  by_cases h2 : x = 102; exact .inl h2
  refine .inr ?_
  by_cases h3 : x = 80; exact .inl h3
  refine .inr ?_
  by_cases h4 : x = 61; exact .inl ⟨false, h4⟩
  by_cases h5 : x = 69; exact .inl ⟨true, h5⟩
  refine .inr ?_
  by_cases h6 : x = 33; exact .inl h6
  refine .inr ?_
  by_cases h7 : x = 38; exact .inl ⟨false, h7⟩
  by_cases h8 : x = 124; exact .inl ⟨true, h8⟩
  refine .inr ?_
  by_cases h9 : x = 65; exact .inl ⟨.all, h9⟩
  by_cases h10 : x = 83; exact .inl ⟨.some, h10⟩
  by_cases h11 : x = 50; exact .inl ⟨.two, h11⟩
  by_cases h12 : x = 51; exact .inl ⟨.three, h12⟩
  by_cases h13 : x = 52; exact .inl ⟨.four, h13⟩
  exact .inr ⟨h1, h2, h3, h4, h5, h6, h7, h8, h9, h10, h11, h12, h13⟩
theorem byte_no {x : UInt8} {n : Nat} (hn : n < 256) (h : x ≠ UInt8.ofNat n) : ((x.toNat : Int) == (n : Int)) = false := by
  rw [← Bool.not_eq_true, beq_iff_eq]
  intro e
  have e2 : x.toNat = n := by omega
  exact h (UInt8.toNat_inj.1 (by rw [e2, UInt8.toNat_ofNat']; omega))

end Go.Proofs.YtnhlhjehocngcaaDoor
/- The reference's l2Quant, l2Free, FormulaValid, l11View. Condition: the text is not long. -/
namespace Go.Proofs.YtnhlhjehocngcaaDoor
open Go.RowKit
set_option linter.unusedVariables false

namespace Fm
/-- A formula's text lies at a place of a text. -/
def At (L : List UInt8) (a : Nat) (φ : T) : Prop := ∃ r, L.drop a = text φ ++ r
theorem At.of_parse {L : List UInt8} {a : Nat} {φ : T} (h : parseAt L a = some φ) : At L a φ := ⟨_, (parseAt_len h).2.2⟩
theorem At.whole (φ : T) : At (text φ) 0 φ := ⟨[], by simp⟩
theorem At.more {L : List UInt8} {a : Nat} {φ : T} {s t : List UInt8} (h : At L a φ) (k : Nat) (e : text φ = s ++ t) (hk : s.length = k) : ∃ r, L.drop (a + k) = t ++ r := by
  obtain ⟨r, hr⟩ := h
  refine ⟨r, ?_⟩
  rw [← List.drop_drop, hr, e, ← hk, List.append_assoc, List.drop_left]
theorem At.le {L : List UInt8} {a : Nat} {φ : T} (h : At L a φ) : a + len φ ≤ L.length := by
  obtain ⟨r, hr⟩ := h
  have h1 := congrArg List.length hr
  rw [List.length_drop, List.length_append] at h1
  have h2 := text_pos φ
  unfold len
  omega
theorem text_op (φ : T) : ∃ t, text φ = φ.op :: t := by cases φ <;> exact ⟨_, rfl⟩
theorem At.head {L : List UInt8} {a : Nat} {φ : T} (h : At L a φ) : ∃ hl : a < L.length, L[a] = φ.op := by
  have hl : a < L.length := by have h1 := h.le; have h2 := text_pos φ; unfold len at h1; omega
  refine ⟨hl, ?_⟩
  obtain ⟨r, hr⟩ := h
  obtain ⟨t, ht⟩ := text_op φ
  rw [drop_cons hl, ht] at hr
  injection hr with h1 _
theorem At.neg {L : List UInt8} {a : Nat} {f : T} (h : At L a (.neg f)) : At L (a + 1) f := h.more (s := [33]) 1 rfl rfl
theorem At.bin1 {L : List UInt8} {a : Nat} {o : Bool} {f g : T} (h : At L a (.bin o f g)) : At L (a + 1) f := by
  obtain ⟨r, hr⟩ := h.more (s := [if o then 124 else 38]) (t := text f ++ text g) 1 rfl rfl
  exact ⟨text g ++ r, by rw [hr, List.append_assoc]⟩
theorem At.bin2 {L : List UInt8} {a : Nat} {o : Bool} {f g : T} (h : At L a (.bin o f g)) : At L (a + 1 + len f) g := by
  rw [Nat.add_assoc]
  exact h.more (s := (if o then 124 else 38) :: text f) (1 + len f) rfl (by simp [len]; omega)
theorem At.qu {L : List UInt8} {a : Nat} {q : Q} {v : Fin 4} {f : T} (h : At L a (.qu q v f)) : At L (a + 2) f := h.more (s := [q.byte, vb v]) 2 rfl rfl
theorem varI_vb (v : Fin 4) (s : List UInt8) : varI (vb v :: s) = (v.val : Int) := by unfold varI; rw [pvar_vb]
theorem At.qv {L : List UInt8} {a : Nat} {q : Q} {v : Fin 4} {f : T} (h : At L a (.qu q v f)) : varI (L.drop (a + 1)) = (v.val : Int) := by
  obtain ⟨r, hr⟩ := h.more (s := [q.byte]) (t := vb v :: text f) 1 rfl rfl
  rw [hr]; exact varI_vb _ _
theorem At.sv {L : List UInt8} {a : Nat} {v : Fin 4} (h : At L a (.set v)) : varI (L.drop (a + 1)) = (v.val : Int) := by
  obtain ⟨r, hr⟩ := h.more (s := [80]) (t := [vb v]) 1 rfl rfl
  rw [hr]; exact varI_vb _ _
theorem At.rv {L : List UInt8} {a : Nat} {e : Bool} {v w : Fin 4} (h : At L a (.rel e v w)) : varI (L.drop (a + 1)) = (v.val : Int) := by
  obtain ⟨r, hr⟩ := h.more (s := [if e then 69 else 61]) (t := [vb v, vb w]) 1 rfl rfl
  rw [hr]; exact varI_vb _ _
theorem At.rw {L : List UInt8} {a : Nat} {e : Bool} {v w : Fin 4} (h : At L a (.rel e v w)) : varI (L.drop (a + 2)) = (w.val : Int) := by
  obtain ⟨r, hr⟩ := h.more (s := [if e then 69 else 61, vb v]) (t := [vb w]) 2 rfl rfl
  rw [hr]; exact varI_vb _ _
theorem At.endI {L : List UInt8} {a : Nat} {φ : T} (h : At L a φ) : Fm.endI L a = ((a + len φ : Nat) : Int) := by
  refine endI_some ?_
  obtain ⟨r, hr⟩ := h
  unfold parseAt
  rw [hr, parse_text]
  · rfl
  · have h1 := congrArg List.length hr
    rw [List.length_drop, List.length_append] at h1
    omega
end Fm

theorem or_i64 (a b : Nat) (ha : a < 16) (hb : b < 16) : bits .or .i64 (a : Int) (b : Int) = ((a ||| b : Nat) : Int) := by
  have h : ∀ a b : Fin 16, bits .or .i64 (a.val : Int) (b.val : Int) = ((a.val ||| b.val : Nat) : Int) := by decide +kernel
  exact h ⟨a, ha⟩ ⟨b, hb⟩
theorem andNot_i64 (a b : Nat) (ha : a < 16) (hb : b < 16) : bits .andNot .i64 (a : Int) (b : Int) = ((a &&& (15 ^^^ b) : Nat) : Int) := by
  have h : ∀ a b : Fin 16, bits .andNot .i64 (a.val : Int) (b.val : Int) = ((a.val &&& (15 ^^^ b.val) : Nat) : Int) := by decide +kernel
  exact h ⟨a, ha⟩ ⟨b, hb⟩
theorem shl_i64 (v : Fin 4) : IntKind.i64.wrap (2 ^ v.val) = ((1 <<< v.val : Nat) : Int) := by revert v; decide +kernel

theorem pos_quant (c : UInt8) : decide (0 ≤ posB c [65, 83, 50, 51, 52] 0) = Fm.isQu c := by
  unfold Fm.isQu Fm.quOf
  by_cases h1 : c = 65
  · subst h1; decide
  by_cases h2 : c = 83
  · subst h2; decide
  by_cases h3 : c = 50
  · subst h3; decide
  by_cases h4 : c = 51
  · subst h4; decide
  by_cases h5 : c = 52
  · subst h5; decide
  simp [posB, Ne.symm h1, Ne.symm h2, Ne.symm h3, Ne.symm h4, Ne.symm h5, h1, h2, h3, h4, h5]
end Go.Proofs.YtnhlhjehocngcaaDoor
/- The reference's l2Free, FormulaValid, l11View. Condition: the text is not long. -/
namespace Go.Proofs.YtnhlhjehocngcaaDoor
open Go.RowKit
set_option linter.unusedVariables false

theorem ret_two {a b c d : Int} (h : a = c) (h2 : b = d) : Ending.returned (.tuple #[.int .i64 a, .int .i64 b]) = .returned (.tuple #[.int .i64 c, .int .i64 d]) := by rw [h, h2]
theorem byte_eq {f : ByteArray} {a : Nat} {c : UInt8} (h : ∃ hl : a < f.data.toList.length, f.data.toList[a] = c) : ∃ hl : a < f.size, f[a] = c := by
  obtain ⟨hl, h⟩ := h
  exact ⟨by simpa using hl, h⟩

/-- Whether a text is a formula. -/
def readB (f : ByteArray) : Option Fm.T := Fm.read f.data.toList
end Go.Proofs.YtnhlhjehocngcaaDoor

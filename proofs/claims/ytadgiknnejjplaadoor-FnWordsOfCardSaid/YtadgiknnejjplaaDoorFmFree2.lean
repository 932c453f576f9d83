/- The reference's l2Free, FormulaValid, l11View. Condition: the text is not long. -/
import Derived.Test.YtadgiknnejjplaaDoorFmFree
namespace Go.Proofs.YtadgiknnejjplaaDoor
open Go.RowKit
set_option linter.unusedVariables false

theorem ret_two {a b c d : Int} (h : a = c) (h2 : b = d) : Ending.returned (.tuple #[.int .i64 a, .int .i64 b]) = .returned (.tuple #[.int .i64 c, .int .i64 d]) := by rw [h, h2]
theorem byte_eq {f : ByteArray} {a : Nat} {c : UInt8} (h : ∃ hl : a < f.data.toList.length, f.data.toList[a] = c) : ∃ hl : a < f.size, f[a] = c := by
  obtain ⟨hl, h⟩ := h
  exact ⟨by simpa using hl, h⟩

set_option maxRecDepth 100000 in
set_option maxHeartbeats 2000000 in
theorem l2Free_any (f : ByteArray) (hf : f.size ≤ 1000000) : ∀ (φ : Fm.T) (z : Int) (a : Nat) (w : World), z = (a : Int) → Fm.At f.data.toList a φ →
    Calls Tryd.prog 124 #[.string f, .int .i64 z] w fun e w' => e = .returned (.tuple #[.int .i64 ((Fm.free φ : Nat) : Int), .int .i64 ((a + Fm.len φ : Nat) : Int)]) ∧ w' = w := by
  have HV := Lib.hid (fun z a w hz => l2Var_any f z a w hz hf)
  intro φ
  induction φ with
  | lit b =>
    intro z a w hz hA
    subst hz
    obtain ⟨hlt, hx⟩ := byte_eq hA.head
    have haI : (0 : Int) ≤ (a : Int) := by omega
    have HE : Hid ((a : Int) + 1 = ((a + Fm.len (.lit b) : Nat) : Int)) := by show _ = _; simp [Fm.len, Fm.text]
    clear hA
    cases b
    all_goals
      replace hx : f[a] = _ := hx
      simp only [Fm.T.op] at hx
      go_enter Tryd.func124, Tryd.ntmps124
      go_wp2_with fail
      go_ret2
      exact ⟨ret_two rfl HE.out, rfl⟩
  | set v =>
    intro z a w hz hA
    subst hz
    obtain ⟨hlt, hx⟩ := byte_eq hA.head
    have haI : (0 : Int) ≤ (a : Int) := by omega
    have HE : Hid ((a : Int) + 2 = ((a + Fm.len (.set v) : Nat) : Int)) := by show _ = _; simp [Fm.len, Fm.text]
    have HV1 := Lib.hid (fun w => HV.out ((a : Int) + 1) (a + 1) w (by omega))
    rw [hA.sv] at HV1
    have hs1 : IntKind.i64.wrap (2 ^ v.val) = ((Fm.free (.set v) : Nat) : Int) := shl_i64 v
    generalize Fm.free (.set v) = FR at *
    have hv := v.isLt
    obtain ⟨k, hk⟩ : ∃ k, v.val = k := ⟨_, rfl⟩
    rw [hk] at HV1 hs1 hv
    clear hA hk
    have hkI : (0 : Int) ≤ (k : Int) ∧ (k : Int) < 4 := by omega
    have hcv : IntKind.u64.wrap (k : Int) = k := IntWalk.u64_in _ (by omega)
    replace hx : f[a] = 80 := hx
    go_enter Tryd.func124, Tryd.ntmps124
    go_wp2_with fail
    refine (HV1.out _).mono ?_; rintro e w' ⟨rfl, rfl⟩
    go_wp2_with fail
    go_ret2
    exact ⟨ret_two rfl HE.out, rfl⟩
  | rel e v u =>
    intro z a w hz hA
    subst hz
    obtain ⟨hlt, hx⟩ := byte_eq hA.head
    have haI : (0 : Int) ≤ (a : Int) := by omega
    have HE : Hid ((a : Int) + 3 = ((a + Fm.len (.rel e v u) : Nat) : Int)) := by show _ = _; simp [Fm.len, Fm.text]
    have HV1 := Lib.hid (fun w => HV.out ((a : Int) + 1) (a + 1) w (by omega))
    have HV2 := Lib.hid (fun w => HV.out ((a : Int) + 2) (a + 2) w (by omega))
    rw [hA.rv] at HV1
    rw [hA.rw] at HV2
    have hs1 := shl_i64 v
    have hs2 := shl_i64 u
    have hor : bits .or .i64 ((1 <<< v.val : Nat) : Int) ((1 <<< u.val : Nat) : Int) = ((Fm.free (.rel e v u) : Nat) : Int) := or_i64 _ _ (Fm.bit_lt v) (Fm.bit_lt u)
    generalize Fm.free (.rel e v u) = FR at *
    have hv := v.isLt
    have hu := u.isLt
    obtain ⟨k, hk⟩ : ∃ k, v.val = k := ⟨_, rfl⟩
    obtain ⟨j, hj⟩ : ∃ j, u.val = j := ⟨_, rfl⟩
    rw [hk] at HV1 hs1 hv hor
    rw [hj] at HV2 hs2 hu hor
    generalize (1 <<< k) = A at *
    generalize (1 <<< j) = B at *
    clear hA hk hj
    have hkI : (0 : Int) ≤ (k : Int) ∧ (k : Int) < 4 := by omega
    have hjI : (0 : Int) ≤ (j : Int) ∧ (j : Int) < 4 := by omega
    have hcv : IntKind.u64.wrap (k : Int) = k := IntWalk.u64_in _ (by omega)
    have hcj : IntKind.u64.wrap (j : Int) = j := IntWalk.u64_in _ (by omega)
    cases e
    all_goals
      replace hx : f[a] = _ := hx
      simp only [Fm.T.op] at hx
      go_enter Tryd.func124, Tryd.ntmps124
      go_wp2_with fail
      refine (HV1.out _).mono ?_; rintro e w' ⟨rfl, rfl⟩
      go_wp2_with fail
      refine (HV2.out _).mono ?_; rintro e w' ⟨rfl, rfl⟩
      go_wp2_with fail
      go_ret2
      exact ⟨ret_two rfl HE.out, rfl⟩
  | neg g ih =>
    intro z a w hz hA
    subst hz
    obtain ⟨hlt, hx⟩ := byte_eq hA.head
    have haI : (0 : Int) ≤ (a : Int) := by omega
    have HE : Hid (((a + 1 + Fm.len g : Nat) : Int) = ((a + Fm.len (.neg g) : Nat) : Int)) := by show _ = _; simp [Fm.len, Fm.text]; omega
    have HC := Lib.hid (fun w => ih ((a : Int) + 1) (a + 1) w (by omega) hA.neg)
    rw [HE.out] at HC
    replace hx : f[a] = 33 := hx
    clear hA ih
    go_enter Tryd.func124, Tryd.ntmps124
    go_wp2_with fail
    refine (HC.out _).mono ?_; rintro e w' ⟨rfl, rfl⟩
    go_wp2_with fail
    go_ret2
    exact ⟨rfl, rfl⟩
  | bin o g h ih1 ih2 =>
    intro z a w hz hA
    subst hz
    obtain ⟨hlt, hx⟩ := byte_eq hA.head
    have haI : (0 : Int) ≤ (a : Int) := by omega
    have hle := hA.le
    have hle : a + Fm.len (.bin o g h) ≤ f.size := by simpa using hle
    have HE : Hid (((a + 1 + Fm.len g + Fm.len h : Nat) : Int) = ((a + Fm.len (.bin o g h) : Nat) : Int)) := by show _ = _; simp [Fm.len, Fm.text]; omega
    have HC1 := Lib.hid (fun w => ih1 ((a : Int) + 1) (a + 1) w (by omega) hA.bin1)
    have HC2 := Lib.hid (fun w => ih2 ((a + 1 + Fm.len g : Nat) : Int) (a + 1 + Fm.len g) w rfl hA.bin2)
    rw [HE.out] at HC2
    have hor : bits .or .i64 ((Fm.free g : Nat) : Int) ((Fm.free h : Nat) : Int) = ((Fm.free (.bin o g h) : Nat) : Int) := or_i64 _ _ (Fm.free_lt g) (Fm.free_lt h)
    generalize Fm.free (.bin o g h) = FR at *
    generalize Fm.free g = FA at *
    generalize Fm.free h = FB at *
    clear hA ih1 ih2 hle
    generalize (a + 1 + Fm.len g) = M at *
    generalize (a + Fm.len (.bin o g h)) = E at *
    have HQ := Lib.hid (fun c w => l2Quant_any c w)
    cases o
    · replace hx : f[a] = 38 := hx
      have HQ1 : Hid (∀ w, Calls Tryd.prog 172 #[.int .u8 38] w fun e w' => e = .returned (.bool false) ∧ w' = w) := fun w => HQ.out 38 w
      go_enter Tryd.func124, Tryd.ntmps124
      go_wp2_with fail
      refine (HQ1.out _).mono ?_; rintro e w' ⟨rfl, rfl⟩
      go_wp2_with fail
      refine (HC1.out _).mono ?_; rintro e w' ⟨rfl, rfl⟩
      go_wp2_with fail
      refine (HC2.out _).mono ?_; rintro e w' ⟨rfl, rfl⟩
      go_wp2_with fail
      go_ret2
      exact ⟨rfl, rfl⟩
    · replace hx : f[a] = 124 := hx
      have HQ1 : Hid (∀ w, Calls Tryd.prog 172 #[.int .u8 124] w fun e w' => e = .returned (.bool false) ∧ w' = w) := fun w => HQ.out 124 w
      go_enter Tryd.func124, Tryd.ntmps124
      go_wp2_with fail
      refine (HQ1.out _).mono ?_; rintro e w' ⟨rfl, rfl⟩
      go_wp2_with fail
      refine (HC1.out _).mono ?_; rintro e w' ⟨rfl, rfl⟩
      go_wp2_with fail
      refine (HC2.out _).mono ?_; rintro e w' ⟨rfl, rfl⟩
      go_wp2_with fail
      go_ret2
      exact ⟨rfl, rfl⟩
  | qu q v g ih =>
    intro z a w hz hA
    subst hz
    obtain ⟨hlt, hx⟩ := byte_eq hA.head
    have haI : (0 : Int) ≤ (a : Int) := by omega
    have HE : Hid (((a + 2 + Fm.len g : Nat) : Int) = ((a + Fm.len (.qu q v g) : Nat) : Int)) := by show _ = _; simp [Fm.len, Fm.text]; omega
    have HC := Lib.hid (fun w => ih ((a : Int) + 2) (a + 2) w (by omega) hA.qu)
    rw [HE.out] at HC
    have HV1 := Lib.hid (fun w => HV.out ((a : Int) + 1) (a + 1) w (by omega))
    rw [hA.qv] at HV1
    have hs1 := shl_i64 v
    have han : bits .andNot .i64 ((Fm.free g : Nat) : Int) ((1 <<< v.val : Nat) : Int) = ((Fm.free (.qu q v g) : Nat) : Int) := andNot_i64 _ _ (Fm.free_lt g) (Fm.bit_lt v)
    generalize Fm.free (.qu q v g) = FR at *
    generalize Fm.free g = FA at *
    have hv := v.isLt
    obtain ⟨k, hk⟩ : ∃ k, v.val = k := ⟨_, rfl⟩
    rw [hk] at HV1 hs1 hv han
    generalize (1 <<< k) = A at *
    clear hA hk ih
    generalize (a + Fm.len (.qu q v g)) = E at *
    have hkI : (0 : Int) ≤ (k : Int) ∧ (k : Int) < 4 := by omega
    have hcv : IntKind.u64.wrap (k : Int) = k := IntWalk.u64_in _ (by omega)
    have HQ := Lib.hid (fun c w => l2Quant_any c w)
    have HQ1 : Hid (∀ w, Calls Tryd.prog 172 #[.int .u8 (q.byte.toNat : Int)] w fun e w' => e = .returned (.bool true) ∧ w' = w) := fun w => by
      have := HQ.out q.byte w
      unfold Fm.isQu at this
      rw [Fm.quOf_byte] at this
      exact this
    cases q
    all_goals
      replace hx : f[a] = _ := hx
      simp only [Fm.T.op, Fm.Q.byte] at hx
      have HQ2 := HQ1
      simp only [Fm.Q.byte] at HQ2
      go_enter Tryd.func124, Tryd.ntmps124
      go_wp2_with fail
      refine (HQ2.out _).mono ?_; rintro e w' ⟨rfl, rfl⟩
      go_wp2_with fail
      refine (HC.out _).mono ?_; rintro e w' ⟨rfl, rfl⟩
      go_wp2_with fail
      refine (HV1.out _).mono ?_; rintro e w' ⟨rfl, rfl⟩
      go_wp2_with fail
      go_ret2
      exact ⟨rfl, rfl⟩

/-- Whether a text is a formula. -/
def readB (f : ByteArray) : Option Fm.T := Fm.read f.data.toList
theorem FormulaValid_any (f : ByteArray) (w : World) (hf : f.size ≤ 9223372036854775807) : Calls Tryd.prog 119 #[.string f] w fun e w' => e = .returned (.bool (readB f).isSome) ∧ w' = w := by
  by_cases h : f.size ≤ 4000
  · have hl : f.data.toList.length ≤ 4000 := by simpa using h
    have h1 := Fm.read_at f.data.toList hl
    have HE := Lib.hid (fun w => l2End_any f (by omega) f.size 0 0 w rfl (by omega))
    have hb := Fm.endI_le f.data.toList 0
    have hlen : f.data.toList.length = f.size := by simp
    have HR : Hid ((readB f).isSome = decide (Fm.endI f.data.toList 0 = (f.size : Int))) := by
      show (Fm.read f.data.toList).isSome = _
      rw [h1, hlen]
      by_cases he : Fm.endI f.data.toList 0 = (f.size : Int)
      · rw [if_pos he, decide_eq_true he]
        cases h2 : Fm.parseAt f.data.toList 0 with
        | none => rw [Fm.endI_none h2] at he; omega
        | some φ => rfl
      · rw [if_neg he, decide_eq_false he]; rfl
    obtain ⟨E, hE⟩ : ∃ E, Fm.endI f.data.toList 0 = E := ⟨_, rfl⟩
    rw [hE] at HE HR
    have hI : ((f.size : Int) ≤ 4000) := by omega
    clear h1 hb hlen hE hl
    rw [HR.out]
    go_enter Tryd.func119, Tryd.ntmps119
    go_wp2_with fail
    refine (HE.out _).mono ?_; rintro e w' ⟨rfl, rfl⟩
    go_wp2_with fail
    go_ret
    exact ⟨by first | rfl | (congr 2), rfl⟩
  · have HR : Hid ((readB f).isSome = false) := by
      show (Fm.read f.data.toList).isSome = _
      unfold Fm.read
      rw [if_pos (by simp; omega)]; rfl
    have hI : ¬ ((f.size : Int) ≤ 4000) := by omega
    rw [HR.out]
    go_enter Tryd.func119, Tryd.ntmps119
    go_wp2_with fail
    go_ret
    exact ⟨rfl, rfl⟩
end Go.Proofs.YtadgiknnejjplaaDoor

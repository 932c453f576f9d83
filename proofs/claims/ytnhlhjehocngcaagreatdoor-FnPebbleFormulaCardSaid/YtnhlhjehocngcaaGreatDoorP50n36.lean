/- Contracts of the program's functions and what they compute: part 36. Conditions: those that each theorem states. -/
import Derived.Test.YtnhlhjehocngcaaGreatDoorP50n35
namespace Go.Proofs.YtnhlhjehocngcaaGreatDoor
open Go.RowKit
set_option linter.unusedVariables false
set_option maxRecDepth 100000
/-- The variables of a set, in order: those below k. -/
def vtL (s k : Nat) : ByteArray := ⟨(((List.range k).filter fun i => s.testBit i).map fun i => UInt8.ofNat (97 + i)).toArray⟩
theorem vtL_size (s k : Nat) : (vtL s k).size ≤ k := by
  show ((((List.range k).filter fun i => s.testBit i).map fun i => UInt8.ofNat (97 + i)).toArray).size ≤ k
  rw [List.size_toArray, List.length_map]
  exact Nat.le_trans (List.length_filter_le _ _) (by simp)
theorem ex4v {k : Nat} (hk : k < 4) : (⟨#[97, 98, 99, 100]⟩ : ByteArray).extract k (k + 1) = ⟨#[UInt8.ofNat (97 + k)]⟩ := by
  match k, hk with
  | 0, _ => rfl
  | 1, _ => rfl
  | 2, _ => rfl
  | 3, _ => rfl
/-- The letters of the set. -/
theorem vtL_at {s i : Nat} (hi : i < (vtL s 4).size) : ∃ u : Fin 4, s.testBit u.val = true ∧ ((vtL s 4)[i].toNat : Int) = 97 + (u.val : Int) := by
  have hm : (vtL s 4)[i] ∈ (((List.range 4).filter fun i => s.testBit i).map fun i => UInt8.ofNat (97 + i)) := by
    have h3 : (vtL s 4).data[i]'hi ∈ (vtL s 4).data := Array.getElem_mem _
    rw [Array.mem_def] at h3
    exact h3
  obtain ⟨j, hj, e⟩ := List.mem_map.1 hm
  obtain ⟨h1, h2⟩ := List.mem_filter.1 hj
  have h4 : j < 4 := List.mem_range.1 h1
  refine ⟨⟨j, h4⟩, h2, ?_⟩
  rw [← e]
  match j, h4 with
  | 0, _ => rfl
  | 1, _ => rfl
  | 2, _ => rfl
  | 3, _ => rfl
/-- No more letters than places below which they all lie. -/
theorem vtL_le {s n : Nat} (hn : n ≤ 4) (h : ∀ u : Fin 4, s.testBit u.val = true → u.val < n) : (vtL s 4).size ≤ n := by
  have e : vtL s 4 = vtL s n := by
    unfold vtL
    congr 3
    have : n = 0 ∨ n = 1 ∨ n = 2 ∨ n = 3 ∨ n = 4 := by omega
    have h0 := fun (hq : s.testBit 0 = true) => h 0 hq
    have h1 := fun (hq : s.testBit 1 = true) => h 1 hq
    have h2 := fun (hq : s.testBit 2 = true) => h 2 hq
    have h3 := fun (hq : s.testBit 3 = true) => h 3 hq
    rcases this with rfl | rfl | rfl | rfl | rfl
    · have q0 : s.testBit 0 = false := by cases hq : s.testBit 0 with | false => rfl | true => exact absurd (h0 hq) (by decide)
      have q1 : s.testBit 1 = false := by cases hq : s.testBit 1 with | false => rfl | true => exact absurd (h1 hq) (by decide)
      have q2 : s.testBit 2 = false := by cases hq : s.testBit 2 with | false => rfl | true => exact absurd (h2 hq) (by decide)
      have q3 : s.testBit 3 = false := by cases hq : s.testBit 3 with | false => rfl | true => exact absurd (h3 hq) (by decide)
      simp [List.range, List.range.loop, List.filter, q0, q1, q2, q3]
    · have q1 : s.testBit 1 = false := by cases hq : s.testBit 1 with | false => rfl | true => exact absurd (h1 hq) (by decide)
      have q2 : s.testBit 2 = false := by cases hq : s.testBit 2 with | false => rfl | true => exact absurd (h2 hq) (by decide)
      have q3 : s.testBit 3 = false := by cases hq : s.testBit 3 with | false => rfl | true => exact absurd (h3 hq) (by decide)
      simp [List.range, List.range.loop, List.filter, q1, q2, q3]
    · have q2 : s.testBit 2 = false := by cases hq : s.testBit 2 with | false => rfl | true => exact absurd (h2 hq) (by decide)
      have q3 : s.testBit 3 = false := by cases hq : s.testBit 3 with | false => rfl | true => exact absurd (h3 hq) (by decide)
      simp [List.range, List.range.loop, List.filter, q2, q3]
    · have q3 : s.testBit 3 = false := by cases hq : s.testBit 3 with | false => rfl | true => exact absurd (h3 hq) (by decide)
      simp [List.range, List.range.loop, List.filter, q3]
    · rfl
  rw [e]
  exact vtL_size s n
theorem varsText_is (s : Nat) (hs : s < 16) (w : World) : Calls Tryz.prog 36 #[.int .i64 (s : Int)] w fun e w' => e = .returned (.string (vtL s 4)) ∧ w' = w := by
  go_enter Tryz.func36, Tryz.ntmps36
  go_wp2_with fail
  go_loop [5, 3] (fun q v => ∃ i : Nat, i ≤ 4 ∧ q = .int .i64 (i : Int) ∧ ∃ t : ByteArray, t.size ≤ i ∧ Hid (t = vtL s i) ∧ v = .string t) (fun q _ => 4 - (intOf q).toNat)
  case atStart => exact ⟨0, by omega, rfl, _, Nat.le_refl _, rfl, rfl⟩
  case round =>
    obtain ⟨i, hi, rfl, t, ht, HT, rfl⟩ := hrel
    by_cases h4 : i < 4
    · have hx : ((⟨#[97, 98, 99, 100]⟩ : ByteArray).extract i (i + 1)).size = 1 := by rw [ex4v h4]; rfl
      obtain ⟨j, hj⟩ : ∃ j, j = i + 1 := ⟨_, rfl⟩
      have b0 : (bits BinOp.and IntKind.i64 0 1 == 1) = false := by decide
      have b1 : (bits BinOp.and IntKind.i64 1 1 == 1) = true := by decide
      have b2 : (bits BinOp.and IntKind.i64 2 1 == 1) = false := by decide
      have b3 : (bits BinOp.and IntKind.i64 3 1 == 1) = true := by decide
      have b4 : (bits BinOp.and IntKind.i64 4 1 == 1) = false := by decide
      have b5 : (bits BinOp.and IntKind.i64 5 1 == 1) = true := by decide
      have b6 : (bits BinOp.and IntKind.i64 6 1 == 1) = false := by decide
      have b7 : (bits BinOp.and IntKind.i64 7 1 == 1) = true := by decide
      have b8 : (bits BinOp.and IntKind.i64 8 1 == 1) = false := by decide
      have b9 : (bits BinOp.and IntKind.i64 9 1 == 1) = true := by decide
      have b10 : (bits BinOp.and IntKind.i64 10 1 == 1) = false := by decide
      have b11 : (bits BinOp.and IntKind.i64 11 1 == 1) = true := by decide
      have b12 : (bits BinOp.and IntKind.i64 12 1 == 1) = false := by decide
      have b13 : (bits BinOp.and IntKind.i64 13 1 == 1) = true := by decide
      have b14 : (bits BinOp.and IntKind.i64 14 1 == 1) = false := by decide
      have b15 : (bits BinOp.and IntKind.i64 15 1 == 1) = true := by decide
      rcases (by omega : s = 0 ∨ s = 1 ∨ s = 2 ∨ s = 3 ∨ s = 4 ∨ s = 5 ∨ s = 6 ∨ s = 7 ∨ s = 8 ∨ s = 9 ∨ s = 10 ∨ s = 11 ∨ s = 12 ∨ s = 13 ∨ s = 14 ∨ s = 15) with rfl | rfl | rfl | rfl | rfl | rfl | rfl | rfl | rfl | rfl | rfl | rfl | rfl | rfl | rfl | rfl <;>
      rcases (by omega : i = 0 ∨ i = 1 ∨ i = 2 ∨ i = 3) with rfl | rfl | rfl | rfl
      all_goals
        go_wp2_with fail
        go_round
        case rel =>
          first
          | exact ⟨j, by omega, by subst hj; rfl, t, by omega, (by show _ = _; rw [HT.out]; subst hj; rfl), rfl⟩
          | exact ⟨j, by omega, by subst hj; rfl, _, by rw [ByteArray.size_append, hx]; omega, (by show _ = _; rw [HT.out]; subst hj; rfl), rfl⟩
        case measure => simp [intOf]
    · obtain rfl : i = 4 := by omega
      have HE := HT
      go_wp2_with fail
      go_ret
      exact ⟨by rw [HE.out]; rfl, rfl⟩
/-- The free variables of a formula. -/
theorem FreeVars_is (f : ByteArray) (φ : Fm.T) (hr : readB f = some φ) (hf : f.size ≤ 9223372036854775807) (w : World) :
    Calls Tryz.prog 8 #[.string f] w fun e w' => e = .returned (.string (vtL (Fm.free φ) 4)) ∧ Below w.heap.size w w' := by
  have HP := Lib.hid (fun w => parseFormula_any f w hf)
  rw [hr] at HP
  have hlt := Fm.free_lt φ
  have HV := Lib.hid (fun w => varsText_is (Fm.free φ) hlt w)
  obtain ⟨fr, hfr⟩ : ∃ fr, Fm.free φ = fr := ⟨_, rfl⟩
  rw [hfr] at HV hlt
  rw [hfr]
  have HFR := Lib.hid hfr
  clear hr hfr
  generalize vtL fr 4 = VT at *
  go_enter Tryz.func8, Tryz.ntmps8
  go_wp2_with fail
  refine (HP.out _).mono ?_; rintro e w1 ⟨hb, ⟨h, _⟩ | ⟨φ', p, h, rfl, ht⟩⟩
  · cases h
  · obtain rfl := Option.some.inj h
    have HB := Lib.hid hb; clear hb h
    obtain ⟨v, u, qs, nd, _⟩ := ht.node
    have c3 := nd.cells.2.2.2.1
    rw [HFR.out] at c3
    clear nd ht
    unfold ptrV
    go_wp2_with fail
    refine (HV.out _).mono ?_; rintro _ w2 ⟨rfl, hw2⟩; rw [hw2]; clear hw2 w2
    go_wp2_with fail
    go_ret
    exact ⟨rfl, HB.out⟩
/-- How many variables a formula has. -/
theorem WidthOf_is (f : ByteArray) (φ : Fm.T) (hr : readB f = some φ) (hf : f.size ≤ 9223372036854775807) (w : World) :
    Calls Tryz.prog 10 #[.string f] w fun e w' => e = .returned (.int .i64 ((vtL (Fm.vars φ) 4).size : Int)) ∧ Below w.heap.size w w' := by
  have HP := Lib.hid (fun w => parseFormula_any f w hf)
  rw [hr] at HP
  have hlt := Fm.vars_lt φ
  have HV := Lib.hid (fun w => varsText_is (Fm.vars φ) hlt w)
  obtain ⟨fr, hfr⟩ : ∃ fr, Fm.vars φ = fr := ⟨_, rfl⟩
  rw [hfr] at HV hlt
  rw [hfr]
  have HFR := Lib.hid hfr
  clear hr hfr
  generalize vtL fr 4 = VT at *
  go_enter Tryz.func10, Tryz.ntmps10
  go_wp2_with fail
  refine (HP.out _).mono ?_; rintro e w1 ⟨hb, ⟨h, _⟩ | ⟨φ', p, h, rfl, ht⟩⟩
  · cases h
  · obtain rfl := Option.some.inj h
    have HB := Lib.hid hb; clear hb h
    obtain ⟨v, u, qs, nd, _⟩ := ht.node
    have c3 := nd.cells.2.2.2.2.1
    rw [HFR.out] at c3
    clear nd ht
    unfold ptrV
    go_wp2_with fail
    refine (HV.out _).mono ?_; rintro _ w2 ⟨rfl, hw2⟩; rw [hw2]; clear hw2 w2
    go_wp2_with fail
    go_ret
    exact ⟨rfl, HB.out⟩
/-- None of the parts counts. -/
theorem indexParts_no (a : Option Addr) (cap : Nat) (qs : List Nat) (w : World) (hl : qs.length ≤ 2) (hcc : 0 < qs.length → ∃ g o, a = some ⟨g, o, none⟩ ∧ g < w.heap.size ∧ ∀ j, j < qs.length → w.cell? ⟨g, o + j, none⟩ = some (ptrV (qs.getD j 0)))
    (hq : ∀ j, j < qs.length → Calls Tryz.prog 39 #[ptrV (qs.getD j 0)] w fun e w' => e = .returned (.bool false) ∧ w' = w) :
    Calls Tryz.prog 140 #[.slice a qs.length cap, .func (.func 39) #[] #[]] w fun en w' => en = .returned (.int .i64 (-1)) ∧ w' = w := by
  have HC := Lib.hid hcc
  have HQ := Lib.hid hq
  have hlI : (qs.length : Int) ≤ 2 := by omega
  clear hcc hq
  go_enter Tryz.func140, Tryz.ntmps140
  go_wp2_with fail
  go_loop [8] (fun q => ∃ j : Nat, j ≤ qs.length ∧ q = .int .i64 (j : Int)) (fun q => qs.length - (intOf q).toNat)
  case atStart => exact ⟨0, by omega, rfl⟩
  case round =>
    obtain ⟨j, hj, rfl⟩ := hrel
    by_cases hlt : j < qs.length
    · obtain ⟨g, o, rfl, hg, hcl⟩ := HC.out (by omega)
      have d0 := hcl j hlt
      have HJ := Lib.hid (HQ.out j hlt)
      generalize qs.getD j 0 = q at *
      clear hcl
      have hjI : (j : Int) < (qs.length : Int) := by omega
      unfold ptrV at d0 HJ
      go_wp2_with fail
      refine HJ.out.mono ?_; rintro _ w1 ⟨rfl, hw1⟩; rw [hw1]; clear hw1 w1
      go_wp2_with fail
      go_round
      case rel => exact ⟨j + 1, by omega, by go_num⟩
      case measure => simp [intOf]; omega
    · have hjI : ¬ (j : Int) < (qs.length : Int) := by omega
      obtain rfl : j = qs.length := by omega
      go_wp2_with fail
      go_ret
      exact ⟨rfl, rfl⟩
theorem counts_step {F : Nat → Prop} {p : Nat} {op : UInt8} {vs : List (Fin 4)} {qs : List Nat} {fr al : Nat} {v u : Value} (w : World) (h : Nd F w p op vs qs fr al v u) (hl : qs.length ≤ 2) (h1 : op ≠ 50) (h2 : op ≠ 51) (h3 : op ≠ 52)
    (hq : ∀ j, j < qs.length → Calls Tryz.prog 39 #[ptrV (qs.getD j 0)] w fun e w' => e = .returned (.bool false) ∧ w' = w) :
    Calls Tryz.prog 39 #[ptrV p] w fun e w' => e = .returned (.bool false) ∧ w' = w := by
  have hc := h.cells.1
  have hp := h.cells.2.2.1
  have HCO := counting_any w h
  rw [show (decide (op = 50) || decide (op = 51) || decide (op = 52)) = false by simp [h1, h2, h3]] at HCO
  have HCO := Lib.hid HCO
  obtain ⟨a, cap, rfl, hl1, hl2, hg⟩ := h.parts.view
  rw [List.length_map] at hl1 hp hg
  have HIX := indexParts_no a cap qs w hl (fun h0 => by
    obtain ⟨g, rfl, _, hgl, hcell⟩ := hg h0
    exact ⟨g, 0, rfl, hgl, fun j hj => by rw [Nat.zero_add, hcell j hj]; simp [hj]⟩) hq
  have HCF : Hid (Calls Tryz.prog 83 #[.slice a qs.length cap, .func (.func 39) #[] #[]] w fun en w' => en = .returned (.bool false) ∧ w' = w) := by
    have HIX := Lib.hid HIX
    clear hg hp hq h hc HCO
    show Calls _ _ _ _ _
    go_enter Tryz.func83, Tryz.ntmps83
    go_wp2_with fail
    refine HIX.out.mono ?_; rintro _ w1 ⟨rfl, hw1⟩; rw [hw1]; clear hw1 w1
    go_wp2_with fail
    go_ret
    exact ⟨rfl, rfl⟩
  unfold maxLen at hl2
  clear h hq hg HIX
  unfold ptrV at HCO ⊢
  go_enter Tryz.func39, Tryz.ntmps39
  go_wp2_with fail
  refine HCO.out.mono ?_; rintro _ w1 ⟨rfl, hw1⟩; rw [hw1]; clear hw1 w1
  go_wp2_with fail
  refine HCF.out.mono ?_; rintro _ w1 ⟨rfl, hw1⟩; rw [hw1]; clear hw1 w1
  go_wp2_with fail
  go_ret
  exact ⟨rfl, rfl⟩
theorem counts_no {F : Nat → Prop} {w : World} : ∀ {φ : Fm.T} {p : Nat}, Tree F w φ p → plainF φ = true → Calls Tryz.prog 39 #[ptrV p] w fun e w' => e = .returned (.bool false) ∧ w' = w
  | .lit b, p, ⟨v, u, h⟩, _ => counts_step w h (by decide) (by cases b <;> decide) (by cases b <;> decide) (by cases b <;> decide) (fun j hj => absurd hj (by simp))
  | .set x, p, ⟨v, u, h⟩, _ => counts_step w h (by simp) (by first | (show (80 : UInt8) ≠ _; decide)) (by first | (show (80 : UInt8) ≠ _; decide)) (by first | (show (80 : UInt8) ≠ _; decide)) (fun j hj => absurd hj (by simp))
  | .rel e x y, p, ⟨v, u, h⟩, _ => counts_step w h (by simp) (by cases e <;> first | (show (61 : UInt8) ≠ _; decide) | (show (69 : UInt8) ≠ _; decide)) (by cases e <;> first | (show (61 : UInt8) ≠ _; decide) | (show (69 : UInt8) ≠ _; decide)) (by cases e <;> first | (show (61 : UInt8) ≠ _; decide) | (show (69 : UInt8) ≠ _; decide)) (fun j hj => absurd hj (by simp))
  | .neg f, p, ⟨v, u, q, h, hf⟩, hp => counts_step w h (by simp) (by first | (show (33 : UInt8) ≠ _; decide)) (by first | (show (33 : UInt8) ≠ _; decide)) (by first | (show (33 : UInt8) ≠ _; decide)) (fun j hj => by
      obtain rfl : j = 0 := by simp at hj; omega
      exact counts_no hf hp)
  | .bin o f g, p, ⟨v, u, q, r, h, hf, hg⟩, hp => by
    have hp : (plainF f && plainF g) = true := hp
    rw [Bool.and_eq_true] at hp
    exact counts_step w h (by simp) (by cases o <;> first | (show (38 : UInt8) ≠ _; decide) | (show (124 : UInt8) ≠ _; decide)) (by cases o <;> first | (show (38 : UInt8) ≠ _; decide) | (show (124 : UInt8) ≠ _; decide)) (by cases o <;> first | (show (38 : UInt8) ≠ _; decide) | (show (124 : UInt8) ≠ _; decide)) (fun j hj => by
      rcases (show j = 0 ∨ j = 1 by simp at hj; omega) with rfl | rfl
      · exact counts_no hf hp.1
      · exact counts_no hg hp.2)
  | .qu k x f, p, ⟨v, u, q, h, hf⟩, hp => by
    have hp2 : plainF f = true ∧ (k = .all ∨ k = .some) := by cases k <;> simp [plainF] at hp <;> simp [hp]
    have n1 : Fm.T.op (.qu k x f) ≠ 50 := by rcases hp2.2 with rfl | rfl <;> first | (show (65 : UInt8) ≠ _; decide) | (show (83 : UInt8) ≠ _; decide)
    have n2 : Fm.T.op (.qu k x f) ≠ 51 := by rcases hp2.2 with rfl | rfl <;> first | (show (65 : UInt8) ≠ _; decide) | (show (83 : UInt8) ≠ _; decide)
    have n3 : Fm.T.op (.qu k x f) ≠ 52 := by rcases hp2.2 with rfl | rfl <;> first | (show (65 : UInt8) ≠ _; decide) | (show (83 : UInt8) ≠ _; decide)
    exact counts_step w h (by simp) n1 n2 n3 (fun j hj => by
      obtain rfl : j = 0 := by simp at hj; omega
      exact counts_no hf hp2.1)
/-- A formula without such quantifiers does not count. -/
theorem CountsOf_no (f : ByteArray) (φ : Fm.T) (hr : readB f = some φ) (hp : plainF φ = true) (hf : f.size ≤ 9223372036854775807) (w : World) :
    Calls Tryz.prog 12 #[.string f] w fun e w' => e = .returned (.bool false) ∧ Below w.heap.size w w' := by
  have HP := Lib.hid (fun w => parseFormula_any f w hf)
  rw [hr] at HP
  have HPL := Lib.hid hp
  clear hr hp
  go_enter Tryz.func12, Tryz.ntmps12
  go_wp2_with fail
  refine (HP.out _).mono ?_; rintro e w1 ⟨hb, ⟨h, _⟩ | ⟨φ', p, h, rfl, ht⟩⟩
  · cases h
  · obtain rfl := Option.some.inj h
    have HB := Lib.hid hb; clear hb h
    have HC := Lib.hid (counts_no ht HPL.out)
    clear ht
    unfold ptrV at HC ⊢
    go_wp2_with fail
    refine HC.out.mono ?_; rintro _ w2 ⟨rfl, hw2⟩; rw [hw2]; clear hw2 w2
    go_wp2_with fail
    go_ret
    exact ⟨rfl, HB.out⟩
end Go.Proofs.YtnhlhjehocngcaaGreatDoor

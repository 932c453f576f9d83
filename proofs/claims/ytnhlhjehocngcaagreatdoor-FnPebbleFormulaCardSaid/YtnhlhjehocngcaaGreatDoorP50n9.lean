/- Contracts of the program's functions and what they compute: part 9. Conditions: those that each theorem states. -/
import Derived.Test.YtnhlhjehocngcaaGreatDoorP50n1
import Derived.Test.YtnhlhjehocngcaaGreatDoorP50n2
import Derived.Deep.LoopGhost
import Derived.OwnWalk
import Derived.IntWalk
import Derived.Deep.QuietTactic
import Derived.BigQuiet
namespace Go.Proofs.YtnhlhjehocngcaaGreatDoor
open Go.RowKit
def inB (n lo hi : Int) : Bool := decide (lo ≤ n) && decide (n ≤ hi)
theorem inB_true {n lo hi : Int} (h : lo ≤ n) (h' : n ≤ hi) : inB n lo hi = true := by simp [inB, h, h']
theorem inB_lo {n lo hi : Int} (h : ¬ lo ≤ n) : inB n lo hi = false := by simp [inB, h]
theorem inB_hi {n lo hi : Int} (h : ¬ n ≤ hi) : inB n lo hi = false := by simp [inB, h]
theorem inB_iff {n lo hi : Int} : inB n lo hi = true ↔ lo ≤ n ∧ n ≤ hi := by simp [inB]
theorem l1In_any (n lo hi : Int) (w : World) :
    Calls Tryz.prog 31 #[.int .i64 n, .int .i64 lo, .int .i64 hi] w fun e w' => e = .returned (.bool (inB n lo hi)) ∧ w = w' := by
  by_cases h : lo ≤ n
  · by_cases h' : n ≤ hi
    · have H := Lib.hid (inB_true h h')
      go_enter Tryz.func31, Tryz.ntmps31
      go_wp2
      go_ret
      exact ⟨ret_bool H.out.symm, rfl⟩
    · have H := Lib.hid (inB_hi (lo := lo) h')
      go_enter Tryz.func31, Tryz.ntmps31
      go_wp2
      go_ret
      exact ⟨ret_bool H.out.symm, rfl⟩
  · have H := Lib.hid (inB_lo (hi := hi) h)
    go_enter Tryz.func31, Tryz.ntmps31
    go_wp2
    go_ret
    exact ⟨ret_bool H.out.symm, rfl⟩
end Go.Proofs.YtnhlhjehocngcaaGreatDoor

namespace Go.Proofs.YtnhlhjehocngcaaGreatDoor
open Go.RowKit
/-- How far a test holds from k on, for at most so many numbers. -/
def cnt (p : Nat → Bool) : Nat → Nat → Nat
  | 0, k => k
  | f + 1, k => if p k then cnt p f (k + 1) else k
end Go.Proofs.YtnhlhjehocngcaaGreatDoor

namespace Go.Proofs.YtnhlhjehocngcaaGreatDoor
open Go.RowKit
theorem ba_assoc (a b c : ByteArray) : a ++ b ++ c = a ++ (b ++ c) := by
  apply ByteArray.ext
  simp [ByteArray.data_append, Array.append_assoc]
theorem ba_nil (a : ByteArray) : a ++ ByteArray.empty = a := by
  apply ByteArray.ext
  simp
theorem nil_ba (a : ByteArray) : ByteArray.empty ++ a = a := by
  apply ByteArray.ext
  simp
/-- A text n times. -/
def rep (s : ByteArray) : Nat → ByteArray
  | 0 => ByteArray.empty
  | n + 1 => s ++ rep s n
theorem rep_double (s : ByteArray) (n : Nat) : rep (s ++ s) n = rep s (2 * n) := by
  induction n with
  | zero => rfl
  | succ n ih =>
    rw [show 2 * (n + 1) = 2 * n + 1 + 1 by omega]
    simp only [rep, ih, ba_assoc]
theorem rep_size (s : ByteArray) (n : Nat) : (rep s n).size = n * s.size := by
  induction n with
  | zero => simp [rep]
  | succ n ih => simp only [rep, ByteArray.size_append, ih, Nat.succ_mul]; omega
theorem many_step (out s T : ByteArray) (m : Nat) (h : out ++ rep s m = T) : (if m % 2 = 1 then out ++ s else out) ++ rep (s ++ s) (m / 2) = T := by
  rw [rep_double]
  by_cases h1 : m % 2 = 1
  · rw [if_pos h1, ba_assoc, ← h]
    congr 1
    rw [show m = 2 * (m / 2) + 1 by omega]
    show s ++ rep s (2 * ((2 * (m / 2) + 1) / 2)) = rep s (2 * (m / 2) + 1)
    rw [show (2 * (m / 2) + 1) / 2 = m / 2 by omega]
    rfl
  · rw [if_neg h1, ← h, show 2 * (m / 2) = m by omega]
theorem l15Many_any (s : ByteArray) (n : Nat) (w : World) (hs : s.size ≤ 100) (hn : n ≤ 100) :
    Calls Tryz.prog 90 #[.string s, .int .i64 (n : Int)] w fun e w' => e = .returned (.string (rep s n)) ∧ w = w' := by
  obtain ⟨T, hT⟩ : ∃ T, rep s n = T := ⟨_, rfl⟩
  have HT := Lib.hid hT
  rw [hT]; clear hT
  go_enter Tryz.func90, Tryz.ntmps90
  go_wp2_with fail
  go_loop [0, 1, 5] (fun a b c => ∃ (t out : ByteArray) (m : Nat), a = .string t ∧ b = .int .i64 m ∧ c = .string out ∧ m ≤ 100 ∧ (0 < m → t.size ≤ 10000) ∧ out.size ≤ 10000 ∧ Hid (out ++ rep t m = T) ∧ Hid (T.size ≤ 10000)) (fun _ b _ => (intOf b).toNat)
  case atStart =>
    refine ⟨s, ByteArray.empty, n, rfl, rfl, rfl, hn, fun _ => by omega, by simp, ?_, ?_⟩
    · show ByteArray.empty ++ rep s n = T
      rw [nil_ba]; exact HT.out
    · show T.size ≤ 10000
      rw [← HT.out, rep_size]
      exact Nat.mul_le_mul hn hs
  case round =>
    obtain ⟨t, out, m, rfl, rfl, rfl, hm, ht, ho, HO, HZ⟩ := hrel
    by_cases h0 : 0 < m
    · have ht := ht h0
      have HS := Lib.hid (many_step out t T m HO.out)
      have HB : Hid (0 < m / 2 → (t ++ t).size ≤ 10000) := by
        intro h
        have h1 := congrArg ByteArray.size HO.out
        rw [ByteArray.size_append, rep_size] at h1
        have h2 := HZ.out
        have h3 : 2 * t.size ≤ m * t.size := Nat.mul_le_mul_right _ (by omega)
        rw [ByteArray.size_append]
        omega
      have HC : Hid (m % 2 = 1 → (out ++ t).size ≤ 10000) := by
        intro h
        have h1 := congrArg ByteArray.size HO.out
        rw [ByteArray.size_append, rep_size] at h1
        have h2 := HZ.out
        have h3 : 1 * t.size ≤ m * t.size := Nat.mul_le_mul_right _ (by omega)
        rw [ByteArray.size_append]
        omega
      by_cases h1 : m % 2 = 1
      · have e1 : ((m : Int) % 2 == 1) = true := by simp; omega
        have HC' := Lib.hid (HC.out h1)
        have HS' : Hid (out ++ t ++ rep (t ++ t) (m / 2) = T) := by
          have := HS.out
          rw [if_pos h1] at this
          exact this
        clear h1 HS HC
        go_wp2_with fail
        go_round
        case rel => exact ⟨t ++ t, out ++ t, m / 2, rfl, by go_num, rfl, by omega, HB.out, HC'.out, HS'.out, HZ.out⟩
        case measure => simp [intOf]; omega
      · have e1 : ((m : Int) % 2 == 1) = false := by simp; omega
        have HS' : Hid (out ++ rep (t ++ t) (m / 2) = T) := by
          have := HS.out
          rw [if_neg h1] at this
          exact this
        clear h1 HS HC
        go_wp2_with fail
        go_round
        case rel => exact ⟨t ++ t, out, m / 2, rfl, by go_num, rfl, by omega, HB.out, ho, HS'.out, HZ.out⟩
        case measure => simp [intOf]; omega
    · have hm0 : m = 0 := by omega
      subst hm0
      have HE : Hid (out = T) := by
        have h := HO.out
        show out = T
        simpa [rep, ba_nil] using h
      clear ht
      go_wp2_with fail
      go_ret
      exact ⟨by rw [← HE.out]; rfl, rfl⟩
end Go.Proofs.YtnhlhjehocngcaaGreatDoor

namespace Go.Proofs.YtnhlhjehocngcaaGreatDoor
open Go.RowKit
set_option linter.unusedVariables false
/-- Formulas, with an operator before each. -/
def joinL (op : ByteArray) (L : List ByteArray) : ByteArray := L.foldl (fun o x => o ++ (op ++ x)) ByteArray.empty
/-- How long texts are together. -/
def sumL (L : List ByteArray) : Nat := (L.map ByteArray.size).sum
/-- Formulas, with an operator before each but the last one. -/
def joinP (op : ByteArray) (L : List ByteArray) : ByteArray :=
  if L.length = 0 then (if op = ⟨#[38]⟩ then ⟨#[116]⟩ else ⟨#[102]⟩) else joinL op (L.take (L.length - 1)) ++ L.getD (L.length - 1) ByteArray.empty
theorem text_is (s : ByteArray) (l : List UInt8) : s.toList = l ↔ s = ⟨l.toArray⟩ := by
  rw [ByteArray.toList_eq]
  constructor
  · intro h
    apply ByteArray.ext
    show s.data = l.toArray
    rw [← h]
  · intro h
    rw [h]
theorem joinL_snoc (op : ByteArray) (L : List ByteArray) (x : ByteArray) : joinL op (L ++ [x]) = joinL op L ++ (op ++ x) := by
  simp [joinL, List.foldl_append]
theorem joinL_take (op : ByteArray) (L : List ByteArray) (k : Nat) (h : k < L.length) : joinL op (L.take (k + 1)) = joinL op (L.take k) ++ (op ++ L[k]) := by
  rw [List.take_succ_eq_append_getElem h, joinL_snoc]
theorem sumL_append (L M : List ByteArray) : sumL (L ++ M) = sumL L + sumL M := by simp [sumL]
theorem sumL_take (L : List ByteArray) (k : Nat) (h : k < L.length) : sumL (L.take (k + 1)) = sumL (L.take k) + L[k].size := by
  rw [List.take_succ_eq_append_getElem h, sumL_append]
  simp [sumL]
theorem sumL_take_le (L : List ByteArray) (k : Nat) : sumL (L.take k) ≤ sumL L := by
  have h := sumL_append (L.take k) (L.drop k)
  rw [List.take_append_drop] at h
  omega
theorem sumL_at (L : List ByteArray) (k : Nat) (h : k < L.length) : L[k].size ≤ sumL L := by
  have h1 := sumL_take L k h
  have h2 := sumL_take_le L (k + 1)
  omega
theorem joinL_size (op : ByteArray) (L : List ByteArray) : (joinL op L).size = op.size * L.length + sumL L := by
  have h : ∀ (L : List ByteArray) (o : ByteArray), (L.foldl (fun o x => o ++ (op ++ x)) o).size = o.size + op.size * L.length + sumL L := by
    intro L
    induction L with
    | nil => intro o; simp [sumL]
    | cons x L ih =>
      intro o
      rw [List.foldl_cons, ih]
      simp only [ByteArray.size_append, List.length_cons, Nat.mul_add, Nat.mul_one, sumL, List.map_cons, List.sum_cons]
      omega
  have h1 := h L ByteArray.empty
  simp at h1
  exact h1
theorem joinL_take_le (op : ByteArray) (L : List ByteArray) (k : Nat) (hk : k ≤ L.length) (hop : op.size ≤ 1) : (joinL op (L.take k)).size ≤ L.length + sumL L := by
  have h1 := joinL_size op (L.take k)
  have h2 := sumL_take_le L k
  have h3 : op.size * (L.take k).length ≤ 1 * L.length := Nat.mul_le_mul hop (by rw [List.length_take]; omega)
  omega
theorem nameOf_any (i : Nat) (w : World) (h : i < 4) :
    Calls Tryz.prog 116 #[.int .i64 (i : Int)] w fun e w' => e = .returned (.string ⟨#[UInt8.ofNat (97 + i)]⟩) ∧ w = w' := by
  rcases (show i = 0 ∨ i = 1 ∨ i = 2 ∨ i = 3 by omega) with rfl | rfl | rfl | rfl
  all_goals
    go_enter Tryz.func116, Tryz.ntmps116
    go_wp2_with fail
    go_ret
    exact ⟨rfl, rfl⟩
theorem joined_any (op : ByteArray) (L : List ByteArray) (g cap : Nat) (w : World) (hop : op.size ≤ 1) (hl : L.length ≤ 1000) (hs : sumL L ≤ 1000000)
    (hcap : L.length ≤ cap) (hcm : cap ≤ maxLen) (hc : ∀ j (h : j < L.length), w.cell? ⟨g, j, none⟩ = some (.string L[j])) :
    Calls Tryz.prog 122 #[.string op, .slice (some ⟨g, 0, none⟩) L.length cap] w fun e w' => e = .returned (.string (joinP op L)) ∧ w = w' := by
  by_cases h0 : L.length = 0
  · by_cases hq : op = ⟨#[38]⟩
    · have HR : Hid (joinP op L = ⟨#[116]⟩) := by show joinP op L = _; rw [joinP, if_pos h0, if_pos hq]
      have e1 : (op.toList == [38]) = true := by rw [beq_iff_eq, text_is]; exact hq
      rw [HR.out]
      clear hc
      rw [h0]
      go_enter Tryz.func122, Tryz.ntmps122
      go_wp2_with fail
      go_ret
      exact ⟨rfl, rfl⟩
    · have HR : Hid (joinP op L = ⟨#[102]⟩) := by show joinP op L = _; rw [joinP, if_pos h0, if_neg hq]
      have e1 : (op.toList == [38]) = false := by rw [← Bool.not_eq_true, beq_iff_eq, text_is]; exact hq
      rw [HR.out]
      clear hc
      rw [h0]
      go_enter Tryz.func122, Tryz.ntmps122
      go_wp2_with fail
      go_ret
      exact ⟨rfl, rfl⟩
  · have hc1 := hc (L.length - 1) (by omega)
    have hlast : L.getD (L.length - 1) ByteArray.empty = L[L.length - 1] := by
      rw [List.getD_eq_getElem?_getD, List.getElem?_eq_getElem (by omega)]; rfl
    have HR : Hid (joinP op L = joinL op (L.take (L.length - 1)) ++ L[L.length - 1]) := by show joinP op L = _; rw [joinP, if_neg h0, hlast]
    obtain ⟨T, hT⟩ : ∃ T, L[L.length - 1] = T := ⟨_, rfl⟩
    have htz : T.size ≤ 1000000 := by
      have := sumL_at L (L.length - 1) (by omega)
      rw [hT] at this
      omega
    rw [hT] at hc1 HR
    have HC := Lib.hid hc; clear hc
    have HL := Lib.hid (joinL_take_le op L)
    have HT := Lib.hid (joinL_take op L)
    have HS := Lib.hid (fun k h => sumL_at L k h)
    rw [HR.out]
    obtain ⟨n, hn⟩ : ∃ n, L.length = n + 1 := ⟨L.length - 1, by omega⟩
    have HN := Lib.hid hn
    rw [hn] at hc1 hcap hl
    rw [hn]
    clear hlast hT h0
    rw [hn] at HR
    simp only [Nat.add_sub_cancel] at hc1 HR ⊢
    clear hn
    have hw1 : IntKind.i64.wrap ((n : Int) + 1 - 1) = (n : Int) := by
      rw [show (n : Int) + 1 - 1 = (n : Int) by omega]
      exact IntWalk.i64_in _ (by omega)
    go_enter Tryz.func122, Tryz.ntmps122
    go_wp2_with fail
    go_loop [5, 7, 19] (fun o _ i => ∃ k : Nat, k ≤ n ∧ i = .int .i64 k ∧ ∃ out : ByteArray, o = .string out ∧ out.size ≤ 2000000 ∧ Hid (out = joinL op (L.take k))) (fun _ _ i => n - (intOf i).toNat)
    case atStart => exact ⟨0, by omega, rfl, ByteArray.empty, rfl, by simp, rfl⟩
    case round =>
      obtain ⟨k, hk, rfl, out, rfl, ho, HO⟩ := hrel
      by_cases hlt : k < n
      · have hkl : k < L.length := by rw [HN.out]; omega
        have hck := HC.out k hkl
        have hz := HS.out k hkl
        have HT1 := Lib.hid (HT.out k hkl)
        have HL1 := Lib.hid (HL.out (k + 1) (by rw [HN.out]; omega) hop)
        have HN1 := HN
        obtain ⟨s, hs1⟩ : ∃ s, L[k] = s := ⟨_, rfl⟩
        rw [hs1] at hck hz HT1
        clear hs1 hkl
        go_wp2_with fail
        go_round
        case rel =>
          have e : out ++ (op ++ s) = joinL op (L.take (k + 1)) := by rw [HT1.out, HO.out]
          refine ⟨k + 1, by omega, by go_num, out ++ (op ++ s), rfl, ?_, e⟩
          rw [e]
          have := HL1.out
          have := HN.out
          omega
        case measure => simp [intOf]; omega
      · have hkn : k = n := by omega
        subst hkn
        have HE : Hid (out ++ T = joinL op (L.take k) ++ T) := by rw [← HO.out]; rfl
        go_wp2_with fail
        go_ret
        exact ⟨congrArg (fun s => Ending.returned (.string s)) HE.out, rfl⟩
/-- The first place of a byte in a text, -1 if there is none. -/
def findB (c : UInt8) : List UInt8 → Nat → Int
  | [], _ => -1
  | x :: l, k => if x = c then (k : Int) else findB c l (k + 1)
theorem findB_drop (c : UInt8) (l : List UInt8) (k : Nat) (h : k < l.length) : findB c (l.drop k) k = if l[k] = c then (k : Int) else findB c (l.drop (k + 1)) (k + 1) := by
  rw [List.drop_eq_getElem_cons h]; rfl
theorem l15Find_any (s : ByteArray) (c : UInt8) (w : World) (hs : s.size ≤ 9223372036854775807) :
    Calls Tryz.prog 160 #[.string s, .int .u8 (c.toNat : Int)] w fun e w' => e = .returned (.int .i64 (findB c s.data.toList 0)) ∧ w' = w := by
  obtain ⟨F, hF⟩ : ∃ F, findB c s.data.toList 0 = F := ⟨_, rfl⟩
  have HF := Lib.hid hF
  rw [hF]; clear hF
  go_enter Tryz.func160, Tryz.ntmps160
  go_wp2_with fail
  go_loop [5] (fun i => ∃ k : Nat, k ≤ s.size ∧ i = .int .i64 k ∧ Hid (findB c (s.data.toList.drop k) k = F)) (fun i => s.size - (intOf i).toNat)
  case atStart => exact ⟨0, by omega, rfl, HF.out⟩
  case round =>
    obtain ⟨k, hk, rfl, HK⟩ := hrel
    by_cases hlt : k < s.size
    · have HD := Lib.hid (findB_drop c s.data.toList k (by simpa using hlt))
      obtain ⟨x, hx⟩ : ∃ x, s[k] = x := ⟨_, rfl⟩
      have hx' : s.data.toList[k]'(by simpa using hlt) = x := by rw [← hx]; rfl
      have HX : Hid (F = if x = c then (k : Int) else findB c (s.data.toList.drop (k + 1)) (k + 1)) := by
        show F = _
        rw [← HK.out, HD.out, hx']
      clear hx' HD
      by_cases hq : x = c
      · have HE : Hid ((k : Int) = F) := by show _ = _; rw [HX.out, if_pos hq]
        have e1 : ((x.toNat : Int) == (c.toNat : Int)) = true := by rw [hq]; simp
        clear HX hq
        go_wp2_with fail
        go_ret
        exact ⟨congrArg (fun s => Ending.returned (.int .i64 s)) HE.out, rfl⟩
      · have HE : Hid (findB c (s.data.toList.drop (k + 1)) (k + 1) = F) := by show _ = _; rw [HX.out, if_neg hq]
        have hq' : x.toNat ≠ c.toNat := fun h => hq (UInt8.toNat_inj.1 h)
        have e1 : ((x.toNat : Int) == (c.toNat : Int)) = false := by simp; omega
        clear HX hq hq'
        go_wp2_with fail
        go_round
        case rel => exact ⟨k + 1, by omega, by go_num, HE.out⟩
        case measure => simp [intOf]; omega
    · have HE : Hid (-1 = F) := by
        have h := HK.out
        rw [List.drop_eq_nil_of_le (by simp; omega)] at h
        exact h
      go_wp2_with fail
      go_ret
      exact ⟨congrArg (fun s => Ending.returned (.int .i64 s)) HE.out, rfl⟩
theorem below_drewN (w : World) (n : Nat) : Below w.heap.size w (w.drewN n) := by
  have h := Below.refl w.heap.size w
  exact ⟨h.os, h.tape, h.output, h.size, h.block⟩
theorem l2Join_any (op : ByteArray) (L : List ByteArray) (g cap : Nat) (w : World) (hop : op.size = 1) (ho : op = ⟨#[38]⟩ ∨ op = ⟨#[124]⟩) (hl : L.length ≤ 1000) (hs : sumL L ≤ 1000000)
    (hcap : L.length ≤ cap) (hcm : cap ≤ maxLen) (hc : ∀ j (h : j < L.length), w.cell? ⟨g, j, none⟩ = some (.string L[j])) :
    Calls Tryz.prog 133 #[.string op, .slice (some ⟨g, 0, none⟩) L.length cap] w fun e w' => e = .returned (.string (joinP op L)) ∧ Below w.heap.size w w' := by
  by_cases h0 : L.length = 0
  · clear hc
    rw [h0]
    rcases ho with rfl | rfl
    · have hf : ∀ w, Calls Tryz.prog 160 #[.string ⟨#[38, 124]⟩, .int .u8 38] w fun e w' => e = .returned (.int .i64 0) ∧ w' = w := fun w => l15Find_any ⟨#[38, 124]⟩ 38 w (by decide)
      have HR : Hid (joinP ⟨#[38]⟩ L = ⟨#[116]⟩) := by show joinP _ L = _; rw [joinP, if_pos h0, if_pos rfl]
      rw [HR.out]
      have HF := Lib.hid hf; clear hf h0
      go_enter Tryz.func133, Tryz.ntmps133
      go_wp2_with fail
      go_quiet (first | (go_at_call 160; refine Calls.quiet_of_same (HF.out _)))
      go_wp2_with fail
      go_ret
      exact ⟨rfl, below_drewN _ _⟩
    · have hf : ∀ w, Calls Tryz.prog 160 #[.string ⟨#[38, 124]⟩, .int .u8 124] w fun e w' => e = .returned (.int .i64 1) ∧ w' = w := fun w => l15Find_any ⟨#[38, 124]⟩ 124 w (by decide)
      have HR : Hid (joinP ⟨#[124]⟩ L = ⟨#[102]⟩) := by show joinP _ L = _; rw [joinP, if_pos h0, if_neg (by decide)]
      rw [HR.out]
      have HF := Lib.hid hf; clear hf h0
      go_enter Tryz.func133, Tryz.ntmps133
      go_wp2_with fail
      go_quiet (first | (go_at_call 160; refine Calls.quiet_of_same (HF.out _)))
      go_wp2_with fail
      go_ret
      exact ⟨rfl, below_drewN _ _⟩
  · have hc1 := hc (L.length - 1) (by omega)
    have hlast : L.getD (L.length - 1) ByteArray.empty = L[L.length - 1] := by
      rw [List.getD_eq_getElem?_getD, List.getElem?_eq_getElem (by omega)]; rfl
    have HR : Hid (joinP op L = joinL op (L.take (L.length - 1)) ++ L[L.length - 1]) := by show joinP op L = _; rw [joinP, if_neg h0, hlast]
    obtain ⟨T, hT⟩ : ∃ T, L[L.length - 1] = T := ⟨_, rfl⟩
    have htz : T.size ≤ 1000000 := by
      have := sumL_at L (L.length - 1) (by omega)
      rw [hT] at this
      omega
    rw [hT] at hc1 HR
    have HC := Lib.hid hc; clear hc
    have HL := Lib.hid (joinL_take_le op L)
    have HT := Lib.hid (joinL_take op L)
    have HS := Lib.hid (fun k h => sumL_at L k h)
    rw [HR.out]
    obtain ⟨n, hn⟩ : ∃ n, L.length = n + 1 := ⟨L.length - 1, by omega⟩
    have HN := Lib.hid hn
    rw [hn] at hc1 hcap hl
    rw [hn]
    clear hlast hT h0
    rw [hn] at HR
    simp only [Nat.add_sub_cancel] at hc1 HR ⊢
    clear hn
    go_enter Tryz.func133, Tryz.ntmps133
    go_wp2_with fail
    go_loop [5, 6] (fun o i => ∃ k : Nat, k ≤ n + 1 ∧ i = .int .i64 k ∧ ∃ out : ByteArray, o = .string out ∧ out.size ≤ 4000000 ∧ Hid (out = if k = n + 1 then joinL op (L.take n) ++ T else joinL op (L.take k))) (fun _ i => n + 1 - (intOf i).toNat)
    case atStart => exact ⟨0, by omega, rfl, ByteArray.empty, rfl, by simp, by simp [Hid]; rfl⟩
    case round =>
      obtain ⟨k, hk, rfl, out, rfl, hoz, HO⟩ := hrel
      by_cases hlt : k < n
      · have hkl : k < L.length := by rw [HN.out]; omega
        have hck := HC.out k hkl
        have hz := HS.out k hkl
        have HT1 := Lib.hid (HT.out k hkl)
        have HL1 := Lib.hid (HL.out (k + 1) (by rw [HN.out]; omega) (by omega))
        have HO' : Hid (out = joinL op (L.take k)) := by
          have h := HO.out
          rw [if_neg (by omega)] at h
          exact h
        clear HO
        obtain ⟨s, hs1⟩ : ∃ s, L[k] = s := ⟨_, rfl⟩
        rw [hs1] at hck hz HT1
        clear hs1 hkl
        have hlt1 : k < n + 1 := by omega
        go_wp2_with fail
        go_round
        case rel =>
          have e : out ++ op ++ s = joinL op (L.take (k + 1)) := by rw [HT1.out, HO'.out, ba_assoc]
          refine ⟨k + 1, by omega, by go_num, out ++ op ++ s, rfl, ?_, ?_⟩
          · rw [e]
            have := HL1.out
            have := HN.out
            omega
          · show _ = _
            rw [if_neg (by omega)]
            exact e
        case measure => simp [intOf]; omega
      · by_cases hkn : k = n
        · subst hkn
          have HO' : Hid (out = joinL op (L.take k)) := by
            have h := HO.out
            rw [if_neg (by omega)] at h
            exact h
          clear HO
          have HL1 := Lib.hid (HL.out k (by rw [HN.out]; omega) (by omega))
          go_wp2_with fail
          go_round
          case rel =>
            refine ⟨k + 1, by omega, by go_num, out ++ T, rfl, ?_, ?_⟩
            · rw [ByteArray.size_append, HO'.out]
              have := HL1.out
              have := HN.out
              omega
            · show _ = _
              rw [if_pos rfl, HO'.out]
          case measure => simp [intOf]
        · have hkn : k = n + 1 := by omega
          subst hkn
          have HO' : Hid (out = joinL op (L.take n) ++ T) := by
            have h := HO.out
            rw [if_pos rfl] at h
            exact h
          clear HO
          go_wp2_with fail
          go_ret
          exact ⟨congrArg (fun s => Ending.returned (.string s)) HO'.out, Below.refl _ _⟩
end Go.Proofs.YtnhlhjehocngcaaGreatDoor

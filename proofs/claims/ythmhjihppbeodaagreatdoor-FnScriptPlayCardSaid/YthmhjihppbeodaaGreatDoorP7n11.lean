/- Contracts of the program's functions and what they compute: part 11. Conditions: those that each theorem states. -/
import Derived.Test.YthmhjihppbeodaaGreatDoorP7n10
import Derived.Test.YthmhjihppbeodaaGreatDoorP7n4
namespace Go.Proofs.YthmhjihppbeodaaGreatDoor
set_option linter.unusedVariables false
/-- The pieces of a list at a byte: those that the byte ends, and the last one. -/
def cutL (c : UInt8) : List UInt8 → List (List UInt8) × List UInt8
  | [] => ([], [])
  | x :: l => if x = c then ([] :: (cutL c l).1, (cutL c l).2) else
    match (cutL c l).1 with
    | [] => ([], x :: (cutL c l).2)
    | p :: ps => ((x :: p) :: ps, (cutL c l).2)
theorem cutL_join (c : UInt8) : ∀ l : List UInt8, joinPc c (cutL c l).2 (cutL c l).1 = l
  | [] => rfl
  | x :: l => by
    have ih := cutL_join c l
    unfold cutL
    by_cases h : x = c
    · rw [if_pos h]
      show [] ++ c :: joinPc c (cutL c l).2 (cutL c l).1 = _
      rw [ih, h]; rfl
    · rw [if_neg h]
      cases hp : (cutL c l).1 with
      | nil => rw [hp] at ih; show x :: (cutL c l).2 = x :: l; rw [show (cutL c l).2 = l from ih]
      | cons p ps => rw [hp] at ih; exact congrArg (x :: ·) ih
theorem cutL_last (c : UInt8) : ∀ l : List UInt8, c ∉ (cutL c l).2
  | [] => by simp [cutL]
  | x :: l => by
    have ih := cutL_last c l
    unfold cutL
    by_cases h : x = c
    · rw [if_pos h]; exact ih
    · rw [if_neg h]
      cases hp : (cutL c l).1 with
      | nil => simp only [List.mem_cons, not_or]; exact ⟨fun e => h e.symm, ih⟩
      | cons p ps => exact ih
theorem cutL_no (c : UInt8) : ∀ (l : List UInt8), ∀ p ∈ (cutL c l).1, c ∉ p
  | [] => by simp [cutL]
  | x :: l => by
    have ih := cutL_no c l
    intro p hp
    unfold cutL at hp
    by_cases h : x = c
    · rw [if_pos h] at hp
      rcases List.mem_cons.1 hp with rfl | hp
      · simp
      · exact ih p hp
    · rw [if_neg h] at hp
      cases hq : (cutL c l).1 with
      | nil => rw [hq] at hp; cases hp
      | cons q qs =>
        rw [hq] at hp ih
        rcases List.mem_cons.1 hp with rfl | hp
        · have := ih q (by simp)
          simp only [List.mem_cons, not_or]
          exact ⟨fun e => h e.symm, this⟩
        · exact ih p (by simp [hp])
/-- The pieces of a text. -/
def cutS (c : UInt8) (s : ByteArray) : List ByteArray := (cutL c s.data.toList).1.map fun l => ⟨l.toArray⟩
def cutZ (c : UInt8) (s : ByteArray) : ByteArray := ⟨(cutL c s.data.toList).2.toArray⟩
theorem cutS_join (c : UInt8) (s : ByteArray) : joinC c (cutZ c s) (cutS c s) = s := by
  apply ByteArray.ext
  apply Array.toList_inj.1
  show joinPc c (cutZ c s).data.toList ((cutS c s).map fun s => s.data.toList) = s.data.toList
  have e : (cutS c s).map (fun s => s.data.toList) = (cutL c s.data.toList).1 := by
    unfold cutS
    rw [List.map_map]
    exact (List.map_congr_left fun l _ => rfl).trans (List.map_id _)
  rw [e]
  exact cutL_join c _
theorem cutS_last (c : UInt8) (s : ByteArray) : c ∉ (cutZ c s).data.toList := cutL_last c _
theorem cutS_no (c : UInt8) (s : ByteArray) : ∀ l ∈ cutS c s, c ∉ l.data.toList := by
  intro l hl
  obtain ⟨p, hp, rfl⟩ := List.mem_map.1 hl
  exact cutL_no c _ p hp
theorem cutS_len (c : UInt8) (s : ByteArray) : (cutS c s).length ≤ s.size := by
  have h := joinC_len c (cutZ c s) (cutS c s)
  rw [cutS_join] at h
  exact h
end Go.Proofs.YthmhjihppbeodaaGreatDoor

namespace Go.Proofs.YthmhjihppbeodaaGreatDoor
open Go.RowKit
set_option linter.unusedVariables false
set_option maxRecDepth 100000
/-- Whether two bytes are a move. -/
def okMv (n m : Nat) (x y : UInt8) : Bool := (decide (x.toNat = 97) && (decide (48 ≤ y.toNat) && decide (y.toNat - 48 < n))) || (decide (x.toNat = 98) && (decide (48 ≤ y.toNat) && decide (y.toNat - 48 < m)))
def okPc (n m : Nat) (p : ByteArray) : Bool := match p.data.toList with
  | [x, y] => okMv n m x y
  | _ => false
def okMs (n m : Nat) (s : ByteArray) : Bool := decide (s.size = 0) || ((cutS 32 s ++ [cutZ 32 s]).all (okPc n m) && decide ((cutS 32 s).length ≤ 2))
theorem okMv_yes {n m : Nat} {x y : UInt8} (h : (x.toNat = 97 ∧ 48 ≤ y.toNat ∧ y.toNat - 48 < n) ∨ (x.toNat = 98 ∧ 48 ≤ y.toNat ∧ y.toNat - 48 < m)) : okMv n m x y = true := by
  unfold okMv
  rcases h with ⟨a, b, c⟩ | ⟨a, b, c⟩
  · rw [decide_eq_true a, decide_eq_true b, decide_eq_true c]; rfl
  · rw [decide_eq_true a, decide_eq_true b, decide_eq_true c, Bool.or_comm]; rfl
theorem okMv_no {n m : Nat} {x y : UInt8} (h : ¬ ((x.toNat = 97 ∧ 48 ≤ y.toNat ∧ y.toNat - 48 < n) ∨ (x.toNat = 98 ∧ 48 ≤ y.toNat ∧ y.toNat - 48 < m))) : okMv n m x y = false := by
  rw [← Bool.not_eq_true]
  intro hk
  apply h
  unfold okMv at hk
  simpa using hk
theorem pc_two {p : ByteArray} (h : p.size = 2) : ∃ x y, p = ⟨#[x, y]⟩ := by
  obtain ⟨⟨l⟩⟩ := p
  match l, h with
  | [x, y], _ => exact ⟨x, y, rfl⟩
theorem pc_no {n m : Nat} {p : ByteArray} (h : p.size ≠ 2) : okPc n m p = false := by
  unfold okPc
  obtain ⟨⟨l⟩⟩ := p
  match l, h with
  | [], _ => rfl
  | [x], _ => rfl
  | [x, y], h => exact absurd rfl h
  | x :: y :: z :: l, _ => rfl
theorem sp_at {w wr : World} {g n j : Nat} {ls : List ByteArray} (h : Sp w g n ls n wr) (hn : n = ls.length) (hj : j < ls.length) : wr.cell? ⟨g, j, none⟩ = some (.string ls[j]) := by
  rw [h.own.cellAt j (by omega)]
  unfold cellsAt
  rw [List.take_of_length_le (by omega), Nat.sub_self]
  simp [hj]
set_option maxHeartbeats 1000000 in
theorem areMoves_any (n m : Nat) (S R S2 R2 s : ByteArray) (hn : n ≤ 8) (hm : m ≤ 8) (hs : s.size ≤ 900) (w : World) :
    Calls Tryz.prog 21 #[strV n S R, strV m S2 R2, .string s] w fun e w' => e = .returned (.bool (okMs n m s)) ∧ Below w.heap.size w w' := by
  have HT := Lib.hid (Two.new w n S R m S2 R2)
  unfold boxS at HT
  have hlen := cutS_len 32 s
  have HSP := Lib.hid (fun w => split_join 32 (cutZ 32 s) (cutS_last 32 s) (cutS 32 s) (cutS_no 32 s) (by omega) (by rw [cutS_join]; omega) w)
  rw [cutS_join] at HSP
  obtain ⟨c0, c1, c2, f0, f1, f2, hl1⟩ := HT.out.a.cells
  obtain ⟨d0, d1, d2, g0, g1, g2, hl2⟩ := HT.out.b.cells
  have hE : okMs n m s = (decide (s.size = 0) || ((cutS 32 s ++ [cutZ 32 s]).all (okPc n m) && decide ((cutS 32 s).length ≤ 2))) := rfl
  obtain ⟨RES, hRES⟩ : ∃ r, okMs n m s = r := ⟨_, rfl⟩
  rw [hRES] at hE ⊢
  clear hRES
  by_cases h0 : s.size = 0
  · have hse : s = ByteArray.empty := by
      obtain ⟨⟨l⟩⟩ := s
      match l, h0 with
      | [], _ => rfl
    have HE : Hid (RES = true) := by show _ = _; rw [hE, h0]; rfl
    clear HSP hE hlen
    subst hse
    unfold strV
    go_enter Tryz.func21, Tryz.ntmps21
    go_wp2_with fail
    go_ret
    exact ⟨ret_bool HE.out.symm, HT.out.old⟩
  · have hne : s.toList.isEmpty = false := by
      cases h : s.toList with
      | nil => exact absurd (by have := congrArg List.length h; simpa [Lib.toList_data] using this) h0
      | cons a l => rfl
    obtain ⟨LS, hLS⟩ : ∃ l, cutS 32 s ++ [cutZ 32 s] = l := ⟨_, rfl⟩
    have hLn : LS.length = (cutS 32 s).length + 1 := by rw [← hLS]; simp
    have HE : Hid (RES = (LS.all (okPc n m) && decide (LS.length ≤ 3))) := by
      show _ = _
      rw [hE, hLS, decide_eq_false h0, Bool.false_or, hLn]
      congr 1
      exact decide_eq_decide.2 (by omega)
    clear hE
    unfold strV
    go_enter Tryz.func21, Tryz.ntmps21
    go_wp2_with fail
    refine (HSP.out _).mono ?_; rintro e w1 ⟨g, q, rfl, hq, hsp⟩
    rw [hLS] at hsp
    obtain rfl : q = LS.length := by omega
    have HB1 : Hid (Below w.heap.size w w1) := HT.out.old.trans (hsp.old.mono HT.out.old.size)
    have HT1 := Lib.hid (HT.out.below hsp.old)
    have HAT := Lib.hid (fun j (hj : j < LS.length) => sp_at hsp rfl hj)
    have hL9 : LS.length ≤ 1000 := by omega
    clear c0 c1 c2 f0 f1 f2 hl1 d0 d1 d2 g0 g1 g2 hl2 hsp HSP hq hLS hLn
    obtain ⟨c0, c1, c2, f0, f1, f2, hl1⟩ := HT1.out.a.cells
    obtain ⟨d0, d1, d2, g0, g1, g2, hl2⟩ := HT1.out.b.cells
    obtain ⟨N, hN⟩ : ∃ N, LS.length = N := ⟨_, rfl⟩
    have HNN := Lib.hid hN
    rw [hN]
    have hNz : N ≤ 1000 := by omega
    clear hN hlen hL9
    go_wp2_with fail
    go_loop [17] (fun i => ∃ j : Nat, j ≤ N ∧ i = .int .i64 (j : Int) ∧ Hid (∀ z (hz : z < LS.length), z < j → okPc n m LS[z] = true)) (fun i => N - (intOf i).toNat)
    case atStart => exact ⟨0, by omega, rfl, fun z hz h => by omega⟩
    case round =>
      obtain ⟨j, hj, rfl, HK⟩ := hrel
      by_cases hlt : j < N
      · have hjL : j < LS.length := by rw [HNN.out]; exact hlt
        have hc := HAT.out j hjL
        have HNO : Hid (okPc n m LS[j] = false → RES = false) := fun h => by
          rw [HE.out, List.all_eq_false.2 ⟨LS[j], List.getElem_mem hjL, by simp [h]⟩]; rfl
        have HGO : Hid (okPc n m LS[j] = true → ∀ z (hz : z < LS.length), z < j + 1 → okPc n m LS[z] = true) := fun h z hz h2 => by
          by_cases hzj : z = j
          · subst hzj; exact h
          · exact HK.out z hz (by omega)
        have hjI : (j : Int) < (N : Int) := by omega
        generalize LS[j] = PJ at *
        clear HK HAT
        by_cases h2 : PJ.size = 2
        · obtain ⟨x, y, rfl⟩ := pc_two h2
          have hxy : okPc n m ⟨#[x, y]⟩ = okMv n m x y := rfl
          rw [hxy] at HNO HGO
          clear hxy h2
          have i0 : (⟨#[x, y]⟩ : ByteArray).size = 2 := rfl
          have HX : Hid (((⟨#[x, y]⟩ : ByteArray)[0]'(by show 0 < 2; decide)).toNat = x.toNat) := rfl
          have HY : Hid (((⟨#[x, y]⟩ : ByteArray)[1]'(by show 1 < 2; decide)).toNat = y.toNat) := rfl
          have HBY : Hid (y.toNat < 256) := y.toNat_lt
          go_wp2_with fail
          all_goals
            first
            | (go_ret
               refine ⟨ret_bool (HNO.out (okMv_no ?_)).symm, HB1.out⟩
               have hX := HX.out
               have hY := HY.out
               have hB := HBY.out
               try simp only [bne_iff_ne, bne_eq_false_iff_eq, beq_iff_eq, beq_eq_false_iff_ne, ne_eq] at *
               omega)
            | (refine ⟨⟨j + 1, by omega, by go_num, HGO.out (okMv_yes ?_)⟩, by simp [intOf]; omega⟩
               have hX := HX.out
               have hY := HY.out
               have hB := HBY.out
               try simp only [bne_eq_false_iff_eq, beq_iff_eq, beq_eq_false_iff_ne, ne_eq] at *
               omega)
        · have HR : Hid (RES = false) := HNO.out (pc_no h2)
          have h2I : ¬ (PJ.size : Int) = 2 := by omega
          clear HNO HGO
          go_wp2_with fail
          go_ret
          exact ⟨ret_bool HR.out.symm, HB1.out⟩
      · have hjN : j = N := by omega
        have HA : Hid (RES = decide (N ≤ 3)) := by
          show _ = _
          rw [HE.out, List.all_eq_true.2 (fun p hp => by obtain ⟨z, hz, rfl⟩ := List.mem_iff_getElem.1 hp; exact HK.out z hz (by have := HNN.out; omega)), Bool.true_and, HNN.out]
        have hjI : ¬ (j : Int) < (N : Int) := by omega
        clear HK HAT
        by_cases h3 : N ≤ 3
        · have h3I : (N : Int) ≤ 3 := by omega
          go_wp2_with fail
          go_ret
          exact ⟨ret_bool (by rw [HA.out]; simp [h3]), HB1.out⟩
        · have h3I : ¬ (N : Int) ≤ 3 := by omega
          go_wp2_with fail
          go_ret
          exact ⟨ret_bool (by rw [HA.out]; simp [h3]), HB1.out⟩
end Go.Proofs.YthmhjihppbeodaaGreatDoor

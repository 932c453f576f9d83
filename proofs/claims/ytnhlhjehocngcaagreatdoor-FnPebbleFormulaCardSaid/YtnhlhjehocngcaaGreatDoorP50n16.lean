/- Contracts of the program's functions and what they compute: part 16. Conditions: those that each theorem states. -/
import Derived.Test.YtnhlhjehocngcaaGreatDoorP50n14
import Derived.Test.YtnhlhjehocngcaaGreatDoorP50n15
namespace Go.Proofs.YtnhlhjehocngcaaGreatDoor
open Go.RowKit
set_option linter.unusedVariables false
set_option maxRecDepth 100000
theorem l3Atom_any (s : ByteArray) (is : Bool) (w : World) (hs : s.size ≤ 1000000) : Calls Tryz.prog 132 #[.bool is, .string s] w fun e w' => e = .returned (.string (sgB s is)) ∧ w' = w := by
  cases is
  · have hz : ¬ 9223372036854775807 < (⟨#[33]⟩ : ByteArray).size + s.size := by show ¬ _ < 1 + s.size; omega
    go_enter Tryz.func132, Tryz.ntmps132
    go_wp2_with fail
    go_ret
    exact ⟨rfl, rfl⟩
  · go_enter Tryz.func132, Tryz.ntmps132
    go_wp2_with fail
    go_ret
    exact ⟨rfl, rfl⟩
theorem l7Put_any (L : List Int) (i : Nat) (x : Int) (v : Value) (w : World) (hv : IntsAt w v L) (hi : i < L.length) (hl : L.length ≤ 1000) :
    Calls Tryz.prog 131 #[v, .int .i64 (i : Int), .int .i64 x] w (ListI (L.set i x) w) := by
  have HV := Lib.hid (hv.below ((Below.refl w.heap.size w).alloc (Nat.le_refl _) (.cells #[] 3)))
  have HP0 : Hid (OwnI w.heap.size (w.alloc (.cells #[] 3)) (.slice (some ⟨w.heap.size, 0, none⟩) 0 0) []) := OwnI.lit0 _ _ (Nat.le_refl _)
  have HLL : Hid (([] : List Int).length + L.length ≤ 2000000) := by show _ ≤ _; simp; omega
  obtain ⟨aa, cap, rfl, m1, m2, m3⟩ := hv.view
  unfold maxLen at m2
  clear m3 hv
  have h0 : 0 < L.length := by omega
  have hiI : (i : Int) < (L.length : Int) := by omega
  go_enter Tryz.func131, Tryz.ntmps131
  go_wp2_with (first | (at_builtin; refine wpList_ownIAll HP0.out HV.out h0 HLL.out rfl (.tmp 8) (.tmp 9) rfl rfl rfl ?_; intro v' w' ho hg; obtain ⟨g, q, rfl, k1, k2, HF⟩ := put_end (x := x) ho hg hi; clear ho hg) | fail)
  go_ret
  exact HF.out
theorem l4Seen_any (L : List ByteArray) (f : ByteArray) (g cap : Nat) (w : World) (hcap : L.length ≤ cap) (hcm : cap ≤ maxLen) (hl : L.length ≤ 1000) (hc : ∀ j (hj : j < L.length), w.cell? ⟨g, j, none⟩ = some (.string L[j])) :
    Calls Tryz.prog 161 #[.slice (some ⟨g, 0, none⟩) L.length cap, .string f] w fun e w' => (∃ z : Int, e = .returned (.int .i64 z) ∧ decide (z < 0) = !hasB L f ∧ -1 ≤ z) ∧ w' = w := by
  unfold maxLen at hcm
  have HC := Lib.hid hc
  clear hc
  go_enter Tryz.func161, Tryz.ntmps161
  go_wp2_with fail
  go_loop [5] (fun i => ∃ k : Nat, k ≤ L.length ∧ i = .int .i64 (k : Int) ∧ Hid (∀ j (hj : j < L.length), j < k → L[j] ≠ f)) (fun i => L.length - (intOf i).toNat)
  case atStart => exact ⟨0, by omega, rfl, fun j _ hj => by omega⟩
  case round =>
    obtain ⟨k, hk, rfl, HK⟩ := hrel
    by_cases hlt : k < L.length
    · have d1 := HC.out k hlt
      have hkI : (k : Int) < (L.length : Int) := by omega
      by_cases hx : L[k] = f
      · have HE : Hid (decide ((k : Int) < 0) = !hasB L f) := by
          show _ = _
          have : hasB L f = true := by
            unfold hasB
            exact List.any_eq_true.2 ⟨L[k], List.getElem_mem hlt, by simpa using hx⟩
          rw [this]
          simp
        rw [hx] at d1
        clear hx
        go_wp2_with fail
        go_ret
        exact ⟨⟨_, rfl, HE.out, by omega⟩, rfl⟩
      · have HX := Lib.hid hx
        obtain ⟨hx1, hx2⟩ := tl_ne hx
        obtain ⟨x, hxe⟩ : ∃ x, L[k] = x := ⟨_, rfl⟩
        rw [hxe] at d1 hx hx1 hx2
        clear hxe
        go_wp2_with fail
        go_round
        case rel =>
          refine ⟨k + 1, by omega, by go_num, fun j hj hjk => ?_⟩
          by_cases e : j = k
          · subst e; exact HX.out
          · exact HK.out j hj (by omega)
        case measure => simp [intOf]; omega
    · have HE : Hid (decide ((-1 : Int) < 0) = !hasB L f) := by
        show _ = _
        have : hasB L f = false := by
          unfold hasB
          rw [List.any_eq_false]
          intro x hx
          obtain ⟨j, hj, rfl⟩ := List.mem_iff_getElem.1 hx
          simpa using HK.out j hj (by omega)
        rw [this]; simp
      go_wp2_with fail
      go_ret
      exact ⟨⟨_, rfl, HE.out, by omega⟩, rfl⟩
set_option maxHeartbeats 1000000 in
theorem l6Each_any (L : List ByteArray) (g cap : Nat) (w : World) (hcap : L.length ≤ cap) (hcm : cap ≤ maxLen) (hl : L.length ≤ 1000) (hg : g < w.heap.size) (hc : ∀ j (hj : j < L.length), w.cell? ⟨g, j, none⟩ = some (.string L[j])) :
    Calls Tryz.prog 134 #[.slice (some ⟨g, 0, none⟩) L.length cap] w (ListS (uniqL L) w) := by
  have HC := Lib.hid hc
  have hcm2 := hcm
  unfold maxLen at hcm2
  have HP0 : Hid (Strs w (w.alloc (.cells #[] 9)) (.slice (some ⟨w.heap.size, 0, none⟩) 0 0) (uniqL (L.take 0))) := Strs.lit0 w
  clear hc
  go_enter Tryz.func134, Tryz.ntmps134
  go_wp2_with fail
  go_loopw [4, 3] (fun q o wr => ∃ k : Nat, k ≤ L.length ∧ q = .int .i64 (k : Int) ∧ Hid (Strs w wr o (uniqL (L.take k)))) (fun q _ _ => L.length - (intOf q).toNat)
  case atStart => exact ⟨0, by omega, rfl, HP0⟩
  case round =>
    clear HP0
    obtain ⟨k, hk, rfl, HP⟩ := hrel
    by_cases hlt : k < L.length
    · have hkI : (k : Int) < (L.length : Int) := by omega
      have d1 := (HP.out.old.cell (p := ⟨g, k, none⟩) hg).trans (HC.out k hlt)
      have HU : Hid (uniqL (L.take (k + 1)) = addU (uniqL (L.take k)) L[k]) := by show _ = _; rw [List.take_succ_eq_append_getElem hlt, uniqL_snoc]
      have HLN : Hid ((uniqL (L.take k)).length ≤ 1000) := by
        have := (uniqL_facts (L.take k)).2.1
        rw [List.length_take] at this
        show _ ≤ _
        omega
      generalize uniqL (L.take k) = U at *
      obtain ⟨x, hxe⟩ : ∃ x, L[k] = x := ⟨_, rfl⟩
      rw [hxe] at d1 HU
      clear hxe
      obtain ⟨ug, uc, rfl, m1, m2, m3, m4, m5⟩ := HP.out.cells
      have HCT := Lib.hid (l4Seen_any U x ug uc wr m3 m4 HLN.out m5)
      have HUA : Hid (addU U x = if hasB U x = true then U else U ++ [x]) := rfl
      generalize hasB U x = r at *
      clear m5
      unfold maxLen at m4
      go_wp2_with fail
      refine HCT.out.mono ?_; rintro e w1 ⟨⟨z, rfl, hz, hz1⟩, hw1⟩; rw [hw1]; clear hw1
      cases r
      · have hz0 : z < 0 := of_decide_eq_true hz
        have HUB : Hid (uniqL (L.take (k + 1)) = U ++ [x]) := by show _ = _; rw [HU.out, HUA.out, if_neg (by decide)]
        have HL2 : Hid (U.length ≤ 2000000) := by have := HLN.out; show _ ≤ _; omega
        clear hz
        have hzB : decide (z < 0) = true := decide_eq_true hz0
        go_wp2_with (first | (at_builtin; refine wpList_app1 HP.out HL2.out rfl (.tmp 19) (.tmp 24) rfl x _ rfl rfl rfl ?_; intro v' w' ho; have HP9 := Lib.hid ho; clear ho) | fail)
        go_roundw
        case rel => exact ⟨k + 1, by omega, by go_num, by rw [HUB.out]; exact HP9⟩
        case measure => simp [intOf]; omega
      · have hz0 : ¬ z < 0 := of_decide_eq_false hz
        have HUB : Hid (uniqL (L.take (k + 1)) = U) := by show _ = _; rw [HU.out, HUA.out, if_pos rfl]
        clear hz
        have hzB : decide (z < 0) = false := decide_eq_false hz0
        go_wp2_with fail
        go_roundw
        case rel => exact ⟨k + 1, by omega, by go_num, by rw [HUB.out]; exact HP⟩
        case measure => simp [intOf]; omega
    · obtain rfl : k = L.length := by omega
      have HF : Hid (ListS (uniqL L) w (.returned u3) wr) := ⟨u3, rfl, by have := HP.out; rw [List.take_length] at this; exact this⟩
      go_wp2_with fail
      go_ret
      exact HF.out
theorem pw_le {n k : Nat} (hn : n ≤ 8) (hk : k ≤ 3) : (n + 1) ^ k ≤ 729 := by
  have h1 := Nat.pow_le_pow_left (show n + 1 ≤ 9 by omega) k
  have h2 : 9 ^ k ≤ 9 ^ 3 := Nat.pow_le_pow_right (by decide) hk
  have h3 : 9 ^ 3 = 729 := by decide
  omega
theorem l7Count_any (n k : Nat) (S R : ByteArray) (w : World) (hn : n ≤ 8) (hk : k ≤ 3) : Calls Tryz.prog 125 #[strV n S R, .int .i64 (k : Int)] w fun e w' => e = .returned (.int .i64 (((n + 1) ^ k : Nat) : Int)) ∧ Below w.heap.size w w' := by
  have HB : Hid (SBlk (boxS w n S R) w.heap.size n S R ∧ Below w.heap.size w (boxS w n S R)) := ⟨boxS_SBlk _ _ _ _, boxS_below _ _ _ _⟩
  unfold boxS at HB
  obtain ⟨s0, s1, s2, _, _, _, hl⟩ := HB.out.1.cells
  have HP := Lib.hid (fun j (hj : j ≤ 3) => pw_le (n := n) (k := j) hn hj)
  have HN1 : Hid ((n : Int) + 1 = ((n + 1 : Nat) : Int)) := by show _ = _; omega
  unfold strV
  go_enter Tryz.func125, Tryz.ntmps125
  go_wp2_with fail
  go_loop [6, 5] (fun q z => ∃ (j sv : Nat), j ≤ k ∧ q = .int .i64 (j : Int) ∧ z = .int .i64 (sv : Int) ∧ Hid (sv = (n + 1) ^ j)) (fun q _ => k - (intOf q).toNat)
  case atStart => exact ⟨0, 1, by omega, rfl, rfl, by show _ = _; rw [Nat.pow_zero]⟩
  case round =>
    obtain ⟨j, sv, hj, rfl, rfl, HS⟩ := hrel
    by_cases hlt : j < k
    · have hjI : (j : Int) < (k : Int) := by omega
      have HS2 : Hid (sv * (n + 1) = (n + 1) ^ (j + 1)) := by show _ = _; rw [HS.out, Nat.pow_succ]
      have hb : sv * (n + 1) ≤ 729 := by rw [HS2.out]; exact HP.out _ (by omega)
      have hm : (sv : Int) * ((n : Int) + 1) = ((sv * (n + 1) : Nat) : Int) := by rw [Int.natCast_mul, HN1.out]
      obtain ⟨z, hz⟩ : ∃ z, sv * (n + 1) = z := ⟨_, rfl⟩
      rw [hz] at HS2 hb hm
      have hbI : (z : Int) ≤ 729 := by omega
      clear hz hb
      go_wp2_with fail
      go_round
      case rel => exact ⟨j + 1, z, by omega, by go_num, rfl, HS2⟩
      case measure => simp [intOf]; omega
    · obtain rfl : j = k := by omega
      have HE : Hid ((sv : Int) = (((n + 1) ^ j : Nat) : Int)) := by show _ = _; rw [HS.out]
      go_wp2_with fail
      go_ret
      exact ⟨ret_int HE.out, HB.out.2⟩
theorem ixL_take {n : Nat} {L : List Int} (j : Nat) (hj : j < L.length) : ixL (n + 1) (L.take (j + 1)) = ixL (n + 1) (L.take j) * (n + 1) + (L.getD j 0 + 1).toNat := by
  rw [List.take_succ_eq_append_getElem hj, ixL_snoc, List.getD_eq_getElem?_getD, List.getElem?_eq_getElem hj]
  rfl
theorem Pbs.take {n : Nat} {L : List Int} (h : Pbs n L) (j : Nat) : Pbs n (L.take j) := fun x hx => h x (List.mem_of_mem_take hx)
theorem Pbs.at {n : Nat} {L : List Int} (h : Pbs n L) {j : Nat} (hj : j < L.length) : -1 ≤ L.getD j 0 ∧ L.getD j 0 < (n : Int) := by
  rw [List.getD_eq_getElem?_getD, List.getElem?_eq_getElem hj]
  exact h _ (List.getElem_mem _)
theorem l7Index_any (n : Nat) (S R : ByteArray) (L : List Int) (v : Value) (w : World) (hn : n ≤ 8) (hk : L.length ≤ 3) (hv : IntsAt w v L) (hp : Pbs n L) : Calls Tryz.prog 69 #[strV n S R, v] w fun e w' => e = .returned (.int .i64 ((ixL (n + 1) L : Nat) : Int)) ∧ Below w.heap.size w w' := by
  have HB : Hid (SBlk (boxS w n S R) w.heap.size n S R ∧ Below w.heap.size w (boxS w n S R)) := ⟨boxS_SBlk _ _ _ _, boxS_below _ _ _ _⟩
  unfold boxS at HB
  obtain ⟨s0, s1, s2, _, _, _, hl⟩ := HB.out.1.cells
  have hv2 := hv.below HB.out.2
  obtain ⟨a, ca, rfl, l1, l2, l3⟩ := hv2.view
  unfold maxLen at l2
  have HC := Lib.hid l3
  have HPB := Lib.hid hp
  have HIX := Lib.hid (fun j (hj : j ≤ L.length) => ixL_lt (n := n) j (L := L.take j) (by rw [List.length_take]; omega) (hp.take j))
  have HPW := Lib.hid (fun j (hj : j ≤ 3) => pw_le (n := n) (k := j) hn hj)
  obtain ⟨RES, hres⟩ : ∃ r, ixL (n + 1) L = r := ⟨_, rfl⟩
  have HRES := Lib.hid hres
  rw [hres]
  clear l3 hv hv2 hp hres
  unfold strV
  go_enter Tryz.func69, Tryz.ntmps69
  go_wp2_with fail
  go_loopw [6, 5] (fun q z wr => ∃ (j sv : Nat), j ≤ L.length ∧ q = .int .i64 (j : Int) ∧ z = .int .i64 (sv : Int) ∧ Hid (sv = ixL (n + 1) (L.take j)) ∧ Hid (Below ((w.alloc (.cells #[.int .i64 (n : Int), .string S, .string R] 24))).heap.size ((w.alloc (.cells #[.int .i64 (n : Int), .string S, .string R] 24))) wr)) (fun q _ _ => L.length - (intOf q).toNat)
  case atStart => exact ⟨0, 0, by omega, rfl, rfl, rfl, Below.refl _ _⟩
  case round =>
    obtain ⟨j, sv, hj, rfl, rfl, HS, HO⟩ := hrel
    by_cases hlt : j < L.length
    · have hjI : (j : Int) < (L.length : Int) := by omega
      obtain ⟨g, o, rfl, hg, hc⟩ := HC.out (by omega)
      have d1 := (HO.out.cell (p := ⟨g, o + j, none⟩) hg).trans (hc j hlt)
      have d0 := (HO.out.cell (p := ⟨w.heap.size, 0, none⟩) hl).trans s0
      have hx := HPB.out.at hlt
      have HS2 : Hid (sv * (n + 1) + (L.getD j 0 + 1).toNat = ixL (n + 1) (L.take (j + 1))) := by show _ = _; rw [ixL_take j hlt, HS.out]
      have hb : sv * (n + 1) + (L.getD j 0 + 1).toNat ≤ 729 := by
        have h1 := HIX.out (j + 1) (by omega)
        have h2 := HPW.out (j + 1) (by omega)
        rw [HS2.out]
        omega
      obtain ⟨x, hxe⟩ : ∃ x, L.getD j 0 = x := ⟨_, rfl⟩
      rw [hxe] at d1 hx HS2 hb
      have hm : (sv : Int) * ((n : Int) + 1) = ((sv * (n + 1) : Nat) : Int) := by rw [Int.natCast_mul]; rfl
      obtain ⟨z, hz⟩ : ∃ z, sv * (n + 1) = z := ⟨_, rfl⟩
      rw [hz] at HS2 hb hm
      have HV : Hid ((z : Int) + x + 1 = ((z + (x + 1).toNat : Nat) : Int)) := by show _ = _; omega
      have hb2 : -1 ≤ (z : Int) + x := by omega
      have hb3 : (z : Int) + x ≤ 800 := by omega
      clear hz hxe hc
      have f0 := fun s => Since.cell d0 s
      have f1 := fun s => Since.cell d1 s
      go_wp2_with fail
      refine wp_region_since (by kernel_rfl) (by kernel_rfl) ?_
      repeat (go_big_quiet_step (fail))
      refine wpQuiet_nil ?_
      intro w9 hb9
      have HO9 := Lib.hid (HO.out.trans (hb9.mono HO.out.size))
      clear hb9 f0 f1
      go_wp2_with fail
      go_roundw
      case rel => exact ⟨j + 1, z + (x + 1).toNat, by omega, by go_num, by rw [← HV.out], HS2, HO9⟩
      case measure => simp [intOf]; omega
    · obtain rfl : j = L.length := by omega
      have HE : Hid ((sv : Int) = (RES : Int)) := by show _ = _; rw [HS.out, List.take_length, HRES.out]
      have HO2 := Lib.hid (HB.out.2.trans (HO.out.mono HB.out.2.size))
      go_wp2_with fail
      go_ret
      exact ⟨ret_int HE.out, HO2.out⟩
/-- A made slice of numbers. -/
theorem made_ints {B g n : Nat} {w : World} (h : w.ownsRow B 3 1 (.slice (some ⟨g, 0, none⟩) n n) n (madeCells (Value.int .i64 0).cells (n * 1)).toList) (hB : B ≤ w.heap.size) : OwnI B w (.slice (some ⟨g, 0, none⟩) n n) (List.replicate n 0) := by
  rw [show (Value.int .i64 0).cells = #[.int .i64 0] from rfl, Nat.mul_one, toList_madeCells_one] at h
  refine ⟨?_, by simp, hB⟩
  rw [List.length_replicate, List.map_replicate]
  exact h
theorem atL_succ (B k s : Nat) : atL B (k + 1) s = atL B k (s / B) ++ [((s % B : Nat) : Int) - 1] := rfl
theorem rep_set (j : Nat) (T : List Int) (x : Int) : (List.replicate (j + 1) (0 : Int) ++ T).set j x = List.replicate j 0 ++ (x :: T) := by
  rw [List.replicate_succ', List.append_assoc, List.set_append]
  simp
theorem rep_len (j : Nat) (T : List Int) : (List.replicate j (0 : Int) ++ T).length = j + T.length := by simp
/-- What l7At keeps. -/
structure Lt (w : World) (n : Nat) (S R : ByteArray) (g k : Nat) (L : List Int) (wr : World) : Prop where
  a : SBlk wr w.heap.size n S R
  own : OwnI (w.heap.size + 1) wr (.slice (some ⟨g, 0, none⟩) k k) L
  old : Below w.heap.size w wr
set_option maxHeartbeats 1000000 in
theorem l7At_any (n k s0 : Nat) (S R : ByteArray) (w : World) (hn : n ≤ 8) (hk : k ≤ 3) (hs : s0 ≤ 1000) : Calls Tryz.prog 128 #[strV n S R, .int .i64 (s0 : Int), .int .i64 (k : Int)] w (ListI (atL (n + 1) k s0) w) := by
  have HB : Hid (SBlk (boxS w n S R) w.heap.size n S R ∧ Below w.heap.size w (boxS w n S R) ∧ (boxS w n S R).heap.size = w.heap.size + 1) := ⟨boxS_SBlk _ _ _ _, boxS_below _ _ _ _, boxS_size _ _ _ _⟩
  obtain ⟨RES, hres⟩ : ∃ r, atL (n + 1) k s0 = r := ⟨_, rfl⟩
  have HRES := Lib.hid hres
  rw [hres]
  clear hres
  obtain ⟨W, hW⟩ : ∃ W, boxS w n S R = W := ⟨_, rfl⟩
  rw [hW] at HB
  unfold boxS at hW
  have HW := Lib.hid hW
  clear hW
  have hW1 : W.heap.size = w.heap.size + 1 := HB.out.2.2
  have HW1 := Lib.hid hW1
  clear hW1
  obtain ⟨i, hi, hz, h1, h2⟩ := info_parts natInfo3
  have HI := Lib.hid (And.intro hi (And.intro hz (And.intro h1 h2)))
  clear hi hz h1 h2
  unfold strV
  go_enter Tryz.func128, Tryz.ntmps128
  go_upto_region 1 with fail
  rw [HW.out]
  go_wp2_with (first | (refine wpList_make_full _ rfl _ _ 25 rfl (w.heap.size + 1) 3 i (.int .i64 0) 1 Tryz.underlying25 HI.out.1 HI.out.2.1 HI.out.2.2.1 .i64 .i64 k k k rfl rfl rfl rfl (by rw [HI.out.2.2.2]; omega) (by unfold maxLen; omega) (by rw [HW1.out]; exact Nat.le_refl _) ?_; intro w1 hown hgr; have HP0 : Hid (Lt w n S R W.heap.size k (List.replicate k 0 ++ []) w1) := (by rw [List.append_nil]; exact ⟨(hgr.block _ (by rw [HW1.out]; omega) (by simp)).trans HB.out.1, made_ints hown (by have := hgr.size; have := HW1.out; omega), HB.out.2.1.grown hgr (by rw [HW1.out]; omega) (fun k hk => by cases hk)⟩); clear hown hgr) | fail)
  go_loopw [8, 1] (fun q z wr => ∃ (j sj : Nat) (T : List Int), q = .int .i64 ((j : Int) - 1) ∧ z = .int .i64 (sj : Int) ∧ sj ≤ 1000 ∧ Hid (j + T.length = k ∧ atL (n + 1) j sj ++ T = RES) ∧ Hid (Lt w n S R W.heap.size k (List.replicate j 0 ++ T) wr)) (fun q _ _ => (intOf q + 1).toNat)
  case atStart => exact ⟨k, s0, [], rfl, rfl, hs, ⟨rfl, by rw [List.append_nil]; exact HRES.out⟩, HP0⟩
  case round =>
    clear HP0 HRES HB HW
    obtain ⟨j, sj, T, rfl, rfl, hsj, HE, HP⟩ := hrel
    match j, HE, HP with
    | 0, HE, HP =>
      have HF : Hid (ListI RES w (.returned (.slice (some ⟨W.heap.size, 0, none⟩) k k)) wr) := by
        have h1 := HE.out.2
        have h2 : T = RES := by simpa [atL] using h1
        have h3 := HP.out.own
        rw [← h2]
        exact ⟨_, rfl, (by simpa using h3 : OwnI (w.heap.size + 1) wr _ T).mono (by omega), HP.out.old⟩
      go_wp2_with fail
      go_ret
      exact HF.out
    | j + 1, HE, HP =>
      obtain ⟨s1, _, _, _, _, _, hl⟩ := HP.out.a.cells
      obtain ⟨d, hd⟩ : ∃ d, sj % (n + 1) = d := ⟨_, rfl⟩
      obtain ⟨q, hq⟩ : ∃ d, sj / (n + 1) = d := ⟨_, rfl⟩
      have hqs : q ≤ sj := by rw [← hq]; exact Nat.div_le_self _ _
      have hdn : d < n + 1 := by rw [← hd]; exact Nat.mod_lt _ (by omega)
      have hdI : (sj : Int) % ((n : Int) + 1) = (d : Int) := by rw [← hd]; exact (Int.natCast_emod sj (n + 1)).symm
      have hdT : (sj : Int).tmod ((n : Int) + 1) = (d : Int) := by rw [← hd]; exact (Int.ofNat_tmod sj (n + 1)).symm
      have hqI : (sj : Int) / ((n : Int) + 1) = (q : Int) := by rw [← hq]; exact (Int.natCast_ediv sj (n + 1)).symm
      have hqT : (sj : Int).tdiv ((n : Int) + 1) = (q : Int) := by rw [← hq]; exact (Int.ofNat_tdiv sj (n + 1)).symm
      have hPn : ¬ (n : Int) + 1 = 0 := by omega
      have HE2 : Hid (j + ((((d : Nat) : Int) - 1) :: T).length = k ∧ atL (n + 1) j q ++ ((((d : Nat) : Int) - 1) :: T) = RES) := by
        have h1 := HE.out
        rw [atL_succ, hd, hq, List.append_assoc] at h1
        refine ⟨by simp only [List.length_cons]; omega, h1.2⟩
      have hll : (List.replicate (j + 1) (0 : Int) ++ T).length = k := by rw [rep_len]; exact HE.out.1
      obtain ⟨g2, c2, e2, k1, k2, k3, k4, k5⟩ := HP.out.own.cells
      injection e2 with e3 e4 e5
      injection e3 with e3
      injection e3 with e3
      have x1 := k5 j (by rw [rep_len]; omega)
      rw [← e3] at x1
      have x2 := HP.out.own.frozen hll j
      have HP2 : Hid (Lt w n S R W.heap.size k (List.replicate j 0 ++ ((((d : Nat) : Int) - 1) :: T)) (wr.setCell ⟨W.heap.size, j, none⟩ (.int .i64 (((d : Nat) : Int) - 1)))) := by
        have h1 := HP.out.own.setI hll j (((d : Nat) : Int) - 1)
        rw [rep_set] at h1
        exact ⟨HP.out.a.far (by rw [HW1.out]; simp) _, h1, HP.out.old.setCell (by show _ ≤ W.heap.size; rw [HW1.out]; omega) _⟩
      have hwn1 : W.heap.size ≠ w.heap.size := by rw [HW1.out]; omega
      have hwn2 : w.heap.size ≠ W.heap.size := by rw [HW1.out]; omega
      have hjk : j < k := by have := HE.out.1; omega
      have hjkI : (j : Int) < (k : Int) := by omega
      have hji : ((j + 1 : Nat) : Int) - 1 = (j : Int) := by omega
      have hj0 : (0 : Int) ≤ (j : Int) := by omega
      generalize (List.replicate (j + 1) (0 : Int) ++ T).getD j 0 = x0 at *
      rw [hji]
      clear hji hd hq e3 e4 e5 k1 k2 k3 k4 k5 HE
      go_wp2_with fail
      go_roundw
      case rel => exact ⟨j, q, _, rfl, rfl, by omega, HE2, HP2⟩
      case measure => simp [intOf]
end Go.Proofs.YtnhlhjehocngcaaGreatDoor

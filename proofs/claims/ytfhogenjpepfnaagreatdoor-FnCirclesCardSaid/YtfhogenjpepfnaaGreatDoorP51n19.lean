/- Contracts of the program's functions and what they compute: part 19. Conditions: those that each theorem states. -/
import Derived.Test.YtfhogenjpepfnaaGreatDoorP51n4
import Derived.Test.YtfhogenjpepfnaaGreatDoorP51n18
namespace Go.Proofs.YtfhogenjpepfnaaGreatDoor
open Go.RowKit
theorem ba_assoc (a b c : ByteArray) : a ++ b ++ c = a ++ (b ++ c) := by
  apply ByteArray.ext
  simp [ByteArray.data_append, Array.append_assoc]
theorem ba_nil (a : ByteArray) : a ++ ByteArray.empty = a := by
  apply ByteArray.ext
  simp
theorem nil_ba (a : ByteArray) : ByteArray.empty ++ a = a := by
  apply ByteArray.ext
  simp
/-- A text n times. -/
def rep (s : ByteArray) : Nat → ByteArray
  | 0 => ByteArray.empty
  | n + 1 => s ++ rep s n
theorem rep_double (s : ByteArray) (n : Nat) : rep (s ++ s) n = rep s (2 * n) := by
  induction n with
  | zero => rfl
  | succ n ih =>
    rw [show 2 * (n + 1) = 2 * n + 1 + 1 by omega]
    simp only [rep, ih, ba_assoc]
theorem rep_size (s : ByteArray) (n : Nat) : (rep s n).size = n * s.size := by
  induction n with
  | zero => simp [rep]
  | succ n ih => simp only [rep, ByteArray.size_append, ih, Nat.succ_mul]; omega
theorem many_step (out s T : ByteArray) (m : Nat) (h : out ++ rep s m = T) : (if m % 2 = 1 then out ++ s else out) ++ rep (s ++ s) (m / 2) = T := by
  rw [rep_double]
  by_cases h1 : m % 2 = 1
  · rw [if_pos h1, ba_assoc, ← h]
    congr 1
    rw [show m = 2 * (m / 2) + 1 by omega]
    show s ++ rep s (2 * ((2 * (m / 2) + 1) / 2)) = rep s (2 * (m / 2) + 1)
    rw [show (2 * (m / 2) + 1) / 2 = m / 2 by omega]
    rfl
  · rw [if_neg h1, ← h, show 2 * (m / 2) = m by omega]
theorem l15Many_any (s : ByteArray) (n : Nat) (w : World) (hs : s.size ≤ 100) (hn : n ≤ 100) :
    Calls Tryz.prog 37 #[.string s, .int .i64 (n : Int)] w fun e w' => e = .returned (.string (rep s n)) ∧ w = w' := by
  obtain ⟨T, hT⟩ : ∃ T, rep s n = T := ⟨_, rfl⟩
  have HT := Lib.hid hT
  rw [hT]; clear hT
  go_enter Tryz.func37, Tryz.ntmps37
  go_wp2_with fail
  go_loop [0, 1, 5] (fun a b c => ∃ (t out : ByteArray) (m : Nat), a = .string t ∧ b = .int .i64 m ∧ c = .string out ∧ m ≤ 100 ∧ (0 < m → t.size ≤ 10000) ∧ out.size ≤ 10000 ∧ Hid (out ++ rep t m = T) ∧ Hid (T.size ≤ 10000)) (fun _ b _ => (intOf b).toNat)
  case atStart =>
    refine ⟨s, ByteArray.empty, n, rfl, rfl, rfl, hn, fun _ => by omega, by simp, ?_, ?_⟩
    · show ByteArray.empty ++ rep s n = T
      rw [nil_ba]; exact HT.out
    · show T.size ≤ 10000
      rw [← HT.out, rep_size]
      exact Nat.mul_le_mul hn hs
  case round =>
    obtain ⟨t, out, m, rfl, rfl, rfl, hm, ht, ho, HO, HZ⟩ := hrel
    by_cases h0 : 0 < m
    · have ht := ht h0
      have HS := Lib.hid (many_step out t T m HO.out)
      have HB : Hid (0 < m / 2 → (t ++ t).size ≤ 10000) := by
        intro h
        have h1 := congrArg ByteArray.size HO.out
        rw [ByteArray.size_append, rep_size] at h1
        have h2 := HZ.out
        have h3 : 2 * t.size ≤ m * t.size := Nat.mul_le_mul_right _ (by omega)
        rw [ByteArray.size_append]
        omega
      have HC : Hid (m % 2 = 1 → (out ++ t).size ≤ 10000) := by
        intro h
        have h1 := congrArg ByteArray.size HO.out
        rw [ByteArray.size_append, rep_size] at h1
        have h2 := HZ.out
        have h3 : 1 * t.size ≤ m * t.size := Nat.mul_le_mul_right _ (by omega)
        rw [ByteArray.size_append]
        omega
      by_cases h1 : m % 2 = 1
      · have e1 : ((m : Int) % 2 == 1) = true := by simp; omega
        have HC' := Lib.hid (HC.out h1)
        have HS' : Hid (out ++ t ++ rep (t ++ t) (m / 2) = T) := by
          have := HS.out
          rw [if_pos h1] at this
          exact this
        clear h1 HS HC
        go_wp2_with fail
        go_round
        case rel => exact ⟨t ++ t, out ++ t, m / 2, rfl, by go_num, rfl, by omega, HB.out, HC'.out, HS'.out, HZ.out⟩
        case measure => simp [intOf]; omega
      · have e1 : ((m : Int) % 2 == 1) = false := by simp; omega
        have HS' : Hid (out ++ rep (t ++ t) (m / 2) = T) := by
          have := HS.out
          rw [if_neg h1] at this
          exact this
        clear h1 HS HC
        go_wp2_with fail
        go_round
        case rel => exact ⟨t ++ t, out, m / 2, rfl, by go_num, rfl, by omega, HB.out, ho, HS'.out, HZ.out⟩
        case measure => simp [intOf]; omega
    · have hm0 : m = 0 := by omega
      subst hm0
      have HE : Hid (out = T) := by
        have h := HO.out
        show out = T
        simpa [rep, ba_nil] using h
      clear ht
      go_wp2_with fail
      go_ret
      exact ⟨by rw [← HE.out]; rfl, rfl⟩
theorem mod_beq (n x y : Nat) : (((x : Int) + 1) % (n : Int) == (y : Int)) = decide ((x + 1) % n = y) := by
  rw [show ((x : Int) + 1) = ((x + 1 : Nat) : Int) by omega, ← Int.natCast_emod]
  generalize (x + 1) % n = k
  rw [Bool.eq_iff_iff, beq_iff_eq, decide_eq_true_eq]
  omega
/-- Whether two places of a circle of n are next to each other. -/
def nextB (n x y : Nat) : Bool := decide ((x + 1) % n = y) || decide ((y + 1) % n = x)
theorem circle1_any (x : Nat) (W : World) : Calls Tryz.prog 33 (#[.int .i64 (x : Int)] ++ #[]) W fun e w' => e = .returned (.bool false) ∧ Below W.heap.size W w' := by
  show Calls Tryz.prog 33 #[.int .i64 (x : Int)] W _
  go_enter Tryz.func33, Tryz.ntmps33
  go_wp2_with fail
  go_ret
  exact ⟨rfl, Below.refl _ _⟩
theorem circle2_any (n x y : Nat) (p : Addr) (W : World) (hx : x < n) (hy : y < n) (hn : n ≤ 8) (hp : W.cell? p = some (.int .i64 (n : Int))) :
    Calls Tryz.prog 34 (#[.int .i64 (x : Int), .int .i64 (y : Int)] ++ #[.pointer (some p)]) W fun e w' => e = .returned (.bool (nextB n x y)) ∧ Below W.heap.size W w' := by
  show Calls Tryz.prog 34 #[.int .i64 (x : Int), .int .i64 (y : Int), .pointer (some p)] W _
  have hn0 : (0 : Int) < n := by omega
  by_cases h1 : (x + 1) % n = y
  · have e1 : (((x : Int) + 1) % (n : Int) == (y : Int)) = true := by rw [mod_beq]; simp [h1]
    have HR : Hid (nextB n x y = true) := by simp [Hid, nextB, h1]
    clear h1
    go_enter Tryz.func34, Tryz.ntmps34
    go_wp2_with fail
    go_ret
    exact ⟨ret_bool HR.out.symm, Below.refl _ _⟩
  · have e1 : (((x : Int) + 1) % (n : Int) == (y : Int)) = false := by rw [mod_beq]; simp [h1]
    by_cases h2 : (y + 1) % n = x
    · have e2 : (((y : Int) + 1) % (n : Int) == (x : Int)) = true := by rw [mod_beq]; simp [h2]
      have HR : Hid (nextB n x y = true) := by simp [Hid, nextB, h2]
      clear h1 h2
      go_enter Tryz.func34, Tryz.ntmps34
      go_wp2_with fail
      go_ret
      exact ⟨ret_bool HR.out.symm, Below.refl _ _⟩
    · have e2 : (((y : Int) + 1) % (n : Int) == (x : Int)) = false := by rw [mod_beq]; simp [h2]
      have HR : Hid (nextB n x y = false) := by simp [Hid, nextB, h1, h2]
      clear h1 h2
      go_enter Tryz.func34, Tryz.ntmps34
      go_wp2_with fail
      go_ret
      exact ⟨ret_bool HR.out.symm, Below.refl _ _⟩
def circleV (n : Nat) : Value := strV n (bitsOf (fun _ => false) n) (gridOf (nextB n) n)
theorem implCircle_any (n : Nat) (w : World) (hn : n ≤ 8) :
    Calls Tryz.prog 16 #[.int .i64 (n : Int)] w fun e w' => e = .returned (circleV n) ∧ Below w.heap.size w w' := by
  have hm := fun W k1 k2 hk1 hk2 h1 h2 => makeStructure_any n hn k1 k2 #[] #[.pointer (some ⟨w.heap.size, 0, none⟩)] (fun _ => false) (nextB n) W hk1 hk2 h1 h2
  have HM := Lib.hid hm; clear hm
  go_enter Tryz.func16, Tryz.ntmps16
  go_wp2_with fail
  refine (HM.out _ _ _ (fun _ _ => by kernel_rfl) (fun _ _ => by kernel_rfl) (fun x W hx _ => circle1_any x W) (fun x y W hx hy hb => circle2_any n x y _ W hx hy hn ?_)).mono ?_
  · rw [hb.cell (by simp; omega)]
    go_simp
  · rintro e w1 ⟨rfl, hb⟩
    have hB : Below w.heap.size w w1 := (((Below.refl _ _).alloc (Nat.le_refl _) _).alloc (by simp) _).trans (hb.mono (by simp; omega))
    have hR : SBlk w1 (w.heap.size + 1) 0 ByteArray.empty ByteArray.empty := by
      have h := SBlk.new (w.alloc (.cells #[.int .i64 (n : Int)] 3)) 0 ByteArray.empty ByteArray.empty
      have h := h.below hb (by simp)
      simpa using h
    have HB := Lib.hid hB
    have HR := Lib.hid hR
    clear hb hB HM
    obtain ⟨d0, d1, d2, g0, g1, g2, hb'⟩ := hR.cells
    clear hR
    unfold strV
    go_wp2_with fail
    refine bodyPost_ret (v := circleV n) ?_ rfl ⟨rfl, ?_⟩
    · exact results_str rfl rfl HR.out.set3
    · exact ((HB.out.setCell (by simp) _).setCell (by simp) _).setCell (by simp) _
theorem implCircleOf_any (k : Int) (w : World) :
    Calls Tryz.prog 7 #[.int .i64 k] w fun e w' => e = .returned (.tuple #[if inB k 3 8 then circleV k.toNat else strV 0 ByteArray.empty ByteArray.empty, .bool (inB k 3 8)]) ∧ Below w.heap.size w w' := by
  by_cases h3 : 3 ≤ k
  · by_cases h8 : k ≤ 8
    · rw [inB_true h3 h8, if_pos rfl]
      obtain ⟨n, rfl⟩ := Int.eq_ofNat_of_zero_le (show 0 ≤ k by omega)
      rw [Int.toNat_natCast]
      go_enter Tryz.func7, Tryz.ntmps7
      go_wp2_with fail
      refine (implCircle_any n _ (by omega)).mono ?_
      rintro e w1 ⟨rfl, hb⟩
      have hB : Below w.heap.size w w1 := ((Below.refl _ _).alloc (Nat.le_refl _) _).trans (hb.mono (by simp))
      have hR : SBlk w1 w.heap.size 0 ByteArray.empty ByteArray.empty := (SBlk.new w 0 ByteArray.empty ByteArray.empty).below hb (by simp)
      have HB := Lib.hid hB
      have HR := Lib.hid hR
      clear hb hB
      obtain ⟨d0, d1, d2, g0, g1, g2, hb'⟩ := hR.cells
      clear hR
      unfold circleV strV
      go_wp2_with fail
      refine bodyPost_ret (v := .tuple #[circleV n, .bool true]) ?_ rfl ⟨rfl, ?_⟩
      · exact results_str2 rfl rfl HR.out.set3 rfl
      · exact ((HB.out.setCell (by simp) _).setCell (by simp) _).setCell (by simp) _
    · rw [inB_hi h8, if_neg (by decide)]
      go_enter Tryz.func7, Tryz.ntmps7
      go_wp2_with fail
      refine bodyPost_ret (v := .tuple #[strV 0 ByteArray.empty ByteArray.empty, .bool false]) ?_ rfl ⟨rfl, ?_⟩
      · exact results_str2 rfl rfl (SBlk.new w 0 ByteArray.empty ByteArray.empty) rfl
      · exact (Below.refl _ _).alloc (Nat.le_refl _) _
  · rw [inB_lo h3, if_neg (by decide)]
    go_enter Tryz.func7, Tryz.ntmps7
    go_wp2_with fail
    refine bodyPost_ret (v := .tuple #[strV 0 ByteArray.empty ByteArray.empty, .bool false]) ?_ rfl ⟨rfl, ?_⟩
    · exact results_str2 rfl rfl (SBlk.new w 0 ByteArray.empty ByteArray.empty) rfl
    · exact (Below.refl _ _).alloc (Nat.le_refl _) _
end Go.Proofs.YtfhogenjpepfnaaGreatDoor

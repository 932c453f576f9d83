/- The walk of the law FnLengthSentence: it returns true. Condition: the bytes are readable. -/
import Derived.Test.YtenjojakjdaamaaDoorLong4
import Derived.Test.YtenjojakjdaamaaDoorLongT
import Derived.Test.YtenjojakjdaamaaDoorRank
import Derived.Test.YtenjojakjdaamaaDoorHolds
import Derived.Test.YtenjojakjdaamaaDoorOrderOf
import Derived.Test.YtenjojakjdaamaaDoorRd
namespace Go.Proofs.YtenjojakjdaamaaDoor
open Go.RowKit
set_option linter.unusedVariables false

theorem rowLenL {k : IntKind} {w : World} {a : Option Addr} {len cap : Nat} {zs : List Int} (h : IsRow k w a len cap zs) : len ≤ maxLen := by
  rcases h with ⟨_, h, _⟩ | ⟨_, _, h1, h2, _⟩
  · rw [h]; decide
  · omega
theorem oneAt_bitsL (f : Nat → Bool) (n x : Nat) (h : x < n) : oneAt (bitsOf f n) x = f x := by
  unfold oneAt bitsOf
  have e : ((List.range n).map fun i => bit (f i)).getD x 0 = bit (f x) := by simp [h]
  show (((List.range n).map fun i => bit (f i)).toArray.toList.getD x 0 == 49) = f x
  rw [List.toList_toArray, e]
  cases f x <;> rfl
theorem relAt_gridL (f : Nat → Nat → Bool) (n x y : Nat) (hx : x < n) (hy : y < n) : relAt n (gridOf f n) x y = f x y := by
  unfold relAt gridOf
  have h : (x + 1) * n ≤ n * n := Nat.mul_le_mul_right _ (by omega)
  rw [Nat.succ_mul] at h
  rw [oneAt_bitsL _ _ _ (by omega)]
  exact grid_at (r := f) hy
theorem y_listL : ∀ n : Nat, (rep ⟨#[121]⟩ n).data.toList = List.replicate n 121
  | 0 => by simp [rep]
  | n + 1 => by
    show ((⟨#[121]⟩ : ByteArray) ++ rep ⟨#[121]⟩ n).data.toList = _
    rw [ByteArray.data_append, Array.toList_append, y_listL n]
    rfl
theorem y_letL (n x : Nat) : letB (rep ⟨#[121]⟩ n) x = false := by
  unfold letB
  rw [y_listL, List.getD_eq_getElem?_getD, List.getElem?_replicate]
  split <;> rfl
/-- The order of a length, as OrderOf answers it. -/
theorem order_ok (m : Nat) (h1 : 1 ≤ m) (h8 : m ≤ 8) : ∃ S R, orderRes (m : Int) = .tuple #[strV m S R, .bool true] ∧ validB m S R = true ∧ Gs.Like (stOf m S R) (Gs.ord m) := by
  have hz := yrep_size m
  refine ⟨bitsOf (letB (rep ⟨#[121]⟩ m)) m, gridOf ltB m, ?_, valid_bits h1 h8 _ _, ⟨rfl, fun x (hx : x < m) => ?_, fun x y (hx : x < m) (hy : y < m) => ?_⟩⟩
  · unfold orderRes
    rw [inB_true (by omega) (by omega), if_pos rfl, Int.toNat_natCast]
    unfold orderV wordV
    rw [hz]
  · show oneAt (bitsOf (letB (rep ⟨#[121]⟩ m)) m) x = false
    rw [oneAt_bitsL _ _ _ hx, y_letL]
  · show relAt m (gridOf ltB m) x y = decide (x < y)
    rw [relAt_gridL _ _ _ _ hx hy]; rfl

/-- What is known of a sentence of a length. -/
structure LongOk (k : Nat) (f : ByteArray) (ρ : Nat) : Prop where
  size : f.size ≤ 1300
  rank : rankV f = (ρ : Int)
  r7 : ρ ≤ 7
  up : k < 2 ^ ρ
  zero : k = 0 → ρ = 0
  dn : 1 ≤ k → 1 ≤ ρ ∧ 2 ^ (ρ - 1) ≤ k
  hin : ∀ m S R, Gs.Like (stOf m S R) (Gs.ord m) → hin f (stOf m S R) = (decide (k ≤ m), true)
  tree : ∃ φ, readB f = some φ ∧ Fm.free φ = 0 ∧ Fm.vars φ < 8
theorem lt8_of {a : Nat} (h : a < 16) (h' : ∀ u : Fin 4, a.testBit u.val = true → u.val < 3) : a < 8 := by
  have : ∀ a : Fin 16, (∀ u : Fin 4, a.val.testBit u.val = true → u.val < 3) → a.val < 8 := by decide
  exact this ⟨a, h⟩ h'
theorem long_ok (k : Nat) (hk : k ≤ 100) : ∃ ρ, LongOk k (longP k ByteArray.empty ByteArray.empty) ρ := by
  have hz := (longP_size k ByteArray.empty ByteArray.empty (by decide) (by decide)).1
  have ht : (longP k ByteArray.empty ByteArray.empty).data.toList = Fm.text (Fm.longT k none none) := long_text k none none
  have hr : readB (longP k ByteArray.empty ByteArray.empty) = some (Fm.longT k none none) := by
    unfold readB
    exact Fm.read_iff.2 ⟨ht, by simp; omega⟩
  obtain ⟨r0, r1, r2⟩ := long_rank k none none
  have h0 := long_free k
  refine ⟨Fm.rank (Fm.longT k none none), by omega, by unfold rankV; rw [hr], ?_, r1, r0, r2, fun m S R hl => ?_, Fm.longT k none none, hr, h0, lt8_of (Fm.vars_lt _) fun u hu => ?_⟩
  · by_cases hk0 : k = 0
    · rw [r0 hk0]; omega
    · have := (r2 (by omega)).2
      apply Decidable.byContradiction
      intro h7
      have := Nat.pow_le_pow_right (n := 2) (by omega) (show 7 ≤ Fm.rank (Fm.longT k none none) - 1 by omega)
      omega
  · unfold Go.Proofs.YtenjojakjdaamaaDoor.hin
    rw [hr]
    simp only [h0, if_true]
    rw [Fm.holds_like hl _ (fun u hu => by rw [h0] at hu; simp at hu), long_true]
  · rcases (long_vars k none none u).2 hu with h | h | h
    · cases h
    · cases h
    · exact h

theorem ex1L {s : ByteArray} {k : Nat} (h : k < s.size) : (s.extract k (k + 1)).size = 1 := by simp; omega
set_option maxRecDepth 100000 in
theorem varsText_any (s : Nat) (hs : s < 8) (w : World) : Calls Tryd.prog 117 #[.int .i64 (s : Int)] w fun e w' => (∃ t : ByteArray, t.size ≤ 3 ∧ (s = 0 → t = ⟨#[]⟩) ∧ e = .returned (.string t)) ∧ w' = w := by
  go_enter Tryd.func117, Tryd.ntmps117
  go_wp2_with fail
  go_loop [5, 3] (fun q v => ∃ i : Nat, i ≤ 4 ∧ q = .int .i64 (i : Int) ∧ ∃ t : ByteArray, t.size ≤ i ∧ t.size ≤ 3 ∧ (s = 0 → t = ⟨#[]⟩) ∧ v = .string t) (fun q _ => 4 - (intOf q).toNat)
  case atStart => exact ⟨0, by omega, rfl, _, Nat.le_refl _, by decide, fun _ => rfl, rfl⟩
  case round =>
    obtain ⟨i, hi, rfl, t, ht, ht3, h0, rfl⟩ := hrel
    by_cases h4 : i < 4
    · have hx : ((⟨#[97, 98, 99, 100]⟩ : ByteArray).extract i (i + 1)).size = 1 := ex1L (s := ⟨#[97, 98, 99, 100]⟩) h4
      have H0 := Lib.hid h0
      clear h0
      obtain ⟨j, hj⟩ : ∃ j, j = i + 1 := ⟨_, rfl⟩
      have b0 : (bits BinOp.and IntKind.i64 0 1 == 1) = false := by decide
      have b1 : (bits BinOp.and IntKind.i64 1 1 == 1) = true := by decide
      have b2 : (bits BinOp.and IntKind.i64 2 1 == 1) = false := by decide
      have b3 : (bits BinOp.and IntKind.i64 3 1 == 1) = true := by decide
      have b4 : (bits BinOp.and IntKind.i64 4 1 == 1) = false := by decide
      have b5 : (bits BinOp.and IntKind.i64 5 1 == 1) = true := by decide
      have b6 : (bits BinOp.and IntKind.i64 6 1 == 1) = false := by decide
      have b7 : (bits BinOp.and IntKind.i64 7 1 == 1) = true := by decide
      rcases (by omega : s = 0 ∨ s = 1 ∨ s = 2 ∨ s = 3 ∨ s = 4 ∨ s = 5 ∨ s = 6 ∨ s = 7) with rfl | rfl | rfl | rfl | rfl | rfl | rfl | rfl <;>
      rcases (by omega : i = 0 ∨ i = 1 ∨ i = 2 ∨ i = 3) with rfl | rfl | rfl | rfl
      all_goals
        go_wp2_with fail
        go_round
        case rel =>
          first
          | exact ⟨j, by omega, by subst hj; rfl, t, by omega, ht3, (by first | exact fun _ => H0.out rfl | simp), rfl⟩
          | exact ⟨j, by omega, by subst hj; rfl, _, by rw [ByteArray.size_append, hx]; omega, by rw [ByteArray.size_append, hx]; omega, by simp, rfl⟩
        case measure => simp [intOf]
    · obtain rfl : i = 4 := by omega
      have H0 := Lib.hid h0
      clear h0
      go_wp2_with fail
      go_ret
      exact ⟨⟨t, ht3, H0.out, rfl⟩, rfl⟩
theorem implFreeVars_none (f : ByteArray) (φ : Fm.T) (hr : readB f = some φ) (h0 : Fm.free φ = 0) (hf : f.size ≤ 9223372036854775807) (w : World) :
    Calls Tryd.prog 49 #[.string f] w fun e w' => e = .returned (.string ⟨#[]⟩) ∧ Below w.heap.size w w' := by
  have HP := Lib.hid (fun w => parseFormula_any f w hf)
  rw [hr] at HP
  have HV := Lib.hid (fun w => varsText_any 0 (by omega) w)
  clear hr
  go_enter Tryd.func49, Tryd.ntmps49
  go_wp2_with fail
  refine (HP.out _).mono ?_; rintro e w1 ⟨hb, ⟨h, _⟩ | ⟨φ', p, h, rfl, ht⟩⟩
  · cases h
  · obtain rfl := Option.some.inj h
    have HB := Lib.hid hb; clear hb h
    obtain ⟨v, u, qs, nd, _⟩ := ht.node
    have c3 := nd.cells.2.2.2.1
    rw [h0] at c3
    clear nd ht
    unfold ptrV
    go_wp2_with fail
    refine (HV.out _).mono ?_; rintro _ w2 ⟨⟨t, _, ht0, rfl⟩, hw2⟩; rw [hw2]; clear hw2 w2
    have HT : Hid (t = ⟨#[]⟩) := ht0 (by trivial)
    clear ht0
    go_wp2_with fail
    go_ret
    refine ⟨?_, HB.out⟩
    rw [HT.out]; rfl
theorem implWidth_3 (f : ByteArray) (φ : Fm.T) (hr : readB f = some φ) (h8 : Fm.vars φ < 8) (hf : f.size ≤ 9223372036854775807) (w : World) :
    Calls Tryd.prog 50 #[.string f] w fun e w' => ∃ z : Nat, z ≤ 3 ∧ e = .returned (.int .i64 (z : Int)) ∧ Below w.heap.size w w' := by
  have HP := Lib.hid (fun w => parseFormula_any f w hf)
  rw [hr] at HP
  have HV := Lib.hid (fun w => varsText_any (Fm.vars φ) h8 w)
  clear hr
  go_enter Tryd.func50, Tryd.ntmps50
  go_wp2_with fail
  refine (HP.out _).mono ?_; rintro e w1 ⟨hb, ⟨h, _⟩ | ⟨φ', p, h, rfl, ht⟩⟩
  · cases h
  · obtain rfl := Option.some.inj h
    have HB := Lib.hid hb; clear hb h
    obtain ⟨v, u, qs, nd, _⟩ := ht.node
    have c4 := nd.cells.2.2.2.2
    clear nd ht
    generalize Fm.vars φ = s at *
    unfold ptrV
    go_wp2_with fail
    refine (HV.out _).mono ?_; rintro _ w2 ⟨⟨t, ht, _, rfl⟩, hw2⟩; rw [hw2]; clear hw2 w2
    go_wp2_with fail
    go_ret
    exact ⟨t.size, ht, rfl, HB.out⟩

theorem below_gL {w0 w w' : World} {b : Nat} (h : Below b w0 w) (hb : b ≤ w.heap.size) (hg : w.grownBy w' (some b)) : Below b w0 w' :=
  h.grown hg hb (by intro k hk; cases hk; omega)
theorem DrawLength_any (w : World) (a : Option Addr) (len cap : Nat) (zs : List Int) (h : IsRow .u8 w a len cap zs) :
    Calls Tryd.prog 45 #[.slice a len cap] w fun e w' => ∃ n : Int, (n = -1 ∨ n = 101 ∨ 0 ≤ n ∧ n ≤ 100) ∧ e = .returned (.int .i64 n) ∧ Below w.heap.size w w' := by
  have H := Lib.hid h; clear h
  go_enter Tryd.func45, Tryd.ntmps45
  go_wp2_with fail
  refine (l15Open_any _ _ _ _ _ H.out).mono ?_; rintro e w1 ⟨rfl, hr, hb, hs⟩
  have HR := Lib.hid hr; have HB := Lib.hid hb; clear hr hb hs
  generalize hB : w.heap.size = B at *
  have HW := Lib.hid hB; clear hB
  go_wp2_with fail
  refine (pickB _ B _ 12 HR.out (by omega) (by omega) (by omega)).mono ?_; rintro e w2 ⟨v, rfl, v0, v1, hr, hg⟩
  have HR2 := Lib.hid hr
  have HB2 : Hid (Below B w w2) := below_gL HB.out (by have := HR.out.block; omega) hg
  clear hr hg
  by_cases hv : v = 0
  · subst hv
    go_wp2_with fail
    refine (num_list _ B _ [-1, 100, 101] _ HR2.out (by omega) (by decide) (by decide)).mono ?_; rintro e w3 ⟨n, hn, rfl, hr, hg⟩
    have HB3 : Hid (Below B w w3) := below_gL HB2.out (by have := HR2.out.block; omega) hg
    clear hr hg
    go_wp2_with fail
    go_ret
    refine ⟨n, ?_, rfl, by rw [HW.out]; exact HB3.out⟩
    simp at hn
    omega
  · have hv' : (v == 0) = false := by simp [hv]
    go_wp2_with fail
    refine (pickB _ B _ 10 HR2.out (by omega) (by omega) (by omega)).mono ?_; rintro e w3 ⟨n, rfl, n0, n1, hr, hg⟩
    have HB3 : Hid (Below B w w3) := below_gL HB2.out (by have := HR2.out.block; omega) hg
    clear hr hg
    go_wp2_with fail
    go_ret
    exact ⟨n, by omega, rfl, by rw [HW.out]; exact HB3.out⟩
theorem ordersL {n m r : Int} {b : Bool} (w : World) (h : ordersB n m r = b) : Calls Tryd.prog 42 #[.int .i64 n, .int .i64 m, .int .i64 r] w fun e w' => e = .returned (.bool b) ∧ w' = w :=
  (implOrdersAlike_any n m r w).mono fun e w' ⟨h1, h2⟩ => ⟨by rw [h1, h], h2.symm⟩
theorem orders_dn {k ρ : Nat} (hk : k ≤ 100) (h1 : 1 ≤ k) (hr : 1 ≤ ρ) (h7 : ρ ≤ 7) (h : 2 ^ (ρ - 1) ≤ k) : ordersB ((k : Int) - 1) (k : Int) ((ρ : Int) - 1) = true := by
  have e : ((ρ : Int) - 1) = ((ρ - 1 : Nat) : Int) := by omega
  have hp : (2 : Int) ^ (ρ - 1) = ((2 ^ (ρ - 1) : Nat) : Int) := by rw [Int.natCast_pow]; rfl
  simp only [ordersB, readyB, alikeB, Bool.and_eq_true, inB_iff, Bool.or_eq_true, decide_eq_true_eq]
  unfold enough
  rw [e, Int.toNat_natCast, hp]
  omega
theorem orders_up {k ρ : Nat} (h : k < 2 ^ ρ) : ordersB ((k : Int) - 1) (k : Int) (ρ : Int) = false := by
  have hp : (2 : Int) ^ ρ = ((2 ^ ρ : Nat) : Int) := by rw [Int.natCast_pow]; rfl
  rw [← Bool.not_eq_true]
  simp only [ordersB, readyB, alikeB, Bool.and_eq_true, inB_iff, Bool.or_eq_true, decide_eq_true_eq]
  unfold enough
  rw [Int.toNat_natCast, hp]
  omega

set_option maxRecDepth 100000 in
set_option maxHeartbeats 2000000 in
theorem fnLengthSentence_walk (a0 : Option Addr) (len0 cap0 : Nat) (z0 : List Int) (w : World) (w0 : IsRow .u8 w a0 len0 cap0 z0) :
    Calls Tryd.prog 8 #[.slice a0 len0 cap0] w fun e w' => e = .returned (.bool true) ∧ Below w.heap.size w w' := by
  have m0 := rowLenL w0
  unfold maxLen at m0
  have W0 := Lib.hid w0; clear w0
  by_cases l0 : (len0 : Int) ≤ 1048576
  · go_enter Tryd.func8, Tryd.ntmps8
    go_wp2_with fail
    refine (DrawLength_any _ _ _ _ _ W0.out).mono ?_; rintro e w1 ⟨n, hn, rfl, hb⟩
    have HB1 := Lib.hid hb; clear hb
    have HI := Lib.hid (fun W => implLength_any n W)
    have HS := Lib.hid (fun W => specLength_any n W)
    unfold lengthRes at HI HS
    by_cases hin : 0 ≤ n ∧ n ≤ 100
    · obtain ⟨n0, n1⟩ := hin
      rw [inB_true n0 n1] at HI HS
      obtain ⟨k, rfl⟩ := Int.eq_ofNat_of_zero_le n0
      rw [Int.toNat_natCast, if_pos rfl] at HI HS
      obtain ⟨ρ, hL⟩ := long_ok k (by omega)
      generalize longP k ByteArray.empty ByteArray.empty = f at *
      have hfz := hL.size
      obtain ⟨φ, hr, hfr, hva⟩ := hL.tree
      have HR := Lib.hid (fun W => RankOf_any f W (by omega))
      rw [hL.rank] at HR
      have HFV := Lib.hid (fun W => implFreeVars_none f φ hr hfr (by omega) W)
      have HWD := Lib.hid (fun W => implWidth_3 f φ hr hva (by omega) W)
      have HH := Lib.hid (fun (m : Nat) S R (hv : validB m S R = true) (hl : Gs.Like (stOf m S R) (Gs.ord m)) W => by
        have := implHoldsIn_any f (by omega) m S R hv W
        rw [hL.hin m S R hl] at this
        exact this)
      have HLL := Lib.hid hL
      clear hL hr hfr hva hfz hn
      go_wp2_with fail
      refine (HI.out _).mono ?_; rintro e w2 ⟨rfl, hb⟩
      have HB2 := Lib.hid (HB1.out.trans (hb.mono HB1.out.size)); clear hb
      go_wp2_with fail
      refine (HS.out _).mono ?_; rintro e w3 ⟨rfl, hb⟩
      have HB3 := Lib.hid (HB2.out.trans (hb.mono HB2.out.size)); clear hb HI HS HB1 HB2
      go_wp2_with fail
      go_loopw [8] (fun q wr => ∃ m : Nat, 1 ≤ m ∧ m ≤ 9 ∧ q = .int .i64 (m : Int) ∧ Hid (Below w.heap.size w wr)) (fun q _ => 9 - (intOf q).toNat)
      case atStart => exact ⟨1, by omega, by omega, rfl, HB3.out⟩
      case round =>
        obtain ⟨m, h1, h9, rfl, HBW⟩ := hrel
        clear HB3
        have hcase : (m ≤ 8 ∧ k ≤ 12) ∨ (m = 9 ∨ m ≤ 8 ∧ 12 < k) := by omega
        rcases hcase with ⟨h8, h12⟩ | hend
        · have h8I : (m : Int) ≤ 8 := by omega
          have h12I : (k : Int) ≤ 12 := by omega
          obtain ⟨S, R, e1, hv, hl⟩ := order_ok m h1 h8
          have HO := Lib.hid (fun W => implOrderOf_any (m : Int) W)
          rw [e1] at HO
          have HHM := Lib.hid (HH.out m S R hv hl)
          unfold strV at HO HHM
          clear e1 hv hl HH HR HFV HWD HLL
          by_cases hle : k ≤ m
          · have hd : decide (k ≤ m) = true := decide_eq_true hle
            have hleI : (k : Int) ≤ (m : Int) := by omega
            rw [hd] at HHM
            go_wp2_with fail
            refine (HO.out _).mono ?_; rintro e w4 ⟨rfl, hb⟩
            have HB4 : Hid (Below w.heap.size w (w4.alloc (.cells #[.int .i64 (m : Int), .string S, .string R] 38))) := (HBW.out.trans (hb.mono HBW.out.size)).alloc (HBW.out.trans (hb.mono HBW.out.size)).size _
            clear hb
            go_wp2_with fail
            refine (HHM.out _).mono ?_; rintro e w5 ⟨rfl, hb⟩
            have HB5 := Lib.hid (HB4.out.trans (hb.mono HB4.out.size)); clear hb
            go_wp2_with fail
            go_roundw
            case rel => exact ⟨m + 1, by omega, by omega, by go_num, HB5.out⟩
            case measure => simp [intOf]; omega
          · have hd : decide (k ≤ m) = false := decide_eq_false hle
            have hleI : (m : Int) < (k : Int) := by omega
            rw [hd] at HHM
            go_wp2_with fail
            refine (HO.out _).mono ?_; rintro e w4 ⟨rfl, hb⟩
            have HB4 : Hid (Below w.heap.size w (w4.alloc (.cells #[.int .i64 (m : Int), .string S, .string R] 38))) := (HBW.out.trans (hb.mono HBW.out.size)).alloc (HBW.out.trans (hb.mono HBW.out.size)).size _
            clear hb
            go_wp2_with fail
            refine (HHM.out _).mono ?_; rintro e w5 ⟨rfl, hb⟩
            have HB5 := Lib.hid (HB4.out.trans (hb.mono HB4.out.size)); clear hb
            go_wp2_with fail
            go_roundw
            case rel => exact ⟨m + 1, by omega, by omega, by go_num, HB5.out⟩
            case measure => simp [intOf]; omega
        · clear HH
          have r7 := HLL.out.r7
          have rup := HLL.out.up
          rcases Nat.eq_zero_or_pos k with rfl | hk1
          · obtain rfl := HLL.out.zero rfl
            clear HLL rup
            obtain rfl : m = 9 := by omega
            clear hend
            go_wp2_with fail
            refine (HR.out _).mono ?_; rintro e w4 ⟨rfl, hb⟩
            have HB4 := Lib.hid (HBW.out.trans (hb.mono HBW.out.size)); clear hb
            go_wp2_with fail
            refine (HFV.out _).mono ?_; rintro e w5 ⟨rfl, hb⟩
            have HB5 := Lib.hid (HB4.out.trans (hb.mono HB4.out.size)); clear hb
            go_wp2_with fail
            refine (HWD.out _).mono ?_; rintro e w6 ⟨z, hz, rfl, hb⟩
            have HB6 := Lib.hid (HB5.out.trans (hb.mono HB5.out.size)); clear hb
            have hzI : (z : Int) ≤ 3 := by omega
            go_wp2_with fail
            go_ret
            exact ⟨rfl, HB6.out⟩
          · obtain ⟨r1, rdn⟩ := HLL.out.dn hk1
            have HO1 := Lib.hid (fun W => ordersL W (orders_dn (k := k) (ρ := ρ) (by omega) hk1 r1 r7 rdn))
            have HO2 := Lib.hid (fun W => ordersL W (orders_up (k := k) (ρ := ρ) rup))
            have hk1I : ¬ (k : Int) < 1 := by omega
            have hk0 : ((k : Int) == 0) = false := by simp; omega
            clear HLL
            have hend' : m = 9 ∨ (m : Int) ≤ 8 ∧ (12 : Int) < (k : Int) := by omega
            clear hend
            rcases (by omega : ρ = 1 ∨ ρ = 2 ∨ ρ = 3 ∨ ρ = 4 ∨ ρ = 5 ∨ ρ = 6 ∨ ρ = 7) with rfl | rfl | rfl | rfl | rfl | rfl | rfl <;>
            rcases hend' with rfl | ⟨h8I, h12I⟩
            all_goals
              simp only [Nat.reducePow, Nat.reduceSub] at rup rdn
              have rupI : (k : Int) < _ := Int.ofNat_lt.2 rup
              have rdnI : _ ≤ (k : Int) := Int.ofNat_le.2 rdn
              clear rup rdn r1 r7 hk1
              first
              | (exfalso; omega)
              | (go_wp2_with fail
                 refine (HR.out _).mono ?_; rintro e w4 ⟨rfl, hb⟩
                 have HB4 := Lib.hid (HBW.out.trans (hb.mono HBW.out.size)); clear hb
                 go_wp2_with fail
                 refine (HFV.out _).mono ?_; rintro e w5 ⟨rfl, hb⟩
                 have HB5 := Lib.hid (HB4.out.trans (hb.mono HB4.out.size)); clear hb
                 go_wp2_with fail
                 refine (HWD.out _).mono ?_; rintro e w6 ⟨z, hz, rfl, hb⟩
                 have HB6 := Lib.hid (HB5.out.trans (hb.mono HB5.out.size)); clear hb
                 have hzI : (z : Int) ≤ 3 := by omega
                 go_wp2_with fail
                 refine (HO1.out _).mono ?_; rintro _ w7 ⟨rfl, hw2⟩; rw [hw2]; clear hw2 w7
                 go_wp2_with fail
                 refine (HO2.out _).mono ?_; rintro _ w7 ⟨rfl, hw2⟩; rw [hw2]; clear hw2 w7
                 go_wp2_with fail
                 go_ret
                 exact ⟨rfl, HB6.out⟩)
    · have hib : inB n 0 100 = false := by
        rw [← Bool.not_eq_true, inB_iff]; exact hin
      rw [hib] at HI HS
      clear hin hib hn
      go_wp2_with fail
      refine (HI.out _).mono ?_; rintro e w2 ⟨rfl, hb⟩
      have HB2 := Lib.hid (HB1.out.trans (hb.mono HB1.out.size)); clear hb
      go_wp2_with fail
      refine (HS.out _).mono ?_; rintro e w3 ⟨rfl, hb⟩
      have HB3 := Lib.hid (HB2.out.trans (hb.mono HB2.out.size)); clear hb HI HS
      go_wp2_with fail
      go_ret
      exact ⟨rfl, HB3.out⟩
  · go_enter Tryd.func8, Tryd.ntmps8
    go_wp2_with fail
    go_ret
    exact ⟨rfl, Below.refl _ _⟩
end Go.Proofs.YtenjojakjdaamaaDoor

/- Contracts of the program's functions and what they compute: part 31. Conditions: those that each theorem states. -/
import Derived.Test.YtfhogenjpepfnaaGreatDoorP51n17
import Derived.Test.YtfhogenjpepfnaaGreatDoorP51n30
namespace Go.Proofs.YtfhogenjpepfnaaGreatDoor
open Go.RowKit
set_option linter.unusedVariables false
set_option maxRecDepth 100000
/-- Whether an element is within a distance. -/
def inBall (D : List Int) (k y : Nat) : Bool := decide (0 ≤ D.getD y 0) && decide (D.getD y 0 ≤ (k : Int))
/-- The elements within a distance, of the first ones. -/
def ballL (D : List Int) (k : Nat) : Nat → List Nat
  | 0 => []
  | y + 1 => if inBall D k y = true then ballL D k y ++ [y] else ballL D k y
theorem ballL_len (D : List Int) (k : Nat) : ∀ y, (ballL D k y).length ≤ y
  | 0 => Nat.le_refl _
  | y + 1 => by
    have := ballL_len D k y
    unfold ballL
    split
    · simp; omega
    · omega
theorem ballL_lt (D : List Int) (k : Nat) : ∀ y, ∀ z ∈ ballL D k y, z < y
  | 0, z, h => by cases h
  | y + 1, z, h => by
    have ih := ballL_lt D k y
    unfold ballL at h
    split at h
    · rcases List.mem_append.1 h with h | h
      · have := ih z h; omega
      · rw [List.mem_singleton.1 h]; omega
    · have := ih z h; omega
/-- What the loop of ballOf keeps: distances, and the own list. -/
structure Bl (w : World) (n g : Nat) (D : List Int) (o : Value) (L : List Nat) (wr : World) : Prop where
  own : Own (w.heap.size + 1) wr o L
  cells : ∀ j, j < n → wr.cell? ⟨g, j, none⟩ = some (.int .i64 (D.getD j 0))
  lt : g < wr.heap.size
  ne : o.ownBlock ≠ some g
  old : Below w.heap.size w wr
theorem Bl.push {w wr w' : World} {n g : Nat} {D : List Int} {o o' : Value} {L L' : List Nat} (h : Bl w n g D o L wr) (ho : Own (w.heap.size + 1) w' o' L') (hg : wr.grownBy w' o.ownBlock) (hat : o'.ownBlock = o.ownBlock ∨ ∃ k, o'.ownBlock = some k ∧ wr.heap.size ≤ k) : Bl w n g D o' L' w' := by
  refine ⟨ho, fun j hj => (World.cell?_of_block (hg.block g h.lt (Ne.symm h.ne))).trans (h.cells j hj), Nat.lt_of_lt_of_le h.lt hg.size, ?_, h.old.grown hg h.old.size (fun k hk => by have := (h.own.own.lt k hk).1; omega)⟩
  rcases hat with e | ⟨k, e, hk⟩
  · rw [e]; exact h.ne
  · rw [e]; intro e2; injection e2 with e2; have := h.lt; omega
set_option maxHeartbeats 2000000 in
theorem ballOf_any (n : Nat) (S R : ByteArray) (x k : Nat) (hn : n ≤ 8) (hR : R.size = n * n) (hx : x < n) (hk : k ≤ 100) (w : World) :
    Calls Tryz.prog 61 #[strV n S R, .int .i64 (x : Int), .int .i64 (k : Int)] w (ListO (ballL (distL n R x) k n) w) := by
  have HD := Lib.hid (fun w => distancesFrom_any n S R x hn hR hx w)
  have hlen : (distL n R x).length = n := distL_len n R x
  obtain ⟨D, hD⟩ : ∃ D, distL n R x = D := ⟨_, rfl⟩
  rw [hD] at HD hlen ⊢
  obtain ⟨W, hW⟩ : ∃ W, boxS w n S R = W := ⟨_, rfl⟩
  have hz : W.heap.size = w.heap.size + 1 := by rw [← hW]; exact boxS_size _ _ _ _
  have HP0 : Hid (SBlk (W.alloc (.cells #[] 3)) w.heap.size n S R ∧ Own (w.heap.size + 1) (W.alloc (.cells #[] 3)) (.slice (some ⟨W.heap.size, 0, none⟩) 0 0) [] ∧ Below w.heap.size w (W.alloc (.cells #[] 3))) := by
    have hX : SBlk W w.heap.size n S R := by rw [← hW]; exact boxS_SBlk _ _ _ _
    have hB : Below w.heap.size w W := by rw [← hW]; exact boxS_below _ _ _ _
    exact ⟨hX.below ((Below.refl _ _).alloc (Nat.le_refl _) _) (by omega), by rw [← hz]; exact Own.lit0 _ W (Nat.le_refl _), hB.alloc hB.size _⟩
  have HZ := Lib.hid hz
  unfold boxS at hW
  have HW := Lib.hid hW
  clear hW hR hD hz
  unfold strV at HD
  unfold strV
  go_enter Tryz.func61, Tryz.ntmps61
  go_upto_region 1 with fail
  rw [HW.out]
  obtain ⟨c0, c1, c2, f0, f1, f2, hl⟩ := HP0.out.1.cells
  go_wp2_with fail
  refine (HD.out _).mono ?_; rintro e w2 ⟨v, rfl, ho, hb⟩
  obtain ⟨g, cap, rfl, hg1, hg2, hc1, hc2, hc⟩ := ho.cells
  have HB : Hid (Bl w n g D (.slice (some ⟨W.heap.size, 0, none⟩) 0 0) (ballL D k 0) w2) :=
    ⟨HP0.out.2.1.below hb, fun j hj => hc j (by omega), hg2, by
      intro e; injection e with e
      have e : W.heap.size = g := e
      have : (W.alloc (.cells #[] 3)).heap.size = W.heap.size + 1 := by simp
      omega, HP0.out.2.2.trans (hb.mono HP0.out.2.2.size)⟩
  rw [hlen] at hc1 ⊢
  unfold maxLen at hc2
  clear ho hb hg1 hg2 hc c0 c1 c2 f0 f1 f2 hl HP0 HW HD hlen
  generalize W.heap.size = b0 at *
  go_wp2_with fail
  go_loopw [15, 7, 8, 9] (fun q o p d wr => ∃ y : Nat, y ≤ n ∧ q = .int .i64 (y : Int) ∧ Hid (Bl w n g D o (ballL D k y) wr)) (fun q _ _ _ _ => n - (intOf q).toNat)
  case atStart => exact ⟨0, by omega, rfl, HB.out⟩
  case round =>
    clear HB
    obtain ⟨y, hy, rfl, HP1⟩ := hrel
    by_cases hlt : y < n
    · have hyI : (y : Int) < (n : Int) := by omega
      have HYES : Hid (inBall D k y = true → ballL D k (y + 1) = ballL D k y ++ [y]) := fun h => by rw [ballL, if_pos h]
      have HNO : Hid (inBall D k y = false → ballL D k (y + 1) = ballL D k y) := fun h => by rw [ballL, if_neg (by rw [h]; simp)]
      have d1 := HP1.out.cells y hlt
      have HLL : Hid ((ballL D k y).length ≤ 2000000) := by have := ballL_len D k y; show _ ≤ _; omega
      obtain ⟨z, hzd⟩ : ∃ z, D.getD y 0 = z := ⟨_, rfl⟩
      unfold inBall at HYES HNO
      rw [hzd] at d1 HYES HNO
      clear hzd
      by_cases h0 : 0 ≤ z
      · by_cases h1 : z ≤ (k : Int)
        · have HY := Lib.hid (HYES.out (by simp [h0, h1]))
          clear HYES HNO
          have h0B : decide (0 ≤ z) = true := decide_eq_true h0
          have h1B : decide (z ≤ (k : Int)) = true := decide_eq_true h1
          go_wp2_with (first | (at_builtin; refine wpList_own1at HP1.out.own HLL.out rfl (.tmp 27) (.tmp 29) rfl y _ rfl rfl rfl ?_; intro v' w' ho hg hat; have HP9 := Lib.hid (HP1.out.push ho hg hat); clear ho hg hat) | fail)
          go_roundw
          case rel => exact ⟨y + 1, by omega, by go_num, by rw [HY.out]; exact HP9.out⟩
          case measure => simp [intOf]; omega
        · have HY := Lib.hid (HNO.out (by simp [h1]))
          clear HYES HNO
          have h0B : decide (0 ≤ z) = true := decide_eq_true h0
          have h1B : decide (z ≤ (k : Int)) = false := decide_eq_false h1
          go_wp2_with fail
          go_roundw
          case rel => exact ⟨y + 1, by omega, by go_num, by rw [HY.out]; exact HP1.out⟩
          case measure => simp [intOf]; omega
      · have HY := Lib.hid (HNO.out (by simp [h0]))
        clear HYES HNO
        have h0B : decide (0 ≤ z) = false := decide_eq_false h0
        go_wp2_with fail
        go_roundw
        case rel => exact ⟨y + 1, by omega, by go_num, by rw [HY.out]; exact HP1.out⟩
        case measure => simp [intOf]; omega
    · obtain rfl : y = n := by omega
      have HF : Hid (ListO (ballL D k y) w (.returned u7) wr) := ⟨_, rfl, HP1.out.own.monoN (by omega), HP1.out.old⟩
      go_wp2_with fail
      go_ret
      exact HF.out
/-- The elements other than one. -/
def butL (x : Nat) (B : List Nat) : List Nat := B.filter fun y => decide (y ≠ x)
/-- A ball's elements, its middle first. -/
def aroL (n : Nat) (R : ByteArray) (x k : Nat) : List Nat := x :: butL x (ballL (distL n R x) k n)
theorem butL_take (x : Nat) (B : List Nat) (j : Nat) (hj : j < B.length) : butL x (B.take (j + 1)) = if B.getD j 0 = x then butL x (B.take j) else butL x (B.take j) ++ [B.getD j 0] := by
  unfold butL
  rw [List.take_add_one, List.getElem?_eq_getElem hj, Option.toList_some, List.filter_append, List.getD_eq_getElem?_getD, List.getElem?_eq_getElem hj]
  simp only [Option.getD_some]
  split
  · rename_i h; simp [h]
  · rename_i h; simp [h]
theorem butL_len (x : Nat) (B : List Nat) : (butL x B).length ≤ B.length := List.length_filter_le _ _
/-- What the loop of aroundOf keeps. -/
structure Ar (w : World) (n : Nat) (S R : ByteArray) (g : Nat) (B : List Nat) (o : Value) (L : List Nat) (wr : World) : Prop where
  a : SBlk wr w.heap.size n S R
  res : SBlk wr (w.heap.size + 1) 0 ByteArray.empty ByteArray.empty
  own : Own (w.heap.size + 2) wr o L
  cells : ∀ j, j < B.length → wr.cell? ⟨g, j, none⟩ = some (.int .i64 ((B.getD j 0 : Nat) : Int))
  lt : g < wr.heap.size
  ne : o.ownBlock ≠ some g
  old : Below w.heap.size w wr
theorem Ar.push {w wr w' : World} {n g : Nat} {S R : ByteArray} {B : List Nat} {o o' : Value} {L L' : List Nat} (h : Ar w n S R g B o L wr) (ho : Own (w.heap.size + 2) w' o' L') (hg : wr.grownBy w' o.ownBlock) (hat : o'.ownBlock = o.ownBlock ∨ ∃ k, o'.ownBlock = some k ∧ wr.heap.size ≤ k) : Ar w n S R g B o' L' w' := by
  have hl := fun k (hk : o.ownBlock = some k) => (h.own.own.lt k hk).1
  refine ⟨(hg.block _ h.a.cells.2.2.2.2.2.2 (fun e => by have := hl _ e.symm; omega)).trans h.a, (hg.block _ h.res.cells.2.2.2.2.2.2 (fun e => by have := hl _ e.symm; omega)).trans h.res, ho, fun j hj => (World.cell?_of_block (hg.block g h.lt (Ne.symm h.ne))).trans (h.cells j hj), Nat.lt_of_lt_of_le h.lt hg.size, ?_, h.old.grown hg h.old.size (fun k hk => by have := (h.own.own.lt k hk).1; omega)⟩
  rcases hat with e | ⟨k, e, hk⟩
  · rw [e]; exact h.ne
  · rw [e]; intro e2; injection e2 with e2; have := h.lt; omega
theorem ballL_nodup (D : List Int) (k : Nat) : ∀ y, (ballL D k y).Nodup
  | 0 => List.nodup_nil
  | y + 1 => by
    have ih := ballL_nodup D k y
    unfold ballL
    split
    · refine List.nodup_append.2 ⟨ih, by simp, fun a ha b hb e => ?_⟩
      rw [List.mem_singleton] at hb
      have := ballL_lt D k y a ha
      omega
    · exact ih
theorem aroL_lt {n : Nat} {R : ByteArray} {x k : Nat} (hx : x < n) : ∀ z ∈ aroL n R x k, z < n := by
  intro z hz
  rcases List.mem_cons.1 hz with rfl | hz
  · exact hx
  · exact ballL_lt _ _ _ z (List.mem_filter.1 hz).1
theorem aroL_len {n : Nat} {R : ByteArray} {x k : Nat} (hx : x < n) : (aroL n R x k).length ≤ n := by
  have hd : (aroL n R x k).Nodup := by
    refine List.nodup_cons.2 ⟨fun h => ?_, (ballL_nodup _ _ _).filter _⟩
    have := (List.mem_filter.1 h).2
    simp at this
  have := Gs.nodup_le (M := List.range n) hd (fun z hz => List.mem_range.2 (aroL_lt hx z hz))
  simpa using this
theorem Own.lit1 (B : Nat) (w : World) (x : Nat) (hB : B ≤ w.heap.size) : Own B (w.alloc (.cells #[.int .i64 (x : Int)] 3)) (.slice (some ⟨w.heap.size, 0, none⟩) 1 1) [x] :=
  ⟨World.ownsRow_lit w #[.int .i64 (x : Int)] 1 hB (by decide) rfl, by simp, by simp; omega⟩
set_option maxHeartbeats 2000000 in
theorem aroundOf_any (n : Nat) (S R : ByteArray) (x k : Nat) (hn : n ≤ 8) (hS : S.size = n) (hR : R.size = n * n) (hx : x < n) (hk : k ≤ 100) (w : World) :
    Calls Tryz.prog 43 #[strV n S R, .int .i64 (x : Int), .int .i64 (k : Int)] w fun e w' => e = .returned (partW n S R (aroL n R x k)) ∧ Below w.heap.size w w' := by
  have HBO := Lib.hid (fun w => ballOf_any n S R x k hn hR hx hk w)
  have HPO := Lib.hid (fun v w hv => implPartOf_9 n S R (aroL n R x k) v w hn hS hR (Nat.le_trans (aroL_len hx) hn) (fun j hj => aroL_lt hx _ (by rw [List.getD_eq_getElem?_getD, List.getElem?_eq_getElem hj]; exact List.getElem_mem _)) hv)
  have HAL : Hid (aroL n R x k = x :: butL x (ballL (distL n R x) k n)) := rfl
  have hbl := ballL_len (distL n R x) k n
  have HBL : Hid (∀ z ∈ ballL (distL n R x) k n, z < n) := ballL_lt _ _ _
  obtain ⟨A, hA⟩ : ∃ A, aroL n R x k = A := ⟨_, rfl⟩
  rw [hA] at HPO HAL ⊢
  obtain ⟨B, hB⟩ : ∃ B, ballL (distL n R x) k n = B := ⟨_, rfl⟩
  rw [hB] at HBO HAL hbl HBL
  have HPV : Hid (∃ (N : Nat) (T U : ByteArray), partW n S R A = strV N T U) := ⟨_, _, _, rfl⟩
  obtain ⟨N, T, U, hpv⟩ := HPV.out
  rw [hpv] at HPO ⊢
  obtain ⟨W, hW⟩ : ∃ W, (w.alloc (.cells #[.int .i64 (n : Int), .string S, .string R] 26)).alloc (.cells #[.int .i64 0, .string ⟨#[]⟩, .string ⟨#[]⟩] 26) = W := ⟨_, rfl⟩
  have HX : Hid (SBlk W w.heap.size n S R ∧ SBlk W (w.heap.size + 1) 0 ByteArray.empty ByteArray.empty ∧ Below w.heap.size w W ∧ W.heap.size = w.heap.size + 2) := by
    subst hW
    have h1 : Below w.heap.size w (w.alloc (.cells #[.int .i64 (n : Int), .string S, .string R] 26)) := (Below.refl _ _).alloc (Nat.le_refl _) _
    have h2 := SBlk.new (w.alloc (.cells #[.int .i64 (n : Int), .string S, .string R] 26)) 0 ByteArray.empty ByteArray.empty
    rw [World.size_alloc] at h2
    exact ⟨(SBlk.new w (n : Int) S R).below ((Below.refl _ _).alloc (Nat.le_refl _) _) (by simp), h2, h1.alloc h1.size _, by simp⟩
  have HW := Lib.hid hW
  clear hW hR hS hA hB hpv HPV
  have hal : Below W.heap.size W (W.alloc (.cells #[.int .i64 (x : Int)] 3)) := (Below.refl _ _).alloc (Nat.le_refl _) _
  have HP0 : Hid (SBlk (W.alloc (.cells #[.int .i64 (x : Int)] 3)) w.heap.size n S R ∧ SBlk (W.alloc (.cells #[.int .i64 (x : Int)] 3)) (w.heap.size + 1) 0 ByteArray.empty ByteArray.empty ∧ Own (w.heap.size + 2) (W.alloc (.cells #[.int .i64 (x : Int)] 3)) (.slice (some ⟨W.heap.size, 0, none⟩) 1 1) [x] ∧ Below w.heap.size w (W.alloc (.cells #[.int .i64 (x : Int)] 3))) := by
    obtain ⟨p1, p2, p3, p4⟩ := HX.out
    exact ⟨p1.below hal p1.cells.2.2.2.2.2.2, p2.below hal p2.cells.2.2.2.2.2.2, Own.lit1 _ W x (by omega), p3.alloc p3.size _⟩
  clear hal
  unfold strV at HBO HPO
  unfold strV
  go_enter Tryz.func43, Tryz.ntmps43
  go_upto_region 1 with fail
  rw [HW.out]
  obtain ⟨c0, c1, c2, f0, f1, f2, hl⟩ := HP0.out.1.cells
  go_wp2_with fail
  refine (HBO.out _).mono ?_; rintro e w2 ⟨v, rfl, ho, hb⟩
  obtain ⟨g, cap, rfl, hg1, hg2, hc1, hc2, hc⟩ := ho.cells
  have HB : Hid (Ar w n S R g B (.slice (some ⟨W.heap.size, 0, none⟩) 1 1) (x :: butL x (B.take 0)) w2) := by
    obtain ⟨p1, p2, p3, p4⟩ := HP0.out
    refine ⟨p1.below hb p1.cells.2.2.2.2.2.2, p2.below hb p2.cells.2.2.2.2.2.2, p3.below hb, hc, hg2, ?_, p4.trans (hb.mono p4.size)⟩
    intro e; injection e with e
    have e : W.heap.size = g := e
    have : (W.alloc (.cells #[.int .i64 (x : Int)] 3)).heap.size = W.heap.size + 1 := by simp
    omega
  obtain ⟨M, hM⟩ : ∃ M, B.length = M := ⟨_, rfl⟩
  have HM := Lib.hid hM
  rw [hM] at hc1 hbl ⊢
  unfold maxLen at hc2
  clear ho hb hg1 hg2 hc c0 c1 c2 f0 f1 f2 hl HP0 HX HW HBO hM
  generalize W.heap.size = b0 at *
  go_wp2_with fail
  go_loopw [17, 7, 9] (fun q o p wr => ∃ y : Nat, y ≤ M ∧ q = .int .i64 (y : Int) ∧ Hid (Ar w n S R g B o (x :: butL x (B.take y)) wr)) (fun q _ _ _ => M - (intOf q).toNat)
  case atStart => exact ⟨0, by omega, rfl, HB.out⟩
  case round =>
    clear HB
    obtain ⟨y, hy, rfl, HP1⟩ := hrel
    by_cases hlt : y < M
    · have hyI : (y : Int) < (M : Int) := by omega
      have HTK := Lib.hid (butL_take x B y (by rw [HM.out]; exact hlt))
      have d1 := HP1.out.cells y (by rw [HM.out]; exact hlt)
      have HLL : Hid ((x :: butL x (B.take y)).length ≤ 2000000) := by
        have h1 := butL_len x (B.take y)
        have h2 : (B.take y).length ≤ y := by simp; omega
        show _ ≤ _
        simp only [List.length_cons]
        omega
      obtain ⟨z, hzd⟩ : ∃ z, B.getD y 0 = z := ⟨_, rfl⟩
      rw [hzd] at d1 HTK
      have hz8 : z < n := HBL.out z (by rw [← hzd, List.getD_eq_getElem?_getD, List.getElem?_eq_getElem (by rw [HM.out]; exact hlt)]; exact List.getElem_mem _)
      clear hzd
      by_cases hzx : z = x
      · have hzB : ((z : Int) != (x : Int)) = false := by simp [hzx]
        have HT : Hid (butL x (B.take (y + 1)) = butL x (B.take y)) := by rw [HTK.out, if_pos hzx]; rfl
        clear HTK
        go_wp2_with fail
        go_roundw
        case rel => exact ⟨y + 1, by omega, by go_num, by rw [HT.out]; exact HP1.out⟩
        case measure => simp [intOf]; omega
      · have hzB : ((z : Int) != (x : Int)) = true := by simp; omega
        have HT : Hid (x :: butL x (B.take (y + 1)) = (x :: butL x (B.take y)) ++ [z]) := by rw [HTK.out, if_neg hzx]; rfl
        clear HTK
        go_wp2_with (first | (at_builtin; refine wpList_own1at HP1.out.own HLL.out rfl (.tmp 24) (.tmp 26) rfl z _ rfl rfl rfl ?_; intro v' w' ho hg hat; have HP9 := Lib.hid (HP1.out.push ho hg hat); clear ho hg hat) | fail)
        go_roundw
        case rel => exact ⟨y + 1, by omega, by go_num, by rw [HT.out]; exact HP9.out⟩
        case measure => simp [intOf]; omega
    · obtain rfl : y = M := by omega
      have HN : Hid (NumsAt wr u7 A) := by
        have h := HP1.out.own.nums
        rw [← HM.out, List.take_length] at h
        rw [HAL.out]
        exact h
      obtain ⟨s0, s1, s2, _, _, _, hsl⟩ := HP1.out.a.cells
      go_wp2_with fail
      refine (HPO.out _ _ HN.out).mono ?_; rintro e w9 ⟨rfl, hb9⟩
      have HR := Lib.hid (And.intro (HP1.out.res.below hb9 HP1.out.res.cells.2.2.2.2.2.2) (HP1.out.old.trans (hb9.mono HP1.out.old.size)))
      clear hb9 s0 s1 s2 hsl
      obtain ⟨r0, r1, r2, k0, k1, k2, hrl⟩ := HR.out.1.cells
      go_wp2_with fail
      refine bodyPost_ret (v := strV N T U) ?_ rfl ⟨rfl, ?_⟩
      · exact results_str rfl rfl HR.out.1.set3
      · exact ((HR.out.2.setCell (Nat.le_succ _) _).setCell (Nat.le_succ _) _).setCell (Nat.le_succ _) _
end Go.Proofs.YtfhogenjpepfnaaGreatDoor

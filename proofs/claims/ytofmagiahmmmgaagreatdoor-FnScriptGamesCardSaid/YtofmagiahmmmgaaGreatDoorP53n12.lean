/- Contracts of the program's functions and what they compute: part 12. Conditions: those that each theorem states. -/
import Derived.Test.YtofmagiahmmmgaaGreatDoorP53n11
import Derived.Test.YtofmagiahmmmgaaGreatDoorP53n4
import Derived.OwnWalk
import Derived.IntWalk
import Derived.Deep.QuietTactic
import Derived.BigQuiet
namespace Go.Proofs.YtofmagiahmmmgaaGreatDoor
open Go.RowKit
set_option linter.unusedVariables false
set_option maxRecDepth 100000
theorem getD_setF (l : List Bool) (i j : Nat) : (l.set i false).getD j false = true ↔ l.getD j false = true ∧ j ≠ i := by
  simp only [List.getD_eq_getElem?_getD, List.getElem?_set]
  by_cases e : i = j
  · subst e
    rw [if_pos rfl]
    constructor
    · intro h
      split at h
      · simp at h
      · simp at h
    · rintro ⟨_, h⟩; exact absurd rfl h
  · rw [if_neg e]
    constructor
    · intro h; exact ⟨h, fun e2 => e e2.symm⟩
    · rintro ⟨h, _⟩; exact h
theorem clrN_get (N : List Bool) (s step q : Nat) : ∀ K, (clrN N s step K).getD q false = true ↔ N.getD q false = true ∧ ∀ j, j < K → q ≠ s + step * j
  | 0 => by simp [clrN]
  | K + 1 => by
    unfold clrN
    rw [getD_setF, clrN_get N s step q K]
    constructor
    · rintro ⟨⟨h1, h2⟩, h3⟩
      refine ⟨h1, fun j hj => ?_⟩
      by_cases e : j = K
      · rw [e]; exact h3
      · exact h2 j (by omega)
    · rintro ⟨h1, h2⟩
      exact ⟨⟨h1, fun j hj => h2 j (by omega)⟩, h2 K (by omega)⟩
theorem trS_get (n m : Nat) (W : List Bool) (step : Nat) (N : List Bool) (q : Nat) : ∀ s, (trS n m W step N s).getD q false = true ↔ N.getD q false = true ∧ ∀ r, r < s → keepB n m W step r = true ∨ ∀ j, j < n * m + 1 → q ≠ r + step * j
  | 0 => by simp [trS]
  | s + 1 => by
    unfold trS
    by_cases hk : keepB n m W step s = true
    · rw [if_pos hk, trS_get n m W step N q s]
      constructor
      · rintro ⟨h1, h2⟩
        refine ⟨h1, fun r hr => ?_⟩
        by_cases e : r = s
        · rw [e]; exact .inl hk
        · exact h2 r (by omega)
      · rintro ⟨h1, h2⟩
        exact ⟨h1, fun r hr => h2 r (by omega)⟩
    · rw [if_neg hk, clrN_get, trS_get n m W step N q s]
      constructor
      · rintro ⟨⟨h1, h2⟩, h3⟩
        refine ⟨h1, fun r hr => ?_⟩
        by_cases e : r = s
        · rw [e]; exact .inr h3
        · exact h2 r (by omega)
      · rintro ⟨h1, h2⟩
        refine ⟨⟨h1, fun r hr => h2 r (by omega)⟩, ?_⟩
        rcases h2 s (by omega) with h | h
        · exact absurd h hk
        · exact h
theorem trI_get (n m : Nat) (W F : List Bool) (q : Nat) : ∀ i, (trI n m W F i).getD q false = true ↔ F.getD q false = true ∧ ∀ i', i' < i → ∀ r, r < F.length → keepB n m W ((n * m + 1) ^ i') r = true ∨ ∀ j, j < n * m + 1 → q ≠ r + (n * m + 1) ^ i' * j
  | 0 => by simp [trI]
  | i + 1 => by
    unfold trI
    rw [trS_get, trI_get n m W F q i]
    constructor
    · rintro ⟨⟨h1, h2⟩, h3⟩
      refine ⟨h1, fun i' hi' => ?_⟩
      by_cases e : i' = i
      · rw [e]; exact h3
      · exact h2 i' (by omega)
    · rintro ⟨h1, h2⟩
      exact ⟨⟨h1, fun i' hi' => h2 i' (by omega)⟩, h2 i (by omega)⟩
/-- More is won with more. -/
theorem ansF_mono {n m : Nat} {f g : Nat → Nat → Bool} (h : ∀ x y, f x y = true → g x y = true) (ha : ansF n m f = true) : ansF n m g = true := by
  unfold ansF at ha ⊢
  simp only [Bool.and_eq_true, List.all_eq_true, List.any_eq_true] at ha ⊢
  refine ⟨fun x hx => ?_, fun y hy => ?_⟩
  · obtain ⟨y, hy, h1⟩ := ha.1 x hx
    exact ⟨y, hy, h x y h1⟩
  · obtain ⟨x, hx, h1⟩ := ha.2 y hy
    exact ⟨x, hx, h x y h1⟩
theorem ansF_iff {n m : Nat} {f : Nat → Nat → Bool} : ansF n m f = true ↔ (∀ x, x < n → ∃ y, y < m ∧ f x y = true) ∧ ∀ y, y < m → ∃ x, x < n ∧ f x y = true := by
  unfold ansF
  simp only [Bool.and_eq_true, List.all_eq_true, List.any_eq_true, List.mem_range]
theorem ansF_congr {n m : Nat} {f g : Nat → Nat → Bool} (h : ∀ x y, x < n → y < m → f x y = g x y) : ansF n m f = ansF n m g := by
  rw [Bool.eq_iff_iff, ansF_iff, ansF_iff]
  constructor
  · rintro ⟨h1, h2⟩
    refine ⟨fun x hx => ?_, fun y hy => ?_⟩
    · obtain ⟨y, hy, h3⟩ := h1 x hx; exact ⟨y, hy, by rw [← h x y hx hy]; exact h3⟩
    · obtain ⟨x, hx, h3⟩ := h2 y hy; exact ⟨x, hx, by rw [← h x y hx hy]; exact h3⟩
  · rintro ⟨h1, h2⟩
    refine ⟨fun x hx => ?_, fun y hy => ?_⟩
    · obtain ⟨y, hy, h3⟩ := h1 x hx; exact ⟨y, hy, by rw [h x y hx hy]; exact h3⟩
    · obtain ⟨x, hx, h3⟩ := h2 y hy; exact ⟨x, hx, by rw [h x y hx hy]; exact h3⟩
/-- One list of bools is no more than another. -/
def leB (W W' : List Bool) : Prop := ∀ q : Nat, W.getD q false = true → W'.getD q false = true
theorem keepB_mono {n m : Nat} {W W' : List Bool} (h : leB W W') {step s : Nat} (hk : keepB n m W step s = true) : keepB n m W' step s = true := by
  unfold keepB at hk ⊢
  rw [Bool.or_eq_true] at hk ⊢
  rcases hk with hk | hk
  · exact .inl hk
  · refine .inr ?_
    unfold ansB at hk ⊢
    exact ansF_mono (fun x y hxy => by unfold fW at hxy ⊢; exact h _ hxy) hk
theorem turnU_mono {n m k : Nat} {F W W' : List Bool} (h : leB W W') : leB (turnU n m k F W) (turnU n m k F W') := by
  intro q hq
  unfold turnU at hq ⊢
  rw [trI_get] at hq ⊢
  refine ⟨hq.1, fun i hi r hr => ?_⟩
  rcases hq.2 i hi r hr with h1 | h1
  · exact .inl (keepB_mono h h1)
  · exact .inr h1
theorem turnU_le (n m k : Nat) (F W : List Bool) : leB (turnU n m k F W) F := by
  intro q hq
  unfold turnU at hq
  rw [trI_get] at hq
  exact hq.1
/-- What is won after some turns. -/
def lev (n m k : Nat) (F : List Bool) : Nat → List Bool
  | 0 => F
  | t + 1 => turnU n m k F (lev n m k F t)
theorem lev_len (n m k : Nat) (F : List Bool) : ∀ t, (lev n m k F t).length = F.length
  | 0 => rfl
  | t + 1 => turnU_len _ _ _ _ _
theorem lev_le (n m k : Nat) (F : List Bool) : ∀ t, leB (lev n m k F (t + 1)) (lev n m k F t)
  | 0 => turnU_le n m k F _
  | t + 1 => turnU_mono (lev_le n m k F t)
/-- How many bools are true. -/
def cntT : List Bool → Nat
  | [] => 0
  | b :: l => (if b then 1 else 0) + cntT l
theorem cntT_le : ∀ l : List Bool, cntT l ≤ l.length
  | [] => Nat.le_refl _
  | b :: l => by
    have := cntT_le l
    unfold cntT
    simp only [List.length_cons]
    split <;> omega
theorem leB.tail {b c : Bool} {W W' : List Bool} (h : leB (b :: W) (c :: W')) : leB W W' := fun q hq => by
  have := h (q + 1) (by simpa using hq)
  simpa using this
theorem cntT_mono : ∀ {W W' : List Bool}, W.length = W'.length → leB W W' → cntT W ≤ cntT W'
  | [], [], _, _ => Nat.le_refl _
  | [], _ :: _, h, _ => by simp at h
  | _ :: _, [], h, _ => by simp at h
  | b :: W, c :: W', h, hl => by
    have h1 := cntT_mono (by simpa using h) hl.tail
    have h2 := hl 0
    unfold cntT
    cases b <;> cases c <;> simp_all <;> omega
theorem cntT_lt : ∀ {W W' : List Bool}, W.length = W'.length → leB W W' → W ≠ W' → cntT W < cntT W'
  | [], [], _, _, hn => absurd rfl hn
  | [], _ :: _, h, _, _ => by simp at h
  | _ :: _, [], h, _, _ => by simp at h
  | b :: W, c :: W', h, hl, hn => by
    have h1 := cntT_mono (by simpa using h) hl.tail
    have h2 := hl 0
    unfold cntT
    by_cases e : W = W'
    · subst e
      cases b <;> cases c <;> simp_all
    · have h3 := cntT_lt (by simpa using h) hl.tail e
      cases b <;> cases c <;> simp_all <;> omega
/-- The elements under pebbles. -/
def layN (L : List Int) : List Nat := (L.filter fun x => decide (0 ≤ x)).map Int.toNat
theorem layN_cons (x : Int) (L : List Int) : layN (x :: L) = if 0 ≤ x then x.toNat :: layN L else layN L := by
  unfold layN
  by_cases h : 0 ≤ x
  · rw [if_pos h, List.filter_cons_of_pos (by simpa using h)]; rfl
  · rw [if_neg h, List.filter_cons_of_neg (by simpa using h)]
theorem dig_pos {m : Nat} {x y : Int} (h0 : 0 ≤ x) (hs : x < 0 ↔ y < 0) (hy : y < (m : Int)) (hm : 0 < m) : 0 < dig m x y ∧ (dig m x y - 1) / m = x.toNat ∧ (dig m x y - 1) % m = y.toNat := by
  unfold dig
  rw [if_pos h0]
  have e : 1 + x.toNat * m + y.toNat - 1 = y.toNat + m * x.toNat := by rw [Nat.mul_comm m]; omega
  have hyl : y.toNat < m := by omega
  refine ⟨by omega, ?_, ?_⟩
  · rw [e, Nat.add_mul_div_left _ _ hm, Nat.div_eq_of_lt hyl, Nat.zero_add]
  · rw [e, Nat.add_mul_mod_self_left, Nat.mod_eq_of_lt hyl]
theorem stP_cons (P m : Nat) (x y : Int) (L M : List Int) : stP P m (x :: L) (y :: M) = stP P m L M * P + dig m x y := rfl
theorem ly_stP {n m : Nat} (hm : 0 < m) : ∀ {L M : List Int}, Rdy n m L M → lyA (n * m + 1) m L.length (stP (n * m + 1) m L M) = layN L ∧ lyB (n * m + 1) m L.length (stP (n * m + 1) m L M) = layN M
  | [], [], _ => ⟨rfl, rfl⟩
  | [], _ :: _, h => by have := h.len; simp at this
  | _ :: _, [], h => by have := h.len; simp at this
  | x :: L, y :: M, h => by
    have ih := ly_stP hm h.tail
    have hs : x < 0 ↔ y < 0 := by simpa using h.sg 0
    have hd := dig_lt (n := n) (m := m) (h.la x (by simp)).2 (h.lb y (by simp)).2 hs
    have e1 : stP (n * m + 1) m (x :: L) (y :: M) % (n * m + 1) = dig m x y := by
      rw [stP_cons, Nat.add_comm, Nat.add_mul_mod_self_right, Nat.mod_eq_of_lt hd]
    have e2 : stP (n * m + 1) m (x :: L) (y :: M) / (n * m + 1) = stP (n * m + 1) m L M := by
      rw [stP_cons, Nat.add_comm, Nat.add_mul_div_right _ _ (by omega), Nat.div_eq_of_lt hd, Nat.zero_add]
    rw [List.length_cons, layN_cons, layN_cons]
    unfold lyA lyB
    rw [e1, e2, ih.1, ih.2]
    by_cases h0 : 0 ≤ x
    · obtain ⟨d1, d2, d3⟩ := dig_pos h0 hs (h.lb y (by simp)).2 hm
      rw [if_pos d1, if_pos d1, if_pos h0, if_pos (show 0 ≤ y by omega), d2, d3]
      exact ⟨rfl, rfl⟩
    · have hz : dig m x y = 0 := by unfold dig; rw [if_neg h0]
      rw [hz, if_neg (show ¬ 0 < 0 by omega), if_neg (show ¬ 0 < 0 by omega), if_neg h0, if_neg (show ¬ 0 ≤ y by omega)]
      exact ⟨rfl, rfl⟩
theorem stP_digit {n m : Nat} : ∀ {L M : List Int} (i : Nat), Rdy n m L M → i < L.length → stP (n * m + 1) m L M / (n * m + 1) ^ i % (n * m + 1) = dig m (L.getD i 0) (M.getD i 0)
  | [], _, i, _, hi => by simp at hi
  | _ :: _, [], i, h, _ => by have := h.len; simp at this
  | x :: L, y :: M, 0, h, _ => by
    have hs : x < 0 ↔ y < 0 := by simpa using h.sg 0
    have hd := dig_lt (n := n) (m := m) (h.la x (by simp)).2 (h.lb y (by simp)).2 hs
    rw [Nat.pow_zero, Nat.div_one, stP_cons, Nat.add_comm, Nat.add_mul_mod_self_right, Nat.mod_eq_of_lt hd]
    simp
  | x :: L, y :: M, i + 1, h, hi => by
    have hs : x < 0 ↔ y < 0 := by simpa using h.sg 0
    have hd := dig_lt (n := n) (m := m) (h.la x (by simp)).2 (h.lb y (by simp)).2 hs
    have e2 : stP (n * m + 1) m (x :: L) (y :: M) / (n * m + 1) = stP (n * m + 1) m L M := by
      rw [stP_cons, Nat.add_comm, Nat.add_mul_div_right _ _ (by omega), Nat.div_eq_of_lt hd, Nat.zero_add]
    rw [Nat.pow_succ, Nat.mul_comm ((n * m + 1) ^ i), ← Nat.div_div_eq_div_mul, e2, stP_digit i h.tail (by simpa using hi)]
    simp
theorem stP_set (P m : Nat) (x y : Int) : ∀ {L M : List Int} (i : Nat), L.length = M.length → i < L.length → stP P m (L.set i x) (M.set i y) + P ^ i * dig m (L.getD i 0) (M.getD i 0) = stP P m L M + P ^ i * dig m x y
  | [], _, i, _, hi => by simp at hi
  | _ :: _, [], i, h, _ => by simp at h
  | x' :: L, y' :: M, 0, h, _ => by
    simp only [List.set_cons_zero, stP_cons, Nat.pow_zero, Nat.one_mul]
    simp
    omega
  | x' :: L, y' :: M, i + 1, h, hi => by
    have ih := stP_set P m x y (L := L) (M := M) i (by simpa using h) (by simpa using hi)
    simp only [List.set_cons_succ, stP_cons]
    have e : (x' :: L).getD (i + 1) 0 = L.getD i 0 ∧ (y' :: M).getD (i + 1) 0 = M.getD i 0 := by simp
    rw [e.1, e.2]
    generalize dig m (L.getD i 0) (M.getD i 0) = d1 at *
    generalize dig m x y = d2 at *
    generalize stP P m (L.set i x) (M.set i y) = a at *
    generalize stP P m L M = b at *
    rw [Nat.pow_succ]
    have h2 : (a + P ^ i * d1) * P = (b + P ^ i * d2) * P := by rw [ih]
    rw [Nat.add_mul, Nat.add_mul] at h2
    have e1 : P ^ i * P * d1 = P ^ i * d1 * P := by rw [Nat.mul_assoc, Nat.mul_comm P d1, ← Nat.mul_assoc]
    have e2 : P ^ i * P * d2 = P ^ i * d2 * P := by rw [Nat.mul_assoc, Nat.mul_comm P d2, ← Nat.mul_assoc]
    rw [e1, e2]
    omega
theorem getD_setI (L : List Int) (i j : Nat) (x : Int) (hi : i < L.length) : (L.set i x).getD j 0 = if i = j then x else L.getD j 0 := by
  simp only [List.getD_eq_getElem?_getD, List.getElem?_set]
  by_cases e : i = j
  · subst e
    rw [if_pos rfl, if_pos rfl, if_pos hi]
    rfl
  · rw [if_neg e, if_neg e]
theorem mem_setI {L : List Int} {i : Nat} {x z : Int} (h : z ∈ L.set i x) : z ∈ L ∨ z = x := by
  rcases List.mem_or_eq_of_mem_set h with h | h
  · exact .inl h
  · exact .inr h
theorem Rdy.set {n m : Nat} {L M : List Int} (h : Rdy n m L M) (i : Nat) (x y : Int) (hx : -1 ≤ x ∧ x < (n : Int)) (hy : -1 ≤ y ∧ y < (m : Int)) (hs : x < 0 ↔ y < 0) : Rdy n m (L.set i x) (M.set i y) := by
  refine ⟨by rw [List.length_set, List.length_set, h.len], fun z hz => ?_, fun z hz => ?_, fun j => ?_⟩
  · rcases mem_setI hz with hz | rfl
    · exact h.la z hz
    · exact hx
  · rcases mem_setI hz with hz | rfl
    · exact h.lb z hz
    · exact hy
  · by_cases hi : i < L.length
    · rw [getD_setI _ _ _ _ hi, getD_setI _ _ _ _ (by rw [← h.len]; exact hi)]
      split
      · exact hs
      · exact h.sg j
    · rw [List.set_eq_of_length_le (by omega), List.set_eq_of_length_le (by have := h.len; omega)]
      exact h.sg j
theorem Rdy.put {n m : Nat} {L M : List Int} (h : Rdy n m L M) (i : Nat) {x y : Nat} (hx : x < n) (hy : y < m) : Rdy n m (L.set i (x : Int)) (M.set i (y : Int)) :=
  h.set i _ _ (by omega) (by omega) (by omega)
theorem dig_nat (m x y : Nat) : dig m (x : Int) (y : Int) = 1 + x * m + y := by
  unfold dig
  rw [if_pos (by omega)]
  simp
/-- A way is won after a turn more. -/
theorem turn_at {n m k : Nat} {F W : List Bool} {L M : List Int} (h : Rdy n m L M) (hk : L.length = k) (hF : F.length = (n * m + 1) ^ k) :
    (turnU n m k F W).getD (stP (n * m + 1) m L M) false = true ↔ F.getD (stP (n * m + 1) m L M) false = true ∧ ∀ i, i < k → ansF n m (fun x y => W.getD (stP (n * m + 1) m (L.set i (x : Int)) (M.set i (y : Int))) false) = true := by
  unfold turnU
  rw [trI_get]
  have hlen := h.len
  have hq := stP_lt h
  rw [hk, ← hF] at hq
  obtain ⟨P, hP⟩ : ∃ P, n * m + 1 = P := ⟨_, rfl⟩
  have hPp : 0 < P := by omega
  rw [hP] at hq
  have key : ∀ i, i < k → ((∀ r, r < F.length → keepB n m W (P ^ i) r = true ∨ ∀ j, j < P → stP P m L M ≠ r + P ^ i * j) ↔ ansF n m (fun x y => W.getD (stP P m (L.set i (x : Int)) (M.set i (y : Int))) false) = true) := by
    intro i hi
    have hpi : 0 < P ^ i := Nat.pow_pos hPp
    have hdg := stP_digit i h (by omega)
    have hd := dig_lt (n := n) (m := m) (x := L.getD i 0) (y := M.getD i 0) (h.la _ (by rw [List.getD_eq_getElem?_getD, List.getElem?_eq_getElem (by omega)]; exact List.getElem_mem _)).2 (h.lb _ (by rw [List.getD_eq_getElem?_getD, List.getElem?_eq_getElem (by omega)]; exact List.getElem_mem _)).2 (h.sg i)
    rw [hP] at hdg hd
    obtain ⟨d, hde⟩ : ∃ d, dig m (L.getD i 0) (M.getD i 0) = d := ⟨_, rfl⟩
    -- the way without the pebble
    have hz : stP P m (L.set i (-1)) (M.set i (-1)) + P ^ i * d = stP P m L M := by
      have := stP_set P m (-1) (-1) i hlen (by omega)
      rw [hde, show dig m (-1) (-1) = 0 from rfl, Nat.mul_zero, Nat.add_zero] at this
      exact this
    have hrz := h.set i (-1) (-1) (by omega) (by omega) (by omega)
    have hzd : stP P m (L.set i (-1)) (M.set i (-1)) / P ^ i % P = 0 := by
      have := stP_digit i hrz (by rw [List.length_set]; omega)
      rw [hP, getD_setI _ _ _ _ (by omega), getD_setI _ _ _ _ (by omega), if_pos rfl, if_pos rfl] at this
      rw [this]; rfl
    have hw : ∀ x y : Nat, stP P m (L.set i (x : Int)) (M.set i (y : Int)) = stP P m (L.set i (-1)) (M.set i (-1)) + P ^ i * (1 + x * m + y) := by
      intro x y
      have h1 := stP_set P m (x : Int) (y : Int) i hlen (by omega)
      rw [hde, dig_nat] at h1
      omega
    obtain ⟨z, hze⟩ : ∃ z, stP P m (L.set i (-1)) (M.set i (-1)) = z := ⟨_, rfl⟩
    rw [hze] at hz hzd
    rw [hde] at hdg hd
    have hzl : z < F.length := by omega
    have ha : ansB n m W z (P ^ i) = ansF n m (fun x y => W.getD (stP P m (L.set i (x : Int)) (M.set i (y : Int))) false) := by
      unfold ansB
      congr 1
      funext x y
      unfold fW
      rw [hw, hze]
    rw [← ha]
    constructor
    · intro hh
      rcases hh z hzl with h1 | h1
      · unfold keepB at h1
        rw [hP, hzd] at h1
        simpa using h1
      · exact absurd hz.symm (h1 d hd)
    · intro hans r hr
      by_cases hr0 : r / P ^ i % P = 0
      · by_cases hex : ∃ j, j < P ∧ stP P m L M = r + P ^ i * j
        · obtain ⟨j, hj, hje⟩ := hex
          left
          have h1 : (r + P ^ i * j) / P ^ i = r / P ^ i + j := Nat.add_mul_div_left r j hpi
          have h2 : d = j := by
            rw [← hdg, hje, h1, Nat.add_mod, hr0, Nat.zero_add, Nat.mod_mod, Nat.mod_eq_of_lt hj]
          have h3 : r = z := by
            rw [← h2, ← hz] at hje
            generalize P ^ i * d = pd at *
            omega
          unfold keepB
          rw [h3, hans, Bool.or_true]
        · exact .inr fun j hj e => hex ⟨j, hj, e⟩
      · left
        unfold keepB
        rw [hP, decide_eq_true (show r / P ^ i % P ≠ 0 from hr0)]
        rfl
  rw [hP]
  constructor
  · rintro ⟨h1, h2⟩
    exact ⟨h1, fun i hi => (key i hi).1 (h2 i hi)⟩
  · rintro ⟨h1, h2⟩
    exact ⟨h1, fun i hi => (key i hi).2 (h2 i hi)⟩
/-- Whether the second player wins so many turns. -/
def pwB (a b : Gs.St) (n m : Nat) : Nat → List Int → List Int → Bool
  | 0, L, M => Gs.same a (layN L) b (layN M)
  | t + 1, L, M => Gs.same a (layN L) b (layN M) && (List.range L.length).all fun i => ansF n m fun x y => pwB a b n m t (L.set i (x : Int)) (M.set i (y : Int))
theorem fit_at {a b : Gs.St} {n m : Nat} {L M : List Int} (h : Rdy n m L M) (hm : 0 < m) : (fitL a b n m L.length).getD (stP (n * m + 1) m L M) false = Gs.same a (layN L) b (layN M) := by
  have hq := stP_lt h
  unfold fitL
  rw [List.getD_eq_getElem?_getD, List.getElem?_map, List.getElem?_range hq]
  show fitB a b n m L.length _ = _
  unfold fitB
  rw [(ly_stP hm h).1, (ly_stP hm h).2]
theorem lev_at {a b : Gs.St} {n m : Nat} (hm : 0 < m) : ∀ (t : Nat) {L M : List Int}, Rdy n m L M → (lev n m L.length (fitL a b n m L.length) t).getD (stP (n * m + 1) m L M) false = pwB a b n m t L M
  | 0, L, M, h => fit_at h hm
  | t + 1, L, M, h => by
    unfold lev pwB
    rw [Bool.eq_iff_iff, turn_at h rfl (fitL_len _ _ _ _ _), Bool.and_eq_true, fit_at h hm, List.all_eq_true]
    have e : ∀ i, i < L.length → ansF n m (fun x y => (lev n m L.length (fitL a b n m L.length) t).getD (stP (n * m + 1) m (L.set i (x : Int)) (M.set i (y : Int))) false) = ansF n m fun x y => pwB a b n m t (L.set i (x : Int)) (M.set i (y : Int)) := by
      intro i hi
      apply ansF_congr
      intro x y hx hy
      have := lev_at (a := a) (b := b) hm t (h.put i hx hy)
      rw [List.length_set] at this
      exact this
    constructor
    · rintro ⟨h1, h2⟩
      exact ⟨h1, fun i hi => by rw [← e i (List.mem_range.1 hi)]; exact h2 i (List.mem_range.1 hi)⟩
    · rintro ⟨h1, h2⟩
      exact ⟨h1, fun i hi => by rw [e i hi]; exact h2 i (List.mem_range.2 hi)⟩
end Go.Proofs.YtofmagiahmmmgaaGreatDoor

namespace Go.Proofs.YtofmagiahmmmgaaGreatDoor
open Go.RowKit
set_option linter.unusedVariables false
/-- Formulas, with an operator before each. -/
def joinL (op : ByteArray) (L : List ByteArray) : ByteArray := L.foldl (fun o x => o ++ (op ++ x)) ByteArray.empty
/-- How long texts are together. -/
def sumL (L : List ByteArray) : Nat := (L.map ByteArray.size).sum
/-- Formulas, with an operator before each but the last one. -/
def joinP (op : ByteArray) (L : List ByteArray) : ByteArray :=
  if L.length = 0 then (if op = ⟨#[38]⟩ then ⟨#[116]⟩ else ⟨#[102]⟩) else joinL op (L.take (L.length - 1)) ++ L.getD (L.length - 1) ByteArray.empty
theorem text_is (s : ByteArray) (l : List UInt8) : s.toList = l ↔ s = ⟨l.toArray⟩ := by
  rw [ByteArray.toList_eq]
  constructor
  · intro h
    apply ByteArray.ext
    show s.data = l.toArray
    rw [← h]
  · intro h
    rw [h]
theorem joinL_snoc (op : ByteArray) (L : List ByteArray) (x : ByteArray) : joinL op (L ++ [x]) = joinL op L ++ (op ++ x) := by
  simp [joinL, List.foldl_append]
theorem joinL_take (op : ByteArray) (L : List ByteArray) (k : Nat) (h : k < L.length) : joinL op (L.take (k + 1)) = joinL op (L.take k) ++ (op ++ L[k]) := by
  rw [List.take_succ_eq_append_getElem h, joinL_snoc]
theorem sumL_append (L M : List ByteArray) : sumL (L ++ M) = sumL L + sumL M := by simp [sumL]
theorem sumL_take (L : List ByteArray) (k : Nat) (h : k < L.length) : sumL (L.take (k + 1)) = sumL (L.take k) + L[k].size := by
  rw [List.take_succ_eq_append_getElem h, sumL_append]
  simp [sumL]
theorem sumL_take_le (L : List ByteArray) (k : Nat) : sumL (L.take k) ≤ sumL L := by
  have h := sumL_append (L.take k) (L.drop k)
  rw [List.take_append_drop] at h
  omega
theorem sumL_at (L : List ByteArray) (k : Nat) (h : k < L.length) : L[k].size ≤ sumL L := by
  have h1 := sumL_take L k h
  have h2 := sumL_take_le L (k + 1)
  omega
theorem joinL_size (op : ByteArray) (L : List ByteArray) : (joinL op L).size = op.size * L.length + sumL L := by
  have h : ∀ (L : List ByteArray) (o : ByteArray), (L.foldl (fun o x => o ++ (op ++ x)) o).size = o.size + op.size * L.length + sumL L := by
    intro L
    induction L with
    | nil => intro o; simp [sumL]
    | cons x L ih =>
      intro o
      rw [List.foldl_cons, ih]
      simp only [ByteArray.size_append, List.length_cons, Nat.mul_add, Nat.mul_one, sumL, List.map_cons, List.sum_cons]
      omega
  have h1 := h L ByteArray.empty
  simp at h1
  exact h1
theorem joinL_take_le (op : ByteArray) (L : List ByteArray) (k : Nat) (hk : k ≤ L.length) (hop : op.size ≤ 1) : (joinL op (L.take k)).size ≤ L.length + sumL L := by
  have h1 := joinL_size op (L.take k)
  have h2 := sumL_take_le L k
  have h3 : op.size * (L.take k).length ≤ 1 * L.length := Nat.mul_le_mul hop (by rw [List.length_take]; omega)
  omega
theorem nameOf_any (i : Nat) (w : World) (h : i < 4) :
    Calls Tryz.prog 52 #[.int .i64 (i : Int)] w fun e w' => e = .returned (.string ⟨#[UInt8.ofNat (97 + i)]⟩) ∧ w = w' := by
  rcases (show i = 0 ∨ i = 1 ∨ i = 2 ∨ i = 3 by omega) with rfl | rfl | rfl | rfl
  all_goals
    go_enter Tryz.func52, Tryz.ntmps52
    go_wp2_with fail
    go_ret
    exact ⟨rfl, rfl⟩
theorem joined_any (op : ByteArray) (L : List ByteArray) (g cap : Nat) (w : World) (hop : op.size ≤ 1) (hl : L.length ≤ 1000) (hs : sumL L ≤ 1000000)
    (hcap : L.length ≤ cap) (hcm : cap ≤ maxLen) (hc : ∀ j (h : j < L.length), w.cell? ⟨g, j, none⟩ = some (.string L[j])) :
    Calls Tryz.prog 53 #[.string op, .slice (some ⟨g, 0, none⟩) L.length cap] w fun e w' => e = .returned (.string (joinP op L)) ∧ w = w' := by
  by_cases h0 : L.length = 0
  · by_cases hq : op = ⟨#[38]⟩
    · have HR : Hid (joinP op L = ⟨#[116]⟩) := by show joinP op L = _; rw [joinP, if_pos h0, if_pos hq]
      have e1 : (op.toList == [38]) = true := by rw [beq_iff_eq, text_is]; exact hq
      rw [HR.out]
      clear hc
      rw [h0]
      go_enter Tryz.func53, Tryz.ntmps53
      go_wp2_with fail
      go_ret
      exact ⟨rfl, rfl⟩
    · have HR : Hid (joinP op L = ⟨#[102]⟩) := by show joinP op L = _; rw [joinP, if_pos h0, if_neg hq]
      have e1 : (op.toList == [38]) = false := by rw [← Bool.not_eq_true, beq_iff_eq, text_is]; exact hq
      rw [HR.out]
      clear hc
      rw [h0]
      go_enter Tryz.func53, Tryz.ntmps53
      go_wp2_with fail
      go_ret
      exact ⟨rfl, rfl⟩
  · have hc1 := hc (L.length - 1) (by omega)
    have hlast : L.getD (L.length - 1) ByteArray.empty = L[L.length - 1] := by
      rw [List.getD_eq_getElem?_getD, List.getElem?_eq_getElem (by omega)]; rfl
    have HR : Hid (joinP op L = joinL op (L.take (L.length - 1)) ++ L[L.length - 1]) := by show joinP op L = _; rw [joinP, if_neg h0, hlast]
    obtain ⟨T, hT⟩ : ∃ T, L[L.length - 1] = T := ⟨_, rfl⟩
    have htz : T.size ≤ 1000000 := by
      have := sumL_at L (L.length - 1) (by omega)
      rw [hT] at this
      omega
    rw [hT] at hc1 HR
    have HC := Lib.hid hc; clear hc
    have HL := Lib.hid (joinL_take_le op L)
    have HT := Lib.hid (joinL_take op L)
    have HS := Lib.hid (fun k h => sumL_at L k h)
    rw [HR.out]
    obtain ⟨n, hn⟩ : ∃ n, L.length = n + 1 := ⟨L.length - 1, by omega⟩
    have HN := Lib.hid hn
    rw [hn] at hc1 hcap hl
    rw [hn]
    clear hlast hT h0
    rw [hn] at HR
    simp only [Nat.add_sub_cancel] at hc1 HR ⊢
    clear hn
    have hw1 : IntKind.i64.wrap ((n : Int) + 1 - 1) = (n : Int) := by
      rw [show (n : Int) + 1 - 1 = (n : Int) by omega]
      exact IntWalk.i64_in _ (by omega)
    go_enter Tryz.func53, Tryz.ntmps53
    go_wp2_with fail
    go_loop [5, 7, 19] (fun o _ i => ∃ k : Nat, k ≤ n ∧ i = .int .i64 k ∧ ∃ out : ByteArray, o = .string out ∧ out.size ≤ 2000000 ∧ Hid (out = joinL op (L.take k))) (fun _ _ i => n - (intOf i).toNat)
    case atStart => exact ⟨0, by omega, rfl, ByteArray.empty, rfl, by simp, rfl⟩
    case round =>
      obtain ⟨k, hk, rfl, out, rfl, ho, HO⟩ := hrel
      by_cases hlt : k < n
      · have hkl : k < L.length := by rw [HN.out]; omega
        have hck := HC.out k hkl
        have hz := HS.out k hkl
        have HT1 := Lib.hid (HT.out k hkl)
        have HL1 := Lib.hid (HL.out (k + 1) (by rw [HN.out]; omega) hop)
        have HN1 := HN
        obtain ⟨s, hs1⟩ : ∃ s, L[k] = s := ⟨_, rfl⟩
        rw [hs1] at hck hz HT1
        clear hs1 hkl
        go_wp2_with fail
        go_round
        case rel =>
          have e : out ++ (op ++ s) = joinL op (L.take (k + 1)) := by rw [HT1.out, HO.out]
          refine ⟨k + 1, by omega, by go_num, out ++ (op ++ s), rfl, ?_, e⟩
          rw [e]
          have := HL1.out
          have := HN.out
          omega
        case measure => simp [intOf]; omega
      · have hkn : k = n := by omega
        subst hkn
        have HE : Hid (out ++ T = joinL op (L.take k) ++ T) := by rw [← HO.out]; rfl
        go_wp2_with fail
        go_ret
        exact ⟨congrArg (fun s => Ending.returned (.string s)) HE.out, rfl⟩
end Go.Proofs.YtofmagiahmmmgaaGreatDoor

namespace Go.Proofs.YtofmagiahmmmgaaGreatDoor
open Go.RowKit
set_option linter.unusedVariables false
set_option maxRecDepth 100000
/-- The first of some. -/
def fsO {α : Type} (g : Nat → Option α) : Nat → Option α
  | 0 => none
  | k + 1 => match fsO g k with
    | some s => some s
    | none => g k
theorem fsO_succ_none {α : Type} {g : Nat → Option α} {k : Nat} (h : fsO g k = none) : fsO g (k + 1) = g k := by
  unfold fsO
  rw [h]
theorem fsO_no {α : Type} {g : Nat → Option α} {k : Nat} (h : fsO g k = none) (hg : g k = none) : fsO g (k + 1) = none := by rw [fsO_succ_none h, hg]
theorem fsO_yes {α : Type} {g : Nat → Option α} {k : Nat} {s : α} (h : fsO g k = none) (hg : g k = some s) : ∀ {m : Nat}, k < m → fsO g m = some s
  | 0, hm => by omega
  | m + 1, hm => by
    by_cases e : k = m
    · subst e
      rw [fsO_succ_none h, hg]
    · have := fsO_yes h hg (m := m) (by omega)
      unfold fsO
      rw [this]
theorem fsO_none_iff {α : Type} {g : Nat → Option α} : ∀ {k : Nat}, fsO g k = none ↔ ∀ j, j < k → g j = none
  | 0 => by simp [fsO]
  | k + 1 => by
    constructor
    · intro h
      have h1 : fsO g k = none := by
        cases hc : fsO g k with
        | none => rfl
        | some s => unfold fsO at h; rw [hc] at h; cases h
      intro j hj
      by_cases e : j = k
      · rw [e, ← fsO_succ_none h1]; exact h
      · exact fsO_none_iff.1 h1 j (by omega)
    · intro h
      exact fsO_no (fsO_none_iff.2 fun j hj => h j (by omega)) (h k (by omega))
theorem fsO_some {α : Type} {g : Nat → Option α} {s : α} : ∀ {k : Nat}, fsO g k = some s → ∃ j, j < k ∧ g j = some s ∧ fsO g j = none
  | 0, h => by cases h
  | k + 1, h => by
    cases hc : fsO g k with
    | none =>
      rw [fsO_succ_none hc] at h
      exact ⟨k, by omega, h, hc⟩
    | some u =>
      have h2 : fsO g (k + 1) = some u := by unfold fsO; rw [hc]
      rw [h2] at h
      injection h with h
      subst h
      obtain ⟨j, hj, h3⟩ := fsO_some hc
      exact ⟨j, by omega, h3⟩
/-- A variable's name; a fact with its sign. -/
def vnB (i : Nat) : ByteArray := ⟨#[UInt8.ofNat (97 + i)]⟩
def sgB (s : ByteArray) (is : Bool) : ByteArray := if is then s else ⟨#[33]⟩ ++ s
def elB (L : List Int) (i : Nat) : Nat := (L.getD i 0).toNat
def fa3 (a b : Gs.St) (L M : List Int) (i k : Nat) : Option ByteArray :=
  if L.getD k 0 < 0 then none
  else if decide (L.getD k 0 = L.getD i 0) != decide (M.getD k 0 = M.getD i 0) then some (sgB (⟨#[61]⟩ ++ vnB k ++ vnB i) (decide (L.getD k 0 = L.getD i 0)))
  else if a.r (elB L k) (elB L i) != b.r (elB M k) (elB M i) then some (sgB (⟨#[69]⟩ ++ vnB k ++ vnB i) (a.r (elB L k) (elB L i)))
  else if a.r (elB L i) (elB L k) != b.r (elB M i) (elB M k) then some (sgB (⟨#[69]⟩ ++ vnB i ++ vnB k) (a.r (elB L i) (elB L k)))
  else none
def fa1 (a b : Gs.St) (L M : List Int) (i : Nat) : Option ByteArray :=
  if L.getD i 0 < 0 then none
  else if a.s (elB L i) != b.s (elB M i) then some (sgB (⟨#[80]⟩ ++ vnB i) (a.s (elB L i)))
  else fsO (fa3 a b L M i) (i + 1)
/-- Texts, each once. -/
def hasB (out : List ByteArray) (f : ByteArray) : Bool := out.any fun g => decide (g = f)
def addU (out : List ByteArray) (f : ByteArray) : List ByteArray := if hasB out f = true then out else out ++ [f]
def uniqL (L : List ByteArray) : List ByteArray := L.foldl addU []
theorem uniqL_snoc (L : List ByteArray) (f : ByteArray) : uniqL (L ++ [f]) = addU (uniqL L) f := by
  unfold uniqL
  rw [List.foldl_append]
  rfl
theorem uniqL_facts (L : List ByteArray) : (∀ f ∈ uniqL L, f ∈ L) ∧ (uniqL L).length ≤ L.length ∧ (L ≠ [] → uniqL L ≠ []) := by
  have key : ∀ (L acc : List ByteArray), (∀ f ∈ L.foldl addU acc, f ∈ acc ∨ f ∈ L) ∧ (L.foldl addU acc).length ≤ acc.length + L.length ∧ (acc ≠ [] → L.foldl addU acc ≠ []) := by
    intro L
    induction L with
    | nil => intro acc; exact ⟨fun f h => .inl h, by simp, fun h => h⟩
    | cons x L ih =>
      intro acc
      obtain ⟨h1, h2, h3⟩ := ih (addU acc x)
      have hm : ∀ f ∈ addU acc x, f ∈ acc ∨ f = x := fun f hf => by
        unfold addU at hf
        split at hf
        · exact .inl hf
        · rcases List.mem_append.1 hf with h | h
          · exact .inl h
          · exact .inr (List.mem_singleton.1 h)
      have hl : (addU acc x).length ≤ acc.length + 1 := by unfold addU; split <;> simp
      refine ⟨fun f hf => ?_, by simp only [List.foldl_cons, List.length_cons]; omega, fun h => ?_⟩
      · rcases h1 f hf with h | h
        · rcases hm f h with h | h
          · exact .inl h
          · exact .inr (by simp [h])
        · exact .inr (by simp [h])
      · rw [List.foldl_cons]
        apply h3
        unfold addU
        split
        · exact h
        · simp
  obtain ⟨h1, h2, _⟩ := key L []
  refine ⟨fun f hf => ?_, by simpa [uniqL] using h2, fun h => ?_⟩
  · rcases h1 f hf with h | h
    · cases h
    · exact h
  · cases L with
    | nil => exact absurd rfl h
    | cons x L =>
      unfold uniqL
      rw [List.foldl_cons]
      exact (key L (addU [] x)).2.2 (by simp [addU, hasB])
def quB (head : ByteArray) (i : Nat) (parts : List ByteArray) : ByteArray := head ++ vnB i ++ joinP ⟨#[38]⟩ (uniqL parts)
theorem Rdy.symm {n m : Nat} {L M : List Int} (h : Rdy n m L M) : Rdy m n M L := ⟨h.len.symm, h.lb, h.la, fun j => (h.sg j).symm⟩
/-- The texts are short. -/
theorem sgB_size (s : ByteArray) (is : Bool) : (sgB s is).size ≤ s.size + 1 := by
  unfold sgB
  split
  · omega
  · rw [ByteArray.size_append]
    show 1 + s.size ≤ _
    omega
def szF : Nat → Nat
  | 0 => 4
  | t + 1 => 3 + 8 * (szF t + 1)
theorem sumL_le {L : List ByteArray} {b : Nat} (h : ∀ f ∈ L, f.size ≤ b) : sumL L ≤ L.length * b := by
  unfold sumL
  induction L with
  | nil => simp
  | cons x L ih =>
    have h1 := ih (fun f hf => h f (by simp [hf]))
    have h2 := h x (by simp)
    simp only [List.map_cons, List.sum_cons, List.length_cons]
    rw [Nat.add_mul]
    omega
theorem joinP_size (op : ByteArray) (L : List ByteArray) (hop : op.size = 1) (hn : L ≠ []) : (joinP op L).size ≤ L.length + sumL L := by
  have h0 : 0 < L.length := List.length_pos_iff.2 hn
  unfold joinP
  rw [if_neg (by omega), ByteArray.size_append, joinL_size, hop, List.length_take, Nat.one_mul]
  have h1 := sumL_take L (L.length - 1) (by omega)
  rw [show L.length - 1 + 1 = L.length by omega, List.take_length] at h1
  rw [List.getD_eq_getElem?_getD, List.getElem?_eq_getElem (by omega)]
  show _ + (L[L.length - 1]).size ≤ _
  omega
theorem quB_size {head : ByteArray} {i c : Nat} {parts : List ByteArray} (hh : head.size ≤ 2) (hp : parts.length ≤ 8) (hn : parts ≠ []) (hs : ∀ f ∈ parts, f.size ≤ c) : (quB head i parts).size ≤ 3 + 8 * (c + 1) := by
  obtain ⟨u1, u2, u3⟩ := uniqL_facts parts
  have h1 := sumL_le (L := uniqL parts) (b := c) (fun f hf => hs f (u1 f hf))
  have h2 : (uniqL parts).length * c ≤ 8 * c := Nat.mul_le_mul_right _ (by omega)
  have h3 : (joinP ⟨#[38]⟩ (uniqL parts)).size ≤ (uniqL parts).length + sumL (uniqL parts) := joinP_size _ _ rfl (u3 hn)
  unfold quB
  rw [ByteArray.size_append, ByteArray.size_append]
  have : (vnB i).size = 1 := rfl
  omega
end Go.Proofs.YtofmagiahmmmgaaGreatDoor

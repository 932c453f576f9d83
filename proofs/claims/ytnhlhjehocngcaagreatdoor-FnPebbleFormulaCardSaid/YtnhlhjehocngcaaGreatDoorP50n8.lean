/- Contracts of the program's functions and what they compute: part 8. Conditions: those that each theorem states. -/
import Derived.Test.YtnhlhjehocngcaaGreatDoorP50n7
namespace Go.Proofs.YtnhlhjehocngcaaGreatDoor
open Go.RowKit
set_option linter.unusedVariables false
set_option maxRecDepth 100000
/-- The ways with another pair at a place are lost. -/
def clrN (N : List Bool) (s step : Nat) : Nat → List Bool
  | 0 => N
  | k + 1 => (clrN N s step k).set (s + step * k) false
theorem clrN_len (N : List Bool) (s step : Nat) : ∀ k, (clrN N s step k).length = N.length
  | 0 => rfl
  | k + 1 => by unfold clrN; rw [List.length_set, clrN_len N s step k]
/-- Whether a way is left as it is. -/
def keepB (n m : Nat) (W : List Bool) (step s : Nat) : Bool := decide (s / step % (n * m + 1) ≠ 0) || ansB n m W s step
def trS (n m : Nat) (W : List Bool) (step : Nat) (N : List Bool) : Nat → List Bool
  | 0 => N
  | s + 1 => if keepB n m W step s then trS n m W step N s else clrN (trS n m W step N s) s step (n * m + 1)
theorem trS_len (n m : Nat) (W : List Bool) (step : Nat) (N : List Bool) : ∀ s, (trS n m W step N s).length = N.length
  | 0 => rfl
  | s + 1 => by
    unfold trS
    split
    · exact trS_len n m W step N s
    · rw [clrN_len]; exact trS_len n m W step N s
def trI (n m : Nat) (W : List Bool) (F : List Bool) : Nat → List Bool
  | 0 => F
  | i + 1 => trS n m W ((n * m + 1) ^ i) (trI n m W F i) F.length
theorem trI_len (n m : Nat) (W F : List Bool) : ∀ i, (trI n m W F i).length = F.length
  | 0 => rfl
  | i + 1 => by unfold trI; rw [trS_len]; exact trI_len n m W F i
/-- What is won with one turn more. -/
def turnU (n m k : Nat) (F W : List Bool) : List Bool := trI n m W F k
theorem turnU_len (n m k : Nat) (F W : List Bool) : (turnU n m k F W).length = F.length := trI_len n m W F k
/-- A way without a pair at a place: with each pair it is a way. -/
theorem dig0_lt {P k i s q : Nat} (hP : 0 < P) (hi : i < k) (hs : s < P ^ k) (h0 : s / P ^ i % P = 0) (hq : q < P) : s + P ^ i * q < P ^ k := by
  obtain ⟨j, rfl⟩ : ∃ j, k = i + 1 + j := ⟨k - (i + 1), by omega⟩
  have e1 : P ^ (i + 1 + j) = P ^ i * P * P ^ j := by rw [Nat.pow_add, Nat.pow_succ]
  have hpi : 0 < P ^ i := Nat.pow_pos hP
  obtain ⟨a, ha⟩ : ∃ a, s / P ^ i / P = a := ⟨_, rfl⟩
  have h1 : s / P ^ i = P * a := by
    have := Nat.div_add_mod (s / P ^ i) P
    rw [h0, ha, Nat.add_zero] at this
    exact this.symm
  have h2 : s = P ^ i * (P * a) + s % P ^ i := by
    have := Nat.div_add_mod s (P ^ i)
    rw [h1] at this
    exact this.symm
  have h3 : s % P ^ i < P ^ i := Nat.mod_lt _ hpi
  generalize s % P ^ i = r at h2 h3
  have ha2 : a < P ^ j := by
    rw [e1] at hs
    have h4 : P ^ i * P * a ≤ s := by rw [h2, Nat.mul_assoc]; omega
    exact Nat.lt_of_mul_lt_mul_left (Nat.lt_of_le_of_lt h4 hs)
  have h5 : P ^ i * P * (a + 1) ≤ P ^ i * P * P ^ j := Nat.mul_le_mul_left _ ha2
  have h6 : P ^ i * (q + 1) ≤ P ^ i * P := Nat.mul_le_mul_left _ hq
  rw [Nat.mul_add, Nat.mul_one] at h5 h6
  rw [e1]
  have h7 : P ^ i * (P * a) = P ^ i * P * a := by rw [Nat.mul_assoc]
  omega
/-- The game in memory. -/
def PebQ (w : World) (p n : Nat) (S R : ByteArray) (m : Nat) (S2 R2 : ByteArray) (k : Nat) (F W : List Bool) : Prop :=
  ∃ fv wv, PebG w p n S R m S2 R2 k fv wv ∧ BoolsAt w fv F ∧ BoolsAt w wv W ∧ fv.ownBlock ≠ some p ∧ wv.ownBlock ≠ some p
theorem PebQ.below {w w' : World} {p n m k : Nat} {S R S2 R2 : ByteArray} {F W : List Bool} (h : PebQ w p n S R m S2 R2 k F W) (hb : Below w.heap.size w w') : PebQ w' p n S R m S2 R2 k F W := by
  obtain ⟨fv, wv, h1, h2, h3, h4, h5⟩ := h
  exact ⟨fv, wv, h1.below hb, h2.below hb, h3.below hb, h4, h5⟩
/-- What turn keeps. -/
structure Tn (w : World) (p n : Nat) (S R : ByteArray) (m : Nat) (S2 R2 : ByteArray) (k : Nat) (fv wv : Value) (F W : List Bool) (nv : Value) (N : List Bool) (wr : World) : Prop where
  g : PebG wr p n S R m S2 R2 k fv wv
  f : BoolsAt wr fv F
  b : BoolsAt wr wv W
  fs : ∀ j, fv.ownBlock = some j → j < w.heap.size
  ws : ∀ j, wv.ownBlock = some j → j < w.heap.size
  own : OwnL w.heap.size wr nv N
  pl : p < w.heap.size
  old : Below w.heap.size w wr
section
variable {w wr w' : World} {p n m k : Nat} {S R S2 R2 : ByteArray} {fv wv nv nv' : Value} {F W N N' : List Bool}
theorem Tn.below (h : Tn w p n S R m S2 R2 k fv wv F W nv N wr) (hb : Below wr.heap.size wr w') : Tn w p n S R m S2 R2 k fv wv F W nv N w' :=
  ⟨h.g.below hb, h.f.below hb, h.b.below hb, h.fs, h.ws, h.own.below hb, h.pl, h.old.trans (hb.mono h.old.size)⟩
theorem Tn.push (h : Tn w p n S R m S2 R2 k fv wv F W nv N wr) (ho : OwnL w.heap.size w' nv' N') (hg : wr.grownBy w' nv.ownBlock) : Tn w p n S R m S2 R2 k fv wv F W nv' N' w' := by
  have hlt := h.own.lt
  refine ⟨⟨(hg.block p h.g.lt (fun e => by have := (hlt p e.symm).1; have := h.pl; omega)).trans h.g.blk⟩, h.f.kept (fun j hj hl => hg.block j hl (fun e => by have := (hlt j e.symm).1; have := h.fs j hj; omega)) hg.size,
    h.b.kept (fun j hj hl => hg.block j hl (fun e => by have := (hlt j e.symm).1; have := h.ws j hj; omega)) hg.size, h.fs, h.ws, ho, h.pl, h.old.grown hg h.old.size (fun j hj => (hlt j hj).1)⟩
theorem Tn.cell {g cap len : Nat} (h : Tn w p n S R m S2 R2 k fv wv F W (.slice (some ⟨g, 0, none⟩) len cap) N wr) {j : Nat} (hj : j < N.length) : wr.cell? ⟨g, j, none⟩ = some (.bool (N.getD j false)) ∧ wr.frozen? ⟨g, j, none⟩ = false := by
  obtain ⟨g2, c2, e, _, _, _, _, h1, h2⟩ := h.own.cells (by omega)
  injection e with e1
  injection e1 with e1
  injection e1 with e1
  subst e1
  exact ⟨h1 j hj, h2 j⟩
theorem Tn.set {g cap len : Nat} (h : Tn w p n S R m S2 R2 k fv wv F W (.slice (some ⟨g, 0, none⟩) len cap) N wr) (hl : N.length = len) (j : Nat) (b : Bool) :
    Tn w p n S R m S2 R2 k fv wv F W (.slice (some ⟨g, 0, none⟩) len cap) (N.set j b) (wr.setCell ⟨g, j, none⟩ (.bool b)) := by
  have hlt := h.own.lt g rfl
  have hg : wr.grownBy (wr.setCell ⟨g, j, none⟩ (.bool b)) (some g) := ⟨rfl, rfl, rfl, by simp, fun i hi hne => Below.heap_setCell _ _ _ _ (fun e => hne (by rw [e]))⟩
  exact h.push (h.own.set hl j b) hg
end
end Go.Proofs.YtnhlhjehocngcaaGreatDoor

namespace Go.Proofs.YtnhlhjehocngcaaGreatDoor
open Go.RowKit
set_option linter.unusedVariables false
set_option maxRecDepth 100000
theorem getD_setF (l : List Bool) (i j : Nat) : (l.set i false).getD j false = true ↔ l.getD j false = true ∧ j ≠ i := by
  simp only [List.getD_eq_getElem?_getD, List.getElem?_set]
  by_cases e : i = j
  · subst e
    rw [if_pos rfl]
    constructor
    · intro h
      split at h
      · simp at h
      · simp at h
    · rintro ⟨_, h⟩; exact absurd rfl h
  · rw [if_neg e]
    constructor
    · intro h; exact ⟨h, fun e2 => e e2.symm⟩
    · rintro ⟨h, _⟩; exact h
theorem clrN_get (N : List Bool) (s step q : Nat) : ∀ K, (clrN N s step K).getD q false = true ↔ N.getD q false = true ∧ ∀ j, j < K → q ≠ s + step * j
  | 0 => by simp [clrN]
  | K + 1 => by
    unfold clrN
    rw [getD_setF, clrN_get N s step q K]
    constructor
    · rintro ⟨⟨h1, h2⟩, h3⟩
      refine ⟨h1, fun j hj => ?_⟩
      by_cases e : j = K
      · rw [e]; exact h3
      · exact h2 j (by omega)
    · rintro ⟨h1, h2⟩
      exact ⟨⟨h1, fun j hj => h2 j (by omega)⟩, h2 K (by omega)⟩
theorem trS_get (n m : Nat) (W : List Bool) (step : Nat) (N : List Bool) (q : Nat) : ∀ s, (trS n m W step N s).getD q false = true ↔ N.getD q false = true ∧ ∀ r, r < s → keepB n m W step r = true ∨ ∀ j, j < n * m + 1 → q ≠ r + step * j
  | 0 => by simp [trS]
  | s + 1 => by
    unfold trS
    by_cases hk : keepB n m W step s = true
    · rw [if_pos hk, trS_get n m W step N q s]
      constructor
      · rintro ⟨h1, h2⟩
        refine ⟨h1, fun r hr => ?_⟩
        by_cases e : r = s
        · rw [e]; exact .inl hk
        · exact h2 r (by omega)
      · rintro ⟨h1, h2⟩
        exact ⟨h1, fun r hr => h2 r (by omega)⟩
    · rw [if_neg hk, clrN_get, trS_get n m W step N q s]
      constructor
      · rintro ⟨⟨h1, h2⟩, h3⟩
        refine ⟨h1, fun r hr => ?_⟩
        by_cases e : r = s
        · rw [e]; exact .inr h3
        · exact h2 r (by omega)
      · rintro ⟨h1, h2⟩
        refine ⟨⟨h1, fun r hr => h2 r (by omega)⟩, ?_⟩
        rcases h2 s (by omega) with h | h
        · exact absurd h hk
        · exact h
theorem trI_get (n m : Nat) (W F : List Bool) (q : Nat) : ∀ i, (trI n m W F i).getD q false = true ↔ F.getD q false = true ∧ ∀ i', i' < i → ∀ r, r < F.length → keepB n m W ((n * m + 1) ^ i') r = true ∨ ∀ j, j < n * m + 1 → q ≠ r + (n * m + 1) ^ i' * j
  | 0 => by simp [trI]
  | i + 1 => by
    unfold trI
    rw [trS_get, trI_get n m W F q i]
    constructor
    · rintro ⟨⟨h1, h2⟩, h3⟩
      refine ⟨h1, fun i' hi' => ?_⟩
      by_cases e : i' = i
      · rw [e]; exact h3
      · exact h2 i' (by omega)
    · rintro ⟨h1, h2⟩
      exact ⟨⟨h1, fun i' hi' => h2 i' (by omega)⟩, h2 i (by omega)⟩
/-- More is won with more. -/
theorem ansF_mono {n m : Nat} {f g : Nat → Nat → Bool} (h : ∀ x y, f x y = true → g x y = true) (ha : ansF n m f = true) : ansF n m g = true := by
  unfold ansF at ha ⊢
  simp only [Bool.and_eq_true, List.all_eq_true, List.any_eq_true] at ha ⊢
  refine ⟨fun x hx => ?_, fun y hy => ?_⟩
  · obtain ⟨y, hy, h1⟩ := ha.1 x hx
    exact ⟨y, hy, h x y h1⟩
  · obtain ⟨x, hx, h1⟩ := ha.2 y hy
    exact ⟨x, hx, h x y h1⟩
theorem ansF_iff {n m : Nat} {f : Nat → Nat → Bool} : ansF n m f = true ↔ (∀ x, x < n → ∃ y, y < m ∧ f x y = true) ∧ ∀ y, y < m → ∃ x, x < n ∧ f x y = true := by
  unfold ansF
  simp only [Bool.and_eq_true, List.all_eq_true, List.any_eq_true, List.mem_range]
theorem ansF_congr {n m : Nat} {f g : Nat → Nat → Bool} (h : ∀ x y, x < n → y < m → f x y = g x y) : ansF n m f = ansF n m g := by
  rw [Bool.eq_iff_iff, ansF_iff, ansF_iff]
  constructor
  · rintro ⟨h1, h2⟩
    refine ⟨fun x hx => ?_, fun y hy => ?_⟩
    · obtain ⟨y, hy, h3⟩ := h1 x hx; exact ⟨y, hy, by rw [← h x y hx hy]; exact h3⟩
    · obtain ⟨x, hx, h3⟩ := h2 y hy; exact ⟨x, hx, by rw [← h x y hx hy]; exact h3⟩
  · rintro ⟨h1, h2⟩
    refine ⟨fun x hx => ?_, fun y hy => ?_⟩
    · obtain ⟨y, hy, h3⟩ := h1 x hx; exact ⟨y, hy, by rw [h x y hx hy]; exact h3⟩
    · obtain ⟨x, hx, h3⟩ := h2 y hy; exact ⟨x, hx, by rw [h x y hx hy]; exact h3⟩
/-- What is won after some turns. -/
def lev (n m k : Nat) (F : List Bool) : Nat → List Bool
  | 0 => F
  | t + 1 => turnU n m k F (lev n m k F t)
theorem lev_len (n m k : Nat) (F : List Bool) : ∀ t, (lev n m k F t).length = F.length
  | 0 => rfl
  | t + 1 => turnU_len _ _ _ _ _
/-- The elements under pebbles. -/
def layN (L : List Int) : List Nat := (L.filter fun x => decide (0 ≤ x)).map Int.toNat
theorem layN_cons (x : Int) (L : List Int) : layN (x :: L) = if 0 ≤ x then x.toNat :: layN L else layN L := by
  unfold layN
  by_cases h : 0 ≤ x
  · rw [if_pos h, List.filter_cons_of_pos (by simpa using h)]; rfl
  · rw [if_neg h, List.filter_cons_of_neg (by simpa using h)]
theorem layN_lt {n : Nat} {L : List Int} (h : ∀ x ∈ L, -1 ≤ x ∧ x < (n : Int)) : ∀ z ∈ layN L, z < n := by
  intro z hz
  unfold layN at hz
  obtain ⟨x, hx, rfl⟩ := List.mem_map.1 hz
  have := h x (List.mem_filter.1 hx).1
  have h0 := (List.mem_filter.1 hx).2
  simp at h0
  omega
theorem dig_pos {m : Nat} {x y : Int} (h0 : 0 ≤ x) (hs : x < 0 ↔ y < 0) (hy : y < (m : Int)) (hm : 0 < m) : 0 < dig m x y ∧ (dig m x y - 1) / m = x.toNat ∧ (dig m x y - 1) % m = y.toNat := by
  unfold dig
  rw [if_pos h0]
  have e : 1 + x.toNat * m + y.toNat - 1 = y.toNat + m * x.toNat := by rw [Nat.mul_comm m]; omega
  have hyl : y.toNat < m := by omega
  refine ⟨by omega, ?_, ?_⟩
  · rw [e, Nat.add_mul_div_left _ _ hm, Nat.div_eq_of_lt hyl, Nat.zero_add]
  · rw [e, Nat.add_mul_mod_self_left, Nat.mod_eq_of_lt hyl]
theorem stP_cons (P m : Nat) (x y : Int) (L M : List Int) : stP P m (x :: L) (y :: M) = stP P m L M * P + dig m x y := rfl
theorem ly_stP {n m : Nat} (hm : 0 < m) : ∀ {L M : List Int}, Rdy n m L M → lyA (n * m + 1) m L.length (stP (n * m + 1) m L M) = layN L ∧ lyB (n * m + 1) m L.length (stP (n * m + 1) m L M) = layN M
  | [], [], _ => ⟨rfl, rfl⟩
  | [], _ :: _, h => by have := h.len; simp at this
  | _ :: _, [], h => by have := h.len; simp at this
  | x :: L, y :: M, h => by
    have ih := ly_stP hm h.tail
    have hs : x < 0 ↔ y < 0 := by simpa using h.sg 0
    have hd := dig_lt (n := n) (m := m) (h.la x (by simp)).2 (h.lb y (by simp)).2 hs
    have e1 : stP (n * m + 1) m (x :: L) (y :: M) % (n * m + 1) = dig m x y := by
      rw [stP_cons, Nat.add_comm, Nat.add_mul_mod_self_right, Nat.mod_eq_of_lt hd]
    have e2 : stP (n * m + 1) m (x :: L) (y :: M) / (n * m + 1) = stP (n * m + 1) m L M := by
      rw [stP_cons, Nat.add_comm, Nat.add_mul_div_right _ _ (by omega), Nat.div_eq_of_lt hd, Nat.zero_add]
    rw [List.length_cons, layN_cons, layN_cons]
    unfold lyA lyB
    rw [e1, e2, ih.1, ih.2]
    by_cases h0 : 0 ≤ x
    · obtain ⟨d1, d2, d3⟩ := dig_pos h0 hs (h.lb y (by simp)).2 hm
      rw [if_pos d1, if_pos d1, if_pos h0, if_pos (show 0 ≤ y by omega), d2, d3]
      exact ⟨rfl, rfl⟩
    · have hz : dig m x y = 0 := by unfold dig; rw [if_neg h0]
      rw [hz, if_neg (show ¬ 0 < 0 by omega), if_neg (show ¬ 0 < 0 by omega), if_neg h0, if_neg (show ¬ 0 ≤ y by omega)]
      exact ⟨rfl, rfl⟩
theorem stP_digit {n m : Nat} : ∀ {L M : List Int} (i : Nat), Rdy n m L M → i < L.length → stP (n * m + 1) m L M / (n * m + 1) ^ i % (n * m + 1) = dig m (L.getD i 0) (M.getD i 0)
  | [], _, i, _, hi => by simp at hi
  | _ :: _, [], i, h, _ => by have := h.len; simp at this
  | x :: L, y :: M, 0, h, _ => by
    have hs : x < 0 ↔ y < 0 := by simpa using h.sg 0
    have hd := dig_lt (n := n) (m := m) (h.la x (by simp)).2 (h.lb y (by simp)).2 hs
    rw [Nat.pow_zero, Nat.div_one, stP_cons, Nat.add_comm, Nat.add_mul_mod_self_right, Nat.mod_eq_of_lt hd]
    simp
  | x :: L, y :: M, i + 1, h, hi => by
    have hs : x < 0 ↔ y < 0 := by simpa using h.sg 0
    have hd := dig_lt (n := n) (m := m) (h.la x (by simp)).2 (h.lb y (by simp)).2 hs
    have e2 : stP (n * m + 1) m (x :: L) (y :: M) / (n * m + 1) = stP (n * m + 1) m L M := by
      rw [stP_cons, Nat.add_comm, Nat.add_mul_div_right _ _ (by omega), Nat.div_eq_of_lt hd, Nat.zero_add]
    rw [Nat.pow_succ, Nat.mul_comm ((n * m + 1) ^ i), ← Nat.div_div_eq_div_mul, e2, stP_digit i h.tail (by simpa using hi)]
    simp
theorem stP_set (P m : Nat) (x y : Int) : ∀ {L M : List Int} (i : Nat), L.length = M.length → i < L.length → stP P m (L.set i x) (M.set i y) + P ^ i * dig m (L.getD i 0) (M.getD i 0) = stP P m L M + P ^ i * dig m x y
  | [], _, i, _, hi => by simp at hi
  | _ :: _, [], i, h, _ => by simp at h
  | x' :: L, y' :: M, 0, h, _ => by
    simp only [List.set_cons_zero, stP_cons, Nat.pow_zero, Nat.one_mul]
    simp
    omega
  | x' :: L, y' :: M, i + 1, h, hi => by
    have ih := stP_set P m x y (L := L) (M := M) i (by simpa using h) (by simpa using hi)
    simp only [List.set_cons_succ, stP_cons]
    have e : (x' :: L).getD (i + 1) 0 = L.getD i 0 ∧ (y' :: M).getD (i + 1) 0 = M.getD i 0 := by simp
    rw [e.1, e.2]
    generalize dig m (L.getD i 0) (M.getD i 0) = d1 at *
    generalize dig m x y = d2 at *
    generalize stP P m (L.set i x) (M.set i y) = a at *
    generalize stP P m L M = b at *
    rw [Nat.pow_succ]
    have h2 : (a + P ^ i * d1) * P = (b + P ^ i * d2) * P := by rw [ih]
    rw [Nat.add_mul, Nat.add_mul] at h2
    have e1 : P ^ i * P * d1 = P ^ i * d1 * P := by rw [Nat.mul_assoc, Nat.mul_comm P d1, ← Nat.mul_assoc]
    have e2 : P ^ i * P * d2 = P ^ i * d2 * P := by rw [Nat.mul_assoc, Nat.mul_comm P d2, ← Nat.mul_assoc]
    rw [e1, e2]
    omega
theorem getD_setI (L : List Int) (i j : Nat) (x : Int) (hi : i < L.length) : (L.set i x).getD j 0 = if i = j then x else L.getD j 0 := by
  simp only [List.getD_eq_getElem?_getD, List.getElem?_set]
  by_cases e : i = j
  · subst e
    rw [if_pos rfl, if_pos rfl, if_pos hi]
    rfl
  · rw [if_neg e, if_neg e]
theorem mem_setI {L : List Int} {i : Nat} {x z : Int} (h : z ∈ L.set i x) : z ∈ L ∨ z = x := by
  rcases List.mem_or_eq_of_mem_set h with h | h
  · exact .inl h
  · exact .inr h
theorem Rdy.set {n m : Nat} {L M : List Int} (h : Rdy n m L M) (i : Nat) (x y : Int) (hx : -1 ≤ x ∧ x < (n : Int)) (hy : -1 ≤ y ∧ y < (m : Int)) (hs : x < 0 ↔ y < 0) : Rdy n m (L.set i x) (M.set i y) := by
  refine ⟨by rw [List.length_set, List.length_set, h.len], fun z hz => ?_, fun z hz => ?_, fun j => ?_⟩
  · rcases mem_setI hz with hz | rfl
    · exact h.la z hz
    · exact hx
  · rcases mem_setI hz with hz | rfl
    · exact h.lb z hz
    · exact hy
  · by_cases hi : i < L.length
    · rw [getD_setI _ _ _ _ hi, getD_setI _ _ _ _ (by rw [← h.len]; exact hi)]
      split
      · exact hs
      · exact h.sg j
    · rw [List.set_eq_of_length_le (by omega), List.set_eq_of_length_le (by have := h.len; omega)]
      exact h.sg j
theorem Rdy.put {n m : Nat} {L M : List Int} (h : Rdy n m L M) (i : Nat) {x y : Nat} (hx : x < n) (hy : y < m) : Rdy n m (L.set i (x : Int)) (M.set i (y : Int)) :=
  h.set i _ _ (by omega) (by omega) (by omega)
theorem dig_nat (m x y : Nat) : dig m (x : Int) (y : Int) = 1 + x * m + y := by
  unfold dig
  rw [if_pos (by omega)]
  simp
/-- A way is won after a turn more. -/
theorem turn_at {n m k : Nat} {F W : List Bool} {L M : List Int} (h : Rdy n m L M) (hk : L.length = k) (hF : F.length = (n * m + 1) ^ k) :
    (turnU n m k F W).getD (stP (n * m + 1) m L M) false = true ↔ F.getD (stP (n * m + 1) m L M) false = true ∧ ∀ i, i < k → ansF n m (fun x y => W.getD (stP (n * m + 1) m (L.set i (x : Int)) (M.set i (y : Int))) false) = true := by
  unfold turnU
  rw [trI_get]
  have hlen := h.len
  have hq := stP_lt h
  rw [hk, ← hF] at hq
  obtain ⟨P, hP⟩ : ∃ P, n * m + 1 = P := ⟨_, rfl⟩
  have hPp : 0 < P := by omega
  rw [hP] at hq
  have key : ∀ i, i < k → ((∀ r, r < F.length → keepB n m W (P ^ i) r = true ∨ ∀ j, j < P → stP P m L M ≠ r + P ^ i * j) ↔ ansF n m (fun x y => W.getD (stP P m (L.set i (x : Int)) (M.set i (y : Int))) false) = true) := by
    intro i hi
    have hpi : 0 < P ^ i := Nat.pow_pos hPp
    have hdg := stP_digit i h (by omega)
    have hd := dig_lt (n := n) (m := m) (x := L.getD i 0) (y := M.getD i 0) (h.la _ (by rw [List.getD_eq_getElem?_getD, List.getElem?_eq_getElem (by omega)]; exact List.getElem_mem _)).2 (h.lb _ (by rw [List.getD_eq_getElem?_getD, List.getElem?_eq_getElem (by omega)]; exact List.getElem_mem _)).2 (h.sg i)
    rw [hP] at hdg hd
    obtain ⟨d, hde⟩ : ∃ d, dig m (L.getD i 0) (M.getD i 0) = d := ⟨_, rfl⟩
    -- the way without the pebble
    have hz : stP P m (L.set i (-1)) (M.set i (-1)) + P ^ i * d = stP P m L M := by
      have := stP_set P m (-1) (-1) i hlen (by omega)
      rw [hde, show dig m (-1) (-1) = 0 from rfl, Nat.mul_zero, Nat.add_zero] at this
      exact this
    have hrz := h.set i (-1) (-1) (by omega) (by omega) (by omega)
    have hzd : stP P m (L.set i (-1)) (M.set i (-1)) / P ^ i % P = 0 := by
      have := stP_digit i hrz (by rw [List.length_set]; omega)
      rw [hP, getD_setI _ _ _ _ (by omega), getD_setI _ _ _ _ (by omega), if_pos rfl, if_pos rfl] at this
      rw [this]; rfl
    have hw : ∀ x y : Nat, stP P m (L.set i (x : Int)) (M.set i (y : Int)) = stP P m (L.set i (-1)) (M.set i (-1)) + P ^ i * (1 + x * m + y) := by
      intro x y
      have h1 := stP_set P m (x : Int) (y : Int) i hlen (by omega)
      rw [hde, dig_nat] at h1
      omega
    obtain ⟨z, hze⟩ : ∃ z, stP P m (L.set i (-1)) (M.set i (-1)) = z := ⟨_, rfl⟩
    rw [hze] at hz hzd
    rw [hde] at hdg hd
    have hzl : z < F.length := by omega
    have ha : ansB n m W z (P ^ i) = ansF n m (fun x y => W.getD (stP P m (L.set i (x : Int)) (M.set i (y : Int))) false) := by
      unfold ansB
      congr 1
      funext x y
      unfold fW
      rw [hw, hze]
    rw [← ha]
    constructor
    · intro hh
      rcases hh z hzl with h1 | h1
      · unfold keepB at h1
        rw [hP, hzd] at h1
        simpa using h1
      · exact absurd hz.symm (h1 d hd)
    · intro hans r hr
      by_cases hr0 : r / P ^ i % P = 0
      · by_cases hex : ∃ j, j < P ∧ stP P m L M = r + P ^ i * j
        · obtain ⟨j, hj, hje⟩ := hex
          left
          have h1 : (r + P ^ i * j) / P ^ i = r / P ^ i + j := Nat.add_mul_div_left r j hpi
          have h2 : d = j := by
            rw [← hdg, hje, h1, Nat.add_mod, hr0, Nat.zero_add, Nat.mod_mod, Nat.mod_eq_of_lt hj]
          have h3 : r = z := by
            rw [← h2, ← hz] at hje
            generalize P ^ i * d = pd at *
            omega
          unfold keepB
          rw [h3, hans, Bool.or_true]
        · exact .inr fun j hj e => hex ⟨j, hj, e⟩
      · left
        unfold keepB
        rw [hP, decide_eq_true (show r / P ^ i % P ≠ 0 from hr0)]
        rfl
  rw [hP]
  constructor
  · rintro ⟨h1, h2⟩
    exact ⟨h1, fun i hi => (key i hi).1 (h2 i hi)⟩
  · rintro ⟨h1, h2⟩
    exact ⟨h1, fun i hi => (key i hi).2 (h2 i hi)⟩
/-- Whether the second player wins so many turns. -/
def pwB (a b : Gs.St) (n m : Nat) : Nat → List Int → List Int → Bool
  | 0, L, M => Gs.same a (layN L) b (layN M)
  | t + 1, L, M => Gs.same a (layN L) b (layN M) && (List.range L.length).all fun i => ansF n m fun x y => pwB a b n m t (L.set i (x : Int)) (M.set i (y : Int))
theorem fit_at {a b : Gs.St} {n m : Nat} {L M : List Int} (h : Rdy n m L M) (hm : 0 < m) : (fitL a b n m L.length).getD (stP (n * m + 1) m L M) false = Gs.same a (layN L) b (layN M) := by
  have hq := stP_lt h
  unfold fitL
  rw [List.getD_eq_getElem?_getD, List.getElem?_map, List.getElem?_range hq]
  show fitB a b n m L.length _ = _
  unfold fitB
  rw [(ly_stP hm h).1, (ly_stP hm h).2]
theorem lev_at {a b : Gs.St} {n m : Nat} (hm : 0 < m) : ∀ (t : Nat) {L M : List Int}, Rdy n m L M → (lev n m L.length (fitL a b n m L.length) t).getD (stP (n * m + 1) m L M) false = pwB a b n m t L M
  | 0, L, M, h => fit_at h hm
  | t + 1, L, M, h => by
    unfold lev pwB
    rw [Bool.eq_iff_iff, turn_at h rfl (fitL_len _ _ _ _ _), Bool.and_eq_true, fit_at h hm, List.all_eq_true]
    have e : ∀ i, i < L.length → ansF n m (fun x y => (lev n m L.length (fitL a b n m L.length) t).getD (stP (n * m + 1) m (L.set i (x : Int)) (M.set i (y : Int))) false) = ansF n m fun x y => pwB a b n m t (L.set i (x : Int)) (M.set i (y : Int)) := by
      intro i hi
      apply ansF_congr
      intro x y hx hy
      have := lev_at (a := a) (b := b) hm t (h.put i hx hy)
      rw [List.length_set] at this
      exact this
    constructor
    · rintro ⟨h1, h2⟩
      exact ⟨h1, fun i hi => by rw [← e i (List.mem_range.1 hi)]; exact h2 i (List.mem_range.1 hi)⟩
    · rintro ⟨h1, h2⟩
      exact ⟨h1, fun i hi => by rw [e i hi]; exact h2 i (List.mem_range.2 hi)⟩
end Go.Proofs.YtnhlhjehocngcaaGreatDoor

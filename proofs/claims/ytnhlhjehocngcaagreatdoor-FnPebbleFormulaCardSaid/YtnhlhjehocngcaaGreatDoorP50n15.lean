/- Contracts of the program's functions and what they compute: part 15. Conditions: those that each theorem states. -/
import Derived.Test.YtnhlhjehocngcaaGreatDoorP50n8
namespace Go.Proofs.YtnhlhjehocngcaaGreatDoor
open Go.RowKit
set_option linter.unusedVariables false
set_option maxRecDepth 100000
/-- Pebbles of a structure of so many elements. -/
def Pbs (n : Nat) (L : List Int) : Prop := ∀ x ∈ L, -1 ≤ x ∧ x < (n : Int)
theorem Pbs.set {n : Nat} {L : List Int} (h : Pbs n L) (i : Nat) {x : Nat} (hx : x < n) : Pbs n (L.set i (x : Int)) := fun z hz => by
  rcases mem_setI hz with hz | rfl
  · exact h z hz
  · omega
/-- The number of pebbles. -/
def ixL (B : Nat) (L : List Int) : Nat := L.foldl (fun acc x => acc * B + (x + 1).toNat) 0
def atL (B : Nat) : Nat → Nat → List Int
  | 0, _ => []
  | k + 1, s => atL B k (s / B) ++ [((s % B : Nat) : Int) - 1]
theorem atL_len (B : Nat) : ∀ k s, (atL B k s).length = k
  | 0, _ => rfl
  | k + 1, s => by unfold atL; rw [List.length_append, atL_len B k]; rfl
theorem atL_pbs {n : Nat} : ∀ k s, Pbs n (atL (n + 1) k s)
  | 0, _, x, hx => by simp [atL] at hx
  | k + 1, s, x, hx => by
    unfold atL at hx
    rcases List.mem_append.1 hx with hx | hx
    · exact atL_pbs k _ x hx
    · rw [List.mem_singleton.1 hx]
      have := Nat.mod_lt s (show 0 < n + 1 by omega)
      omega
theorem ixL_snoc (B : Nat) (L : List Int) (x : Int) : ixL B (L ++ [x]) = ixL B L * B + (x + 1).toNat := by
  unfold ixL
  rw [List.foldl_append]
  rfl
theorem snoc_cases {α : Type} (L : List α) : L = [] ∨ ∃ L' x, L = L' ++ [x] := by
  rcases List.eq_nil_or_concat L with h | ⟨L', x, h⟩
  · exact .inl h
  · exact .inr ⟨L', x, by rw [h, List.concat_eq_append]⟩
theorem ixL_lt {n : Nat} : ∀ (k : Nat) {L : List Int}, L.length = k → Pbs n L → ixL (n + 1) L < (n + 1) ^ k
  | 0, L, hl, _ => by
    rw [List.length_eq_zero_iff.1 hl]
    simp [ixL]
  | k + 1, L, hl, h => by
    rcases snoc_cases L with rfl | ⟨L', x, rfl⟩
    · simp at hl
    · rw [List.length_append, List.length_singleton] at hl
      have h1 := ixL_lt k (L := L') (by omega) (fun z hz => h z (by simp [hz]))
      have h2 := h x (by simp)
      rw [ixL_snoc, Nat.pow_succ]
      generalize ixL (n + 1) L' = s at *
      generalize (n + 1) ^ k = t at *
      have h3 : (s + 1) * (n + 1) ≤ t * (n + 1) := Nat.mul_le_mul_right _ h1
      rw [Nat.add_mul, Nat.one_mul] at h3
      omega
theorem atL_ixL {n : Nat} : ∀ (k : Nat) {L : List Int}, L.length = k → Pbs n L → atL (n + 1) k (ixL (n + 1) L) = L
  | 0, L, hl, _ => by rw [List.length_eq_zero_iff.1 hl]; rfl
  | k + 1, L, hl, h => by
    rcases snoc_cases L with rfl | ⟨L', x, rfl⟩
    · simp at hl
    · rw [List.length_append, List.length_singleton] at hl
      have h2 := h x (by simp)
      have ih := atL_ixL k (L := L') (by omega) (fun z hz => h z (by simp [hz]))
      unfold atL
      rw [ixL_snoc]
      have e1 : (ixL (n + 1) L' * (n + 1) + (x + 1).toNat) / (n + 1) = ixL (n + 1) L' := by
        rw [Nat.add_comm, Nat.add_mul_div_right _ _ (by omega), Nat.div_eq_of_lt (by omega), Nat.zero_add]
      have e2 : (ixL (n + 1) L' * (n + 1) + (x + 1).toNat) % (n + 1) = (x + 1).toNat := by
        rw [Nat.add_comm, Nat.add_mul_mod_self_right, Nat.mod_eq_of_lt (by omega)]
      rw [e1, e2, ih]
      congr 2
      omega
/-- The atoms of pebbles. -/
def pebAt (a : Gs.St) (L : List Int) : List UInt8 := (L.map fun x => if x < 0 then (45 : UInt8) else 43) ++ Gs.atoms a (layN L)
theorem pebAt_iff {a b : Gs.St} {L M : List Int} (hl : L.length = M.length) (hs : ∀ j : Nat, (L.getD j 0 < 0) ↔ (M.getD j 0 < 0)) : pebAt a L = pebAt b M ↔ Gs.atoms a (layN L) = Gs.atoms b (layN M) := by
  have e : (L.map fun x => if x < 0 then (45 : UInt8) else 43) = M.map fun x => if x < 0 then (45 : UInt8) else 43 := by
    apply List.ext_getElem
    · simp [hl]
    · intro j h1 h2
      have hj : j < L.length := by simpa using h1
      have hj2 : j < M.length := by omega
      have := hs j
      rw [List.getD_eq_getElem?_getD, List.getElem?_eq_getElem hj, List.getD_eq_getElem?_getD, List.getElem?_eq_getElem hj2] at this
      simp only [List.getElem_map]
      have h3 : (L[j] < 0) ↔ (M[j] < 0) := this
      by_cases h4 : L[j] < 0
      · rw [if_pos h4, if_pos (h3.1 h4)]
      · rw [if_neg h4, if_neg (fun h5 => h4 (h3.2 h5))]
  unfold pebAt
  rw [e]
  constructor
  · exact List.append_cancel_left
  · intro h; rw [h]
/-- All numbers of a list put in order, each once. -/
def insAll (l : List Nat) : List Nat := l.foldl Gs.ins []
theorem insAll_snoc (l : List Nat) (x : Nat) : insAll (l ++ [x]) = Gs.ins (insAll l) x := by
  unfold insAll
  rw [List.foldl_append]
  rfl
theorem insAll_facts (l : List Nat) : (∀ x, x ∈ insAll l ↔ x ∈ l) ∧ (insAll l).Pairwise (· < ·) ∧ (insAll l).length ≤ l.length := by
  have key : ∀ (l acc : List Nat), acc.Pairwise (· < ·) → (∀ x, x ∈ l.foldl Gs.ins acc ↔ x ∈ acc ∨ x ∈ l) ∧ (l.foldl Gs.ins acc).Pairwise (· < ·) ∧ (l.foldl Gs.ins acc).length ≤ acc.length + l.length := by
    intro l
    induction l with
    | nil => intro acc h; exact ⟨by simp, h, by simp⟩
    | cons y l ih =>
      intro acc h
      obtain ⟨h1, h2, h3⟩ := ih (Gs.ins acc y) (Gs.ins_sorted h)
      have hlen : (Gs.ins acc y).length ≤ acc.length + 1 := by
        clear h h1 h2 h3
        induction acc with
        | nil => simp [Gs.ins]
        | cons z acc ih2 =>
          unfold Gs.ins
          split
          · simp
          · split
            · simp
            · simp only [List.length_cons]; omega
      refine ⟨fun x => ?_, h2, by simp only [List.foldl_cons, List.length_cons]; omega⟩
      rw [List.foldl_cons, h1 x, Gs.mem_ins]
      simp only [List.mem_cons]
      constructor
      · rintro ((h | h) | h)
        · exact .inr (.inl h)
        · exact .inl h
        · exact .inr (.inr h)
      · rintro (h | h | h)
        · exact .inl (.inr h)
        · exact .inl (.inl h)
        · exact .inr h
  obtain ⟨h1, h2, h3⟩ := key l [] List.Pairwise.nil
  exact ⟨fun x => by rw [show insAll l = l.foldl Gs.ins [] from rfl, h1 x]; simp, h2, Nat.le_trans h3 (by simp)⟩
theorem insAll_eq {l l' : List Nat} : insAll l = insAll l' ↔ ∀ x, x ∈ l ↔ x ∈ l' := by
  obtain ⟨h1, h2, _⟩ := insAll_facts l
  obtain ⟨h3, h4, _⟩ := insAll_facts l'
  constructor
  · intro e x
    rw [← h1, ← h3, e]
  · intro h
    exact Gs.sorted_ext h2 h4 fun x => by rw [h1, h3, h]
/-- What comes next with a pebble. -/
def nxtL (n k : Nat) (c : List Nat) (s j : Nat) : List Nat := insAll ((List.range n).map fun x : Nat => c.getD (ixL (n + 1) ((atL (n + 1) k s).set j (x : Int))) 0)
def semis (n k : Nat) (c : List Nat) (s K : Nat) : List UInt8 := (List.range K).flatMap fun j => Gs.commas (nxtL n k c s j) ++ [59]
theorem semis_succ (n k : Nat) (c : List Nat) (s K : Nat) : semis n k c s (K + 1) = semis n k c s K ++ (Gs.commas (nxtL n k c s K) ++ [59]) := by
  unfold semis
  rw [List.range_succ, List.flatMap_append]
  simp
/-- The description of pebbles after one more turn. -/
def rndS (n k : Nat) (c : List Nat) (s : Nat) : List UInt8 := 114 :: (Lib.decDigits (c.getD s 0) ++ semis n k c s k)
theorem splitP {p : UInt8 → Prop} : ∀ {a b c d : List UInt8}, (∀ x ∈ a, p x) → (∀ x ∈ c, p x) → (b = [] ∨ ∃ y t, b = y :: t ∧ ¬ p y) → (d = [] ∨ ∃ y t, d = y :: t ∧ ¬ p y) → a ++ b = c ++ d → a = c ∧ b = d
  | [], b, [], d, _, _, _, _, h => ⟨rfl, h⟩
  | [], b, y :: c, d, _, hc, hb, _, h => by
    rcases hb with rfl | ⟨z, t, rfl, hz⟩
    · simp at h
    · simp at h
      rw [h.1] at hz
      exact absurd (hc y (by simp)) hz
  | x :: a, b, [], d, ha, _, _, hd, h => by
    rcases hd with rfl | ⟨z, t, rfl, hz⟩
    · simp at h
    · simp at h
      rw [← h.1] at hz
      exact absurd (ha x (by simp)) hz
  | x :: a, b, y :: c, d, ha, hc, hb, hd, h => by
    simp only [List.cons_append, List.cons.injEq] at h
    obtain ⟨h1, h2⟩ := splitP (p := p) (fun z hz => ha z (by simp [hz])) (fun z hz => hc z (by simp [hz])) hb hd h.2
    exact ⟨by rw [h.1, h1], h2⟩
theorem dig_rng (u : Nat) : ∀ x ∈ Lib.decDigits u, x ≠ 59 ∧ x ≠ 44 := by
  intro x hx
  have := Gs.dig_ne u x hx
  constructor
  · rintro rfl; exact absurd this.2 (by decide)
  · rintro rfl; exact absurd this.1 (by decide)
theorem commas_59 (L : List Nat) : ∀ x ∈ Gs.commas L, x ≠ 59 := by
  intro x hx
  unfold Gs.commas at hx
  obtain ⟨m, _, hm⟩ := List.mem_flatMap.1 hx
  rcases List.mem_cons.1 hm with rfl | hm
  · decide
  · exact (dig_rng m x hm).1
theorem flat59_inj {f g : Nat → List UInt8} (hf : ∀ j, ∀ x ∈ f j, x ≠ 59) (hg : ∀ j, ∀ x ∈ g j, x ≠ 59) : ∀ js : List Nat, (js.flatMap fun j => f j ++ [59]) = (js.flatMap fun j => g j ++ [59]) → ∀ j ∈ js, f j = g j
  | [], _, j, hj => by cases hj
  | i :: js, h, j, hj => by
    simp only [List.flatMap_cons, List.append_assoc] at h
    obtain ⟨h1, h2⟩ := splitP (p := fun x => x ≠ 59) (hf i) (hg i) (.inr ⟨59, _, rfl, fun h => h rfl⟩) (.inr ⟨59, _, rfl, fun h => h rfl⟩) h
    rcases List.mem_cons.1 hj with rfl | hj
    · exact h1
    · exact flat59_inj hf hg js (by simpa using h2) j hj
theorem semis_form (n k : Nat) (c : List Nat) (s : Nat) : ∀ K, semis n k c s K = [] ∨ ∃ y t, semis n k c s K = y :: t ∧ ¬ (y ≠ 59 ∧ y ≠ 44)
  | 0 => .inl rfl
  | K + 1 => by
    right
    unfold semis
    rw [List.range_succ_eq_map, List.flatMap_cons]
    rcases Gs.commas_form (nxtL n k c s 0) with h | ⟨t, h⟩
    · rw [h]; exact ⟨59, _, rfl, fun h => h.1 rfl⟩
    · rw [h]; exact ⟨44, _, rfl, fun h => h.2 rfl⟩
theorem rndS_inj {n m k : Nat} {c d : List Nat} {s r : Nat} : rndS n k c s = rndS m k d r ↔ c.getD s 0 = d.getD r 0 ∧ ∀ j, j < k → nxtL n k c s j = nxtL m k d r j := by
  constructor
  · intro h
    unfold rndS at h
    injection h with _ h
    obtain ⟨h1, h2⟩ := splitP (p := fun x => x ≠ 59 ∧ x ≠ 44) (dig_rng _) (dig_rng _) (semis_form n k c s k) (semis_form m k d r k) h
    refine ⟨Gs.dig_inj _ _ h1, fun j hj => Gs.commas_inj ?_⟩
    exact flat59_inj (fun j => commas_59 _) (fun j => commas_59 _) (List.range k) h2 j (List.mem_range.2 hj)
  · rintro ⟨h1, h2⟩
    unfold rndS semis
    rw [h1]
    congr 2
    have key : ∀ js : List Nat, (∀ j ∈ js, j < k) → (js.flatMap fun j => Gs.commas (nxtL n k c s j) ++ [59]) = js.flatMap fun j => Gs.commas (nxtL m k d r j) ++ [59] := by
      intro js
      induction js with
      | nil => intro _; rfl
      | cons a js ih =>
        intro hj
        rw [List.flatMap_cons, List.flatMap_cons, h2 a (hj a (by simp)), ih (fun j h => hj j (by simp [h]))]
    exact key _ fun j hj => List.mem_range.1 hj
/-- In the descriptions D, the numbers of a list are those of some texts. -/
def LevN (D : List (List UInt8)) (len : Nat) (str : Nat → List UInt8) (c : List Nat) : Prop := c.length = len ∧ ∀ i, i < len → D[c.getD i 0]? = some (str i)
theorem LevN.more {D E : List (List UInt8)} {len : Nat} {str : Nat → List UInt8} {c : List Nat} (h : LevN D len str c) : LevN (D ++ E) len str c :=
  ⟨h.1, fun i hi => by rw [List.getElem?_append_left (List.getElem?_eq_some_iff.1 (h.2 i hi)).1]; exact h.2 i hi⟩
/-- The numbers of two lists are the same exactly where the second player wins. -/
def EqT (a b : Gs.St) (n m k t : Nat) (c d : List Nat) : Prop :=
  ∀ L M : List Int, Pbs n L → Pbs m M → L.length = k → M.length = k → (∀ j : Nat, (L.getD j 0 < 0) ↔ (M.getD j 0 < 0)) → (c.getD (ixL (n + 1) L) 0 = d.getD (ixL (m + 1) M) 0 ↔ pwB a b n m t L M = true)
theorem levN_iff {D : List (List UInt8)} (hD : D.Nodup) {l1 l2 : Nat} {s1 s2 : Nat → List UInt8} {c d : List Nat} (h1 : LevN D l1 s1 c) (h2 : LevN D l2 s2 d) {i j : Nat} (hi : i < l1) (hj : j < l2) : c.getD i 0 = d.getD j 0 ↔ s1 i = s2 j := by
  have e1 := h1.2 i hi
  have e2 := h2.2 j hj
  constructor
  · intro h
    rw [h, e2] at e1
    exact (Option.some.inj e1).symm
  · intro h
    rw [h] at e1
    exact Gs.nodup_at hD e1 e2
theorem eqT_start {a b : Gs.St} {n m k : Nat} {D : List (List UInt8)} (hD : D.Nodup) {c d : List Nat} (h1 : LevN D ((n + 1) ^ k) (fun i => pebAt a (atL (n + 1) k i)) c) (h2 : LevN D ((m + 1) ^ k) (fun i => pebAt b (atL (m + 1) k i)) d) : EqT a b n m k 0 c d := by
  intro L M hL hM hl hm hs
  rw [levN_iff hD h1 h2 (ixL_lt k hl hL) (ixL_lt k hm hM), atL_ixL k hl hL, atL_ixL k hm hM, pebAt_iff (by omega) hs]
  have hll : (layN M).length = (layN L).length := by
    have key : ∀ (L M : List Int), L.length = M.length → (∀ j : Nat, (L.getD j 0 < 0) ↔ (M.getD j 0 < 0)) → (layN M).length = (layN L).length := by
      intro L
      induction L with
      | nil => intro M h _; rw [List.length_eq_zero_iff.1 h.symm]
      | cons x L ih =>
        intro M h hs
        cases M with
        | nil => simp at h
        | cons y M =>
          have h0 : x < 0 ↔ y < 0 := by simpa using hs 0
          have h1 := ih M (by simpa using h) (fun j => by simpa using hs (j + 1))
          rw [layN_cons, layN_cons]
          by_cases hx : 0 ≤ x
          · rw [if_pos hx, if_pos (by omega), List.length_cons, List.length_cons, h1]
          · rw [if_neg hx, if_neg (by omega), h1]
    exact key L M (by omega) hs
  unfold pwB
  rw [Gs.same_iff (layN L).length _ _ rfl hll]
theorem pwB_less {a b : Gs.St} {n m : Nat} : ∀ (t : Nat) {L M : List Int}, pwB a b n m (t + 1) L M = true → pwB a b n m t L M = true
  | 0, L, M, h => by
    unfold pwB at h
    rw [Bool.and_eq_true] at h
    exact h.1
  | t + 1, L, M, h => by
    rw [pwB, Bool.and_eq_true, List.all_eq_true] at h ⊢
    exact ⟨h.1, fun i hi => ansF_mono (fun x y hxy => pwB_less t hxy) (h.2 i hi)⟩
theorem eqT_step {a b : Gs.St} {n m k t : Nat} {D : List (List UInt8)} (hD : D.Nodup) {c d c' d' : List Nat} (he : EqT a b n m k t c d) (h1 : LevN D ((n + 1) ^ k) (rndS n k c) c') (h2 : LevN D ((m + 1) ^ k) (rndS m k d) d') : EqT a b n m k (t + 1) c' d' := by
  intro L M hL hM hl hm hs
  have hset : ∀ (i x y : Nat), ∀ j : Nat, ((L.set i (x : Int)).getD j 0 < 0) ↔ ((M.set i (y : Int)).getD j 0 < 0) := by
    intro i x y j
    by_cases hi : i < k
    · rw [getD_setI _ _ _ _ (by omega), getD_setI _ _ _ _ (by omega)]
      split
      · omega
      · exact hs j
    · rw [List.set_eq_of_length_le (by omega), List.set_eq_of_length_le (by omega)]
      exact hs j
  rw [levN_iff hD h1 h2 (ixL_lt k hl hL) (ixL_lt k hm hM), rndS_inj, he L M hL hM hl hm hs]
  have key : ∀ i, i < k → (nxtL n k c (ixL (n + 1) L) i = nxtL m k d (ixL (m + 1) M) i ↔ ansF n m (fun x y => pwB a b n m t (L.set i (x : Int)) (M.set i (y : Int))) = true) := by
    intro i hi
    unfold nxtL
    rw [insAll_eq, atL_ixL k hl hL, atL_ixL k hm hM, ansF_iff]
    have hxy : ∀ x y : Nat, x < n → y < m → (c.getD (ixL (n + 1) (L.set i (x : Int))) 0 = d.getD (ixL (m + 1) (M.set i (y : Int))) 0 ↔ pwB a b n m t (L.set i (x : Int)) (M.set i (y : Int)) = true) :=
      fun x y hx hy => he _ _ (hL.set i hx) (hM.set i hy) (by rw [List.length_set, hl]) (by rw [List.length_set, hm]) (hset i x y)
    simp only [List.mem_map, List.mem_range]
    constructor
    · intro h
      refine ⟨fun x hx => ?_, fun y hy => ?_⟩
      · obtain ⟨y, hy, e⟩ := (h _).1 ⟨x, hx, rfl⟩
        exact ⟨y, hy, (hxy x y hx hy).1 e.symm⟩
      · obtain ⟨x, hx, e⟩ := (h _).2 ⟨y, hy, rfl⟩
        exact ⟨x, hx, (hxy x y hx hy).1 e⟩
    · rintro ⟨h3, h4⟩ z
      constructor
      · rintro ⟨x, hx, rfl⟩
        obtain ⟨y, hy, e⟩ := h3 x hx
        exact ⟨y, hy, ((hxy x y hx hy).2 e).symm⟩
      · rintro ⟨y, hy, rfl⟩
        obtain ⟨x, hx, e⟩ := h4 y hy
        exact ⟨x, hx, (hxy x y hx hy).2 e⟩
  constructor
  · rintro ⟨h3, h4⟩
    rw [pwB, Bool.and_eq_true, List.all_eq_true]
    refine ⟨?_, fun i hi => ?_⟩
    · cases t with
      | zero => exact h3
      | succ t =>
        rw [pwB, Bool.and_eq_true] at h3
        exact h3.1
    · have hi := List.mem_range.1 hi
      exact (key i (by omega)).1 (h4 i (by omega))
  · intro h
    refine ⟨pwB_less t h, fun i hi => (key i hi).2 ?_⟩
    rw [pwB, Bool.and_eq_true, List.all_eq_true] at h
    exact h.2 i (List.mem_range.2 (by omega))
end Go.Proofs.YtnhlhjehocngcaaGreatDoor

/- Contracts of the program's functions and what they compute: part 21. Conditions: those that each theorem states. -/
import Derived.Test.YtlkemhhkcanmoaaGreatDoorP54n10
namespace Go.Proofs.YtlkemhhkcanmoaaGreatDoor.Gs
set_option linter.unusedVariables false
/-- Whether an element behind an order is related as the next element of another structure. -/
def fitsI (a b : St) (o : List Nat) (x : Nat) : Bool :=
  (a.s x == b.s o.length) && (a.r x x == b.r o.length o.length) && (List.range o.length).all fun k => (a.r x (o.getD k 0) == b.r o.length k) && (a.r (o.getD k 0) x == b.r k o.length)
theorem fitsI_iff {a b : St} {o : List Nat} {x : Nat} : fitsI a b o x = true ↔ a.s x = b.s o.length ∧ a.r x x = b.r o.length o.length ∧ ∀ k, k < o.length → a.r x (o.getD k 0) = b.r o.length k ∧ a.r (o.getD k 0) x = b.r k o.length := by
  unfold fitsI
  simp only [Bool.and_eq_true, beq_iff_eq, List.all_eq_true, List.mem_range, and_assoc]
/-- All orders that begin with some elements, where so many are left. -/
def shapesF (a b : St) : Nat → List Nat → List (List Nat)
  | 0, o => [o]
  | k + 1, o => (List.range a.n).flatMap fun x => if o.contains x || !fitsI a b o x then [] else shapesF a b k (o ++ [x])
/-- Some elements of a, in an order in which they are as the first elements of b. -/
structure Turns (a b : St) (o : List Nat) : Prop where
  nodup : o.Nodup
  lt : ∀ x ∈ o, x < a.n
  s : ∀ i, i < o.length → a.s (o.getD i 0) = b.s i
  r : ∀ i j, i < o.length → j < o.length → a.r (o.getD i 0) (o.getD j 0) = b.r i j
theorem Turns.nil (a b : St) : Turns a b [] := ⟨List.nodup_nil, by simp, by simp, by simp⟩
theorem gd_lt {o : List Nat} {x i : Nat} (h : i < o.length) : (o ++ [x]).getD i 0 = o.getD i 0 := by simp [h, List.getElem?_append_left h]
theorem gd_eq {o : List Nat} {x : Nat} : (o ++ [x]).getD o.length 0 = x := by simp
theorem nodup_snoc {o : List Nat} {x : Nat} : (o ++ [x]).Nodup ↔ o.Nodup ∧ x ∉ o := by
  rw [List.nodup_append]
  constructor
  · rintro ⟨h1, _, h3⟩
    exact ⟨h1, fun hx => h3 x hx x (by simp) rfl⟩
  · rintro ⟨h1, h2⟩
    refine ⟨h1, by simp, fun y hy z hz => ?_⟩
    obtain rfl : z = x := by simpa using hz
    rintro rfl
    exact h2 hy
theorem turns_snoc {a b : St} {o : List Nat} {x : Nat} : Turns a b (o ++ [x]) ↔ Turns a b o ∧ x < a.n ∧ x ∉ o ∧ fitsI a b o x = true := by
  have hl : (o ++ [x]).length = o.length + 1 := by simp
  rw [fitsI_iff]
  constructor
  · intro h
    have hd := nodup_snoc.1 h.nodup
    refine ⟨⟨hd.1, fun y hy => h.lt y (by simp [hy]), fun i hi => ?_, fun i j hi hj => ?_⟩, h.lt x (by simp), hd.2, ?_, ?_, fun k hk => ⟨?_, ?_⟩⟩
    · have := h.s i (by omega); rwa [gd_lt hi] at this
    · have := h.r i j (by omega) (by omega); rwa [gd_lt hi, gd_lt hj] at this
    · have := h.s o.length (by omega); rwa [gd_eq] at this
    · have := h.r o.length o.length (by omega) (by omega); rwa [gd_eq] at this
    · have := h.r o.length k (by omega) (by omega); rwa [gd_eq, gd_lt hk] at this
    · have := h.r k o.length (by omega) (by omega); rwa [gd_eq, gd_lt hk] at this
  · rintro ⟨h, hx, hm, f1, f2, f3⟩
    refine ⟨nodup_snoc.2 ⟨h.nodup, hm⟩, fun y hy => ?_, fun i hi => ?_, fun i j hi hj => ?_⟩
    · rcases List.mem_append.1 hy with hy | hy
      · exact h.lt y hy
      · obtain rfl : y = x := by simpa using hy
        exact hx
    · rcases Nat.lt_or_ge i o.length with h1 | h1
      · rw [gd_lt h1]; exact h.s i h1
      · obtain rfl : i = o.length := by omega
        rw [gd_eq]; exact f1
    · rcases Nat.lt_or_ge i o.length with h1 | h1
      · rcases Nat.lt_or_ge j o.length with h2 | h2
        · rw [gd_lt h1, gd_lt h2]; exact h.r i j h1 h2
        · obtain rfl : j = o.length := by omega
          rw [gd_lt h1, gd_eq]; exact (f3 i h1).2
      · obtain rfl : i = o.length := by omega
        rcases Nat.lt_or_ge j o.length with h2 | h2
        · rw [gd_eq, gd_lt h2]; exact (f3 j h2).1
        · obtain rfl : j = o.length := by omega
          rw [gd_eq]; exact f2
theorem Turns.take {a b : St} {o : List Nat} (h : Turns a b o) (i : Nat) : Turns a b (o.take i) := by
  have hl : (o.take i).length = min i o.length := List.length_take
  have hg : ∀ k, k < (o.take i).length → (o.take i).getD k 0 = o.getD k 0 := fun k hk => by simp; rw [List.getElem?_take_of_lt (by omega)]
  refine ⟨h.nodup.sublist (List.take_sublist _ _), fun x hx => h.lt x (List.mem_of_mem_take hx), fun k hk => ?_, fun k j hk hj => ?_⟩
  · rw [hg k hk]; exact h.s k (by omega)
  · rw [hg k hk, hg j hj]; exact h.r k j (by omega) (by omega)
theorem shapesF_mem {a b : St} : ∀ (k : Nat) {o p : List Nat}, Turns a b o → (p ∈ shapesF a b k o ↔ Turns a b p ∧ p.length = o.length + k ∧ p.take o.length = o)
  | 0, o, p, h => by
    simp only [shapesF, List.mem_singleton]
    constructor
    · rintro rfl; exact ⟨h, by simp, by simp⟩
    · rintro ⟨_, h2, h3⟩
      rw [← h3, List.take_of_length_le (by omega)]
  | k + 1, o, p, h => by
    simp only [shapesF, List.mem_flatMap, List.mem_range]
    constructor
    · rintro ⟨x, hx, hp⟩
      by_cases hc : (o.contains x || !fitsI a b o x) = true
      · rw [if_pos hc] at hp; cases hp
      · rw [if_neg hc] at hp
        simp only [Bool.or_eq_true, not_or, List.contains_iff_mem, Bool.not_eq_true', Bool.not_eq_false] at hc
        have h1 : Turns a b (o ++ [x]) := turns_snoc.2 ⟨h, hx, hc.1, hc.2⟩
        obtain ⟨q1, q2, q3⟩ := (shapesF_mem k h1).1 hp
        rw [List.length_append, List.length_singleton] at q2 q3
        refine ⟨q1, by omega, ?_⟩
        have := congrArg (List.take o.length) q3
        rw [List.take_take, Nat.min_eq_left (by omega), List.take_left] at this
        exact this
    · rintro ⟨h1, h2, h3⟩
      have hlt : o.length < p.length := by omega
      have hs : p.take (o.length + 1) = o ++ [p[o.length]] := by rw [List.take_succ_eq_append_getElem hlt, h3]
      have ht := h1.take (o.length + 1)
      rw [hs] at ht
      have hq := turns_snoc.1 ht
      refine ⟨p[o.length], hq.2.1, ?_⟩
      rw [if_neg (by simp only [Bool.or_eq_true, not_or, List.contains_iff_mem, Bool.not_eq_true', Bool.not_eq_false]; exact ⟨hq.2.2.1, hq.2.2.2⟩)]
      refine (shapesF_mem k ht).2 ⟨h1, by simp; omega, ?_⟩
      rw [List.length_append, List.length_singleton]; exact hs
theorem shapesF_nodup {a b : St} : ∀ (k : Nat) {o : List Nat}, Turns a b o → (shapesF a b k o).Nodup
  | 0, o, h => by simp [shapesF]
  | k + 1, o, h => by
    simp only [shapesF]
    have hT : ∀ x, x < a.n → ¬ (o.contains x || !fitsI a b o x) = true → Turns a b (o ++ [x]) := fun x hx hc => by
      simp only [Bool.or_eq_true, not_or, List.contains_iff_mem, Bool.not_eq_true', Bool.not_eq_false] at hc
      exact turns_snoc.2 ⟨h, hx, hc.1, hc.2⟩
    have hmem : ∀ x, x < a.n → ∀ p ∈ (if o.contains x || !fitsI a b o x then [] else shapesF a b k (o ++ [x])), p.getD o.length 0 = x := by
      intro x hx p hp
      by_cases hc : (o.contains x || !fitsI a b o x) = true
      · rw [if_pos hc] at hp; cases hp
      · rw [if_neg hc] at hp
        obtain ⟨_, h2, h3⟩ := (shapesF_mem k (hT x hx hc)).1 hp
        rw [List.length_append, List.length_singleton] at h2 h3
        have : (p.take (o.length + 1)).getD o.length 0 = x := by rw [h3, gd_eq]
        rw [← this]
        simp
    have key : ∀ m, m ≤ a.n → ((List.range m).flatMap fun x => if o.contains x || !fitsI a b o x then [] else shapesF a b k (o ++ [x])).Nodup := by
      intro m
      induction m with
      | zero => intro _; simp
      | succ m ih =>
        intro hm
        rw [List.range_succ, List.flatMap_append, List.nodup_append]
        refine ⟨ih (by omega), ?_, ?_⟩
        · simp only [List.flatMap_cons, List.flatMap_nil, List.append_nil]
          by_cases hc : (o.contains m || !fitsI a b o m) = true
          · rw [if_pos hc]; exact List.nodup_nil
          · rw [if_neg hc]; exact shapesF_nodup k (hT m (by omega) hc)
        · intro p hp q hq e
          subst e
          obtain ⟨x, hx, hp⟩ := List.mem_flatMap.1 hp
          have hx := List.mem_range.1 hx
          simp only [List.flatMap_cons, List.flatMap_nil, List.append_nil] at hq
          have h1 := hmem x (by omega) p hp
          have h2 := hmem m (by omega) p hq
          omega
    exact key a.n (Nat.le_refl _)
/-- All orders that turn a into b, which has as many elements. -/
def shapes (a b : St) : List (List Nat) := shapesF a b a.n []
theorem shapes_mem {a b : St} {p : List Nat} : p ∈ shapes a b ↔ Turns a b p ∧ p.length = a.n := by
  unfold shapes
  rw [shapesF_mem a.n (Turns.nil a b)]
  simp
theorem shapes_nodup (a b : St) : (shapes a b).Nodup := shapesF_nodup a.n (Turns.nil a b)
/-- An order becomes itself in one order alone. -/
theorem turns_ord {a b : St} {p : List Nat} (ha : ∀ x y, x < a.n → y < a.n → a.r x y = decide (x < y)) (hb : ∀ x y, x < a.n → y < a.n → b.r x y = decide (x < y)) (h : Turns a b p) (hl : p.length = a.n) : p = List.range a.n := by
  have hv : ∀ i, i < a.n → p.getD i 0 < a.n := fun i hi => by
    have hi' : i < p.length := by omega
    rw [List.getD_eq_getElem?_getD, List.getElem?_eq_getElem hi']
    exact h.lt _ (List.getElem_mem hi')
  have hm : ∀ i j, i < a.n → j < a.n → (p.getD i 0 < p.getD j 0 ↔ i < j) := fun i j hi hj => by
    have := h.r i j (by omega) (by omega)
    rw [ha _ _ (hv i hi) (hv j hj), hb _ _ hi hj, decide_eq_decide] at this
    exact this
  have up : ∀ i, i < a.n → i ≤ p.getD i 0 := by
    intro i
    induction i with
    | zero => intro _; exact Nat.zero_le _
    | succ i ih =>
      intro hi
      have h1 := ih (by omega)
      have h2 := (hm i (i + 1) (by omega) hi).2 (by omega)
      omega
  have dn : ∀ k i, i < a.n → a.n - 1 - i = k → p.getD i 0 ≤ i := by
    intro k
    induction k with
    | zero => intro i hi hk; have := hv i hi; omega
    | succ k ih =>
      intro i hi hk
      have h1 := ih (i + 1) (by omega) (by omega)
      have h2 := (hm i (i + 1) hi (by omega)).2 (by omega)
      omega
  apply List.ext_getElem (by simp [hl])
  intro i h1 h2
  have hi : i < a.n := by omega
  have e := Nat.le_antisymm (dn _ i hi rfl) (up i hi)
  rw [List.getD_eq_getElem?_getD, List.getElem?_eq_getElem h1] at e
  simpa using e
theorem one_of {α : Type} {l : List α} {x : α} (h : l.Nodup) (hx : x ∈ l) (ha : ∀ y ∈ l, y = x) : l = [x] := by
  match l, h, hx, ha with
  | [], _, hx, _ => cases hx
  | [y], _, _, ha => rw [ha y (by simp)]
  | y :: z :: l, h, _, ha =>
    have h1 := ha y (by simp)
    have h2 := ha z (by simp)
    subst h1
    rw [h2] at h
    simp at h
theorem shapes_ord {a : St} (ha : ∀ x y, x < a.n → y < a.n → a.r x y = decide (x < y)) : shapes a a = [List.range a.n] := by
  refine one_of (shapes_nodup a a) (shapes_mem.2 ⟨⟨List.nodup_range, fun x hx => List.mem_range.1 hx, fun i hi => ?_, fun i j hi hj => ?_⟩, by simp⟩) fun p hp => ?_
  · have hi : i < a.n := by simpa using hi
    simp [hi]
  · have hi : i < a.n := by simpa using hi
    have hj : j < a.n := by simpa using hj
    simp [hi, hj]
  · obtain ⟨h1, h2⟩ := shapes_mem.1 hp
    exact turns_ord ha ha h1 h2
end Go.Proofs.YtlkemhhkcanmoaaGreatDoor.Gs

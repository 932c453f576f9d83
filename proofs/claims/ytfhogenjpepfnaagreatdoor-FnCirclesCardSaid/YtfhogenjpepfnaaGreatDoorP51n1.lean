/- Contracts of the program's functions and what they compute: part 1. Conditions: those that each theorem states. -/
import Derived.Lib.ItoaNum
namespace Go.Proofs.YtfhogenjpepfnaaGreatDoor.Gs
/-- A structure: how many elements, which are in the set, which are related. -/
structure St where
  n : Nat
  s : Nat → Bool
  r : Nat → Nat → Bool
def bitU (b : Bool) : UInt8 := if b then 49 else 48
theorem bitU_inj {a b : Bool} (h : bitU a = bitU b) : a = b := by
  cases a <;> cases b <;> first | rfl | (revert h; decide)
/-- The atoms of an element behind others. -/
def atomsAt (a : St) (asL : List Nat) (x : Nat) : List UInt8 :=
  bitU (a.s x) :: ((asL ++ [x]).flatMap fun y => [bitU (decide (x = y)), bitU (a.r x y), bitU (a.r y x)])
def atomsTo (a : St) (asL : List Nat) : Nat → List UInt8
  | 0 => []
  | i + 1 => atomsTo a asL i ++ atomsAt a (asL.take i) (asL.getD i 0)
/-- The atoms of a list. -/
def atoms (a : St) (asL : List Nat) : List UInt8 := atomsTo a asL asL.length
theorem atomsTo_more (a : St) (asL : List Nat) (x : Nat) (i : Nat) (h : i ≤ asL.length) : atomsTo a (asL ++ [x]) i = atomsTo a asL i := by
  induction i with
  | zero => rfl
  | succ i ih =>
    have hi : i < asL.length := by omega
    simp only [atomsTo]
    rw [ih (by omega), List.take_append_of_le_length (by omega)]
    congr 2
    simp [List.getElem?_append_left hi]
theorem atoms_snoc (a : St) (asL : List Nat) (x : Nat) : atoms a (asL ++ [x]) = atoms a asL ++ atomsAt a asL x := by
  unfold atoms
  rw [List.length_append, List.length_singleton]
  simp only [atomsTo]
  rw [atomsTo_more a asL x _ (Nat.le_refl _)]
  simp
theorem atomsAt_length (a : St) (asL : List Nat) (x : Nat) : (atomsAt a asL x).length = 4 + 3 * asL.length := by
  have h : ∀ l : List Nat, (l.flatMap fun y => [bitU (decide (x = y)), bitU (a.r x y), bitU (a.r y x)]).length = 3 * l.length := by
    intro l
    induction l with
    | nil => rfl
    | cons y l ih => simp only [List.flatMap_cons, List.length_append, List.length_cons, List.length_nil, ih]; omega
  unfold atomsAt
  rw [List.length_cons, h]
  simp; omega
theorem atomsTo_length (a b : St) (asL bs : List Nat) (_ha : ∀ i, i ≤ asL.length → True) (i : Nat) (h : i ≤ asL.length) (h' : i ≤ bs.length) : (atomsTo a asL i).length = (atomsTo b bs i).length := by
  induction i with
  | zero => rfl
  | succ i ih =>
    simp only [atomsTo, List.length_append, atomsAt_length, List.length_take]
    rw [ih (by omega) (by omega)]
    omega
/-- One more element on each side, in the same way. -/
def still (a : St) (asL : List Nat) (b : St) (bs : List Nat) (x y : Nat) : Bool :=
  (a.s x == b.s y) && (a.r x x == b.r y y) && (asL.zip bs).all fun p => ((decide (p.1 = x)) == (decide (p.2 = y))) && (a.r p.1 x == b.r p.2 y) && (a.r x p.1 == b.r y p.2)
def same (a : St) (asL : List Nat) (b : St) (bs : List Nat) : Bool :=
  (List.range asL.length).all fun i => still a (asL.take i) b (bs.take i) (asL.getD i 0) (bs.getD i 0)
theorem same_snoc {a b : St} {asL bs : List Nat} {x y : Nat} (hl : asL.length = bs.length) : same a (asL ++ [x]) b (bs ++ [y]) = (same a asL b bs && still a asL b bs x y) := by
  unfold same
  rw [List.length_append, List.length_singleton, List.range_succ, List.all_append]
  congr 1
  · rw [Bool.eq_iff_iff, List.all_eq_true, List.all_eq_true]
    have key : ∀ i, i ∈ List.range asL.length → still a ((asL ++ [x]).take i) b ((bs ++ [y]).take i) ((asL ++ [x]).getD i 0) ((bs ++ [y]).getD i 0) = still a (asL.take i) b (bs.take i) (asL.getD i 0) (bs.getD i 0) := by
      intro i hi
      have hi := List.mem_range.1 hi
      rw [List.take_append_of_le_length (by omega), List.take_append_of_le_length (by omega)]
      simp [List.getElem?_append_left hi, List.getElem?_append_left (show i < bs.length by omega)]
    constructor
    · intro h i hi; rw [← key i hi]; exact h i hi
    · intro h i hi; rw [key i hi]; exact h i hi
  · simp [hl]
theorem flat_eq {a b : St} {x y : Nat} : ∀ (asL bs : List Nat), asL.length = bs.length →
    ((asL.flatMap fun v => [bitU (decide (x = v)), bitU (a.r x v), bitU (a.r v x)]) = (bs.flatMap fun v => [bitU (decide (y = v)), bitU (b.r y v), bitU (b.r v y)]) ↔
      ∀ p ∈ asL.zip bs, decide (p.1 = x) = decide (p.2 = y) ∧ a.r p.1 x = b.r p.2 y ∧ a.r x p.1 = b.r y p.2)
  | [], [], _ => by simp
  | [], _ :: _, h => by simp at h
  | _ :: _, [], h => by simp at h
  | v :: asL, w :: bs, h => by
    have ih := flat_eq (a := a) (b := b) (x := x) (y := y) asL bs (by simpa using h)
    simp only [List.flatMap_cons, List.cons_append, List.nil_append, List.cons.injEq, List.zip_cons_cons, List.mem_cons, forall_eq_or_imp, ih]
    constructor
    · rintro ⟨h1, h2, h3, h4⟩
      refine ⟨⟨?_, bitU_inj h3, bitU_inj h2⟩, h4⟩
      have := bitU_inj h1
      rw [decide_eq_decide] at this ⊢
      constructor
      · intro e; exact (this.1 e.symm).symm
      · intro e; exact (this.2 e.symm).symm
    · rintro ⟨⟨h1, h2, h3⟩, h4⟩
      refine ⟨?_, by rw [h3], by rw [h2], h4⟩
      congr 1
      rw [decide_eq_decide] at h1 ⊢
      constructor
      · intro e; exact (h1.1 e.symm).symm
      · intro e; exact (h1.2 e.symm).symm
theorem atomsAt_eq {a b : St} {asL bs : List Nat} {x y : Nat} (hl : asL.length = bs.length) : atomsAt a asL x = atomsAt b bs y ↔ still a asL b bs x y = true := by
  unfold atomsAt still
  rw [List.cons.injEq, flat_eq _ _ (by simp [hl])]
  rw [List.zip_append hl]
  simp only [List.mem_append, Bool.and_eq_true, beq_iff_eq, List.all_eq_true]
  constructor
  · rintro ⟨h1, h2⟩
    refine ⟨⟨bitU_inj h1, ?_⟩, fun p hp => ?_⟩
    · exact (h2 (x, y) (.inr (by simp))).2.1
    · have := h2 p (.inl hp)
      exact ⟨⟨this.1, this.2.1⟩, this.2.2⟩
  · rintro ⟨⟨h1, h2⟩, h3⟩
    refine ⟨by rw [h1], fun p hp => ?_⟩
    rcases hp with hp | hp
    · have := h3 p hp
      exact ⟨this.1.1, this.1.2, this.2⟩
    · simp at hp
      subst hp
      exact ⟨by simp, h2, h2⟩
theorem append_inj_len {α : Type} {a b c d : List α} (h : a ++ b = c ++ d) (hl : a.length = c.length) : a = c ∧ b = d := List.append_inj h hl
theorem list_snoc {α : Type} (l : List α) : l = [] ∨ ∃ m x, l = m ++ [x] := by
  rcases List.eq_nil_or_concat l with h | ⟨m, x, h⟩
  · exact .inl h
  · exact .inr ⟨m, x, by simpa using h⟩
theorem same_iff {a b : St} : ∀ (n : Nat) (asL bs : List Nat), asL.length = n → bs.length = n → (same a asL b bs = true ↔ atoms a asL = atoms b bs) := by
  intro n
  induction n with
  | zero =>
    intro asL bs ha hb
    obtain rfl := List.eq_nil_of_length_eq_zero ha
    obtain rfl := List.eq_nil_of_length_eq_zero hb
    simp [same, atoms, atomsTo]
  | succ n ih =>
    intro asL bs ha hb
    rcases list_snoc asL with rfl | ⟨asL, x, rfl⟩
    · simp at ha
    rcases list_snoc bs with rfl | ⟨bs, y, rfl⟩
    · simp at hb
    simp at ha hb
    have hl : asL.length = bs.length := by omega
    rw [same_snoc hl, Bool.and_eq_true, ih asL bs ha hb, ← atomsAt_eq hl, atoms_snoc, atoms_snoc]
    constructor
    · rintro ⟨h1, h2⟩; rw [h1, h2]
    · intro h
      exact append_inj_len h (atomsTo_length a b asL bs (fun _ _ => trivial) asL.length (Nat.le_refl _) (by omega) |>.trans (by unfold atoms; rw [hl]))
/-- The second player wins asL many rounds. -/
def goes : Nat → (a : St) → List Nat → (b : St) → List Nat → Bool
  | 0, _, _, _, _ => true
  | k + 1, a, asL, b, bs =>
    ((List.range a.n).all fun x => (List.range b.n).any fun y => still a asL b bs x y && goes k a (asL ++ [x]) b (bs ++ [y])) &&
    ((List.range b.n).all fun y => (List.range a.n).any fun x => still b bs a asL y x && goes k b (bs ++ [y]) a (asL ++ [x]))
def wins (k : Nat) (a : St) (asL : List Nat) (b : St) (bs : List Nat) : Bool := same a asL b bs && goes k a asL b bs
end Go.Proofs.YtfhogenjpepfnaaGreatDoor.Gs
namespace Go.Proofs.YtfhogenjpepfnaaGreatDoor.Gs
set_option linter.unusedVariables false
/-- A number put into a list of numbers that goes up, once. -/
def ins : List Nat → Nat → List Nat
  | [], n => [n]
  | x :: L, n => if x = n then x :: L else if n < x then n :: x :: L else x :: ins L n
theorem mem_ins {L : List Nat} {n x : Nat} : x ∈ ins L n ↔ x = n ∨ x ∈ L := by
  induction L with
  | nil => simp [ins]
  | cons y L ih =>
    unfold ins
    split
    · rename_i h; subst h; simp
    · split
      · simp
      · simp only [List.mem_cons, ih]
        constructor
        · rintro (h | h | h) <;> simp [h]
        · rintro (h | h | h) <;> simp [h]
end Go.Proofs.YtfhogenjpepfnaaGreatDoor.Gs
namespace Go.Proofs.YtfhogenjpepfnaaGreatDoor.Gs
set_option linter.unusedVariables false
/-- Alike lengths. -/
def alike (k n m : Nat) : Prop := n = m ∨ 2 ^ k - 1 ≤ n ∧ 2 ^ k - 1 ≤ m
end Go.Proofs.YtfhogenjpepfnaaGreatDoor.Gs

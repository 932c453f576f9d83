/- Games of two players, plainly: when the second player wins, and that not being told apart is an equivalence. No condition. -/
namespace Go.Proofs.YtadgiknnejjplaaDoor.Gs

/-- A structure: how many elements, which are in the set, which are related. -/
structure St where
  n : Nat
  s : Nat → Bool
  r : Nat → Nat → Bool

def bitU (b : Bool) : UInt8 := if b then 49 else 48
theorem bitU_inj {a b : Bool} (h : bitU a = bitU b) : a = b := by
  cases a <;> cases b <;> first | rfl | (revert h; decide)

/-- The atoms of an element behind others. -/
def atomsAt (a : St) (as : List Nat) (x : Nat) : List UInt8 :=
  bitU (a.s x) :: ((as ++ [x]).flatMap fun y => [bitU (decide (x = y)), bitU (a.r x y), bitU (a.r y x)])
def atomsTo (a : St) (as : List Nat) : Nat → List UInt8
  | 0 => []
  | i + 1 => atomsTo a as i ++ atomsAt a (as.take i) (as.getD i 0)
/-- The atoms of a list. -/
def atoms (a : St) (as : List Nat) : List UInt8 := atomsTo a as as.length

theorem atomsTo_more (a : St) (as : List Nat) (x : Nat) (i : Nat) (h : i ≤ as.length) : atomsTo a (as ++ [x]) i = atomsTo a as i := by
  induction i with
  | zero => rfl
  | succ i ih =>
    have hi : i < as.length := by omega
    simp only [atomsTo]
    rw [ih (by omega), List.take_append_of_le_length (by omega)]
    congr 2
    simp [List.getElem?_append_left hi]
theorem atoms_snoc (a : St) (as : List Nat) (x : Nat) : atoms a (as ++ [x]) = atoms a as ++ atomsAt a as x := by
  unfold atoms
  rw [List.length_append, List.length_singleton]
  simp only [atomsTo]
  rw [atomsTo_more a as x _ (Nat.le_refl _)]
  simp
theorem atomsAt_length (a : St) (as : List Nat) (x : Nat) : (atomsAt a as x).length = 4 + 3 * as.length := by
  have h : ∀ l : List Nat, (l.flatMap fun y => [bitU (decide (x = y)), bitU (a.r x y), bitU (a.r y x)]).length = 3 * l.length := by
    intro l
    induction l with
    | nil => rfl
    | cons y l ih => simp only [List.flatMap_cons, List.length_append, List.length_cons, List.length_nil, ih]; omega
  unfold atomsAt
  rw [List.length_cons, h]
  simp; omega
theorem atomsTo_length (a b : St) (as bs : List Nat) (_ha : ∀ i, i ≤ as.length → True) (i : Nat) (h : i ≤ as.length) (h' : i ≤ bs.length) : (atomsTo a as i).length = (atomsTo b bs i).length := by
  induction i with
  | zero => rfl
  | succ i ih =>
    simp only [atomsTo, List.length_append, atomsAt_length, List.length_take]
    rw [ih (by omega) (by omega)]
    omega
theorem atomsTo_lt (a : St) (as : List Nat) (i j : Nat) (h : i < j) (hj : j ≤ as.length) : (atomsTo a as i).length < (atomsTo a as j).length := by
  induction j with
  | zero => omega
  | succ j ih =>
    simp only [atomsTo, List.length_append, atomsAt_length]
    by_cases hij : i = j
    · subst hij; omega
    · have := ih (by omega) (by omega); omega
theorem atoms_len_eq {a b : St} {as bs : List Nat} (h : atoms a as = atoms b bs) : as.length = bs.length := by
  rcases Nat.lt_trichotomy as.length bs.length with hl | hl | hl
  · have h1 := atomsTo_lt b bs as.length bs.length hl (Nat.le_refl _)
    have h2 := atomsTo_length a b as bs (fun _ _ => trivial) as.length (Nat.le_refl _) (by omega)
    unfold atoms at h
    rw [h] at h2; omega
  · exact hl
  · have h1 := atomsTo_lt a as bs.length as.length hl (Nat.le_refl _)
    have h2 := atomsTo_length a b as bs (fun _ _ => trivial) bs.length (by omega) (Nat.le_refl _)
    unfold atoms at h
    rw [h] at h1; omega

/-- One more element on each side, in the same way. -/
def still (a : St) (as : List Nat) (b : St) (bs : List Nat) (x y : Nat) : Bool :=
  (a.s x == b.s y) && (a.r x x == b.r y y) && (as.zip bs).all fun p => ((decide (p.1 = x)) == (decide (p.2 = y))) && (a.r p.1 x == b.r p.2 y) && (a.r x p.1 == b.r y p.2)
def same (a : St) (as : List Nat) (b : St) (bs : List Nat) : Bool :=
  (List.range as.length).all fun i => still a (as.take i) b (bs.take i) (as.getD i 0) (bs.getD i 0)

theorem same_snoc {a b : St} {as bs : List Nat} {x y : Nat} (hl : as.length = bs.length) : same a (as ++ [x]) b (bs ++ [y]) = (same a as b bs && still a as b bs x y) := by
  unfold same
  rw [List.length_append, List.length_singleton, List.range_succ, List.all_append]
  congr 1
  · rw [Bool.eq_iff_iff, List.all_eq_true, List.all_eq_true]
    have key : ∀ i, i ∈ List.range as.length → still a ((as ++ [x]).take i) b ((bs ++ [y]).take i) ((as ++ [x]).getD i 0) ((bs ++ [y]).getD i 0) = still a (as.take i) b (bs.take i) (as.getD i 0) (bs.getD i 0) := by
      intro i hi
      have hi := List.mem_range.1 hi
      rw [List.take_append_of_le_length (by omega), List.take_append_of_le_length (by omega)]
      simp [List.getElem?_append_left hi, List.getElem?_append_left (show i < bs.length by omega)]
    constructor
    · intro h i hi; rw [← key i hi]; exact h i hi
    · intro h i hi; rw [key i hi]; exact h i hi
  · simp [hl]

theorem flat_eq {a b : St} {x y : Nat} : ∀ (as bs : List Nat), as.length = bs.length →
    ((as.flatMap fun v => [bitU (decide (x = v)), bitU (a.r x v), bitU (a.r v x)]) = (bs.flatMap fun v => [bitU (decide (y = v)), bitU (b.r y v), bitU (b.r v y)]) ↔
      ∀ p ∈ as.zip bs, decide (p.1 = x) = decide (p.2 = y) ∧ a.r p.1 x = b.r p.2 y ∧ a.r x p.1 = b.r y p.2)
  | [], [], _ => by simp
  | [], _ :: _, h => by simp at h
  | _ :: _, [], h => by simp at h
  | v :: as, w :: bs, h => by
    have ih := flat_eq (a := a) (b := b) (x := x) (y := y) as bs (by simpa using h)
    simp only [List.flatMap_cons, List.cons_append, List.nil_append, List.cons.injEq, List.zip_cons_cons, List.mem_cons, forall_eq_or_imp, ih]
    constructor
    · rintro ⟨h1, h2, h3, h4⟩
      refine ⟨⟨?_, bitU_inj h3, bitU_inj h2⟩, h4⟩
      have := bitU_inj h1
      rw [decide_eq_decide] at this ⊢
      constructor
      · intro e; exact (this.1 e.symm).symm
      · intro e; exact (this.2 e.symm).symm
    · rintro ⟨⟨h1, h2, h3⟩, h4⟩
      refine ⟨?_, by rw [h3], by rw [h2], h4⟩
      congr 1
      rw [decide_eq_decide] at h1 ⊢
      constructor
      · intro e; exact (h1.1 e.symm).symm
      · intro e; exact (h1.2 e.symm).symm
theorem atomsAt_eq {a b : St} {as bs : List Nat} {x y : Nat} (hl : as.length = bs.length) : atomsAt a as x = atomsAt b bs y ↔ still a as b bs x y = true := by
  unfold atomsAt still
  rw [List.cons.injEq, flat_eq _ _ (by simp [hl])]
  rw [List.zip_append hl]
  simp only [List.mem_append, Bool.and_eq_true, beq_iff_eq, List.all_eq_true]
  constructor
  · rintro ⟨h1, h2⟩
    refine ⟨⟨bitU_inj h1, ?_⟩, fun p hp => ?_⟩
    · exact (h2 (x, y) (.inr (by simp))).2.1
    · have := h2 p (.inl hp)
      exact ⟨⟨this.1, this.2.1⟩, this.2.2⟩
  · rintro ⟨⟨h1, h2⟩, h3⟩
    refine ⟨by rw [h1], fun p hp => ?_⟩
    rcases hp with hp | hp
    · have := h3 p hp
      exact ⟨this.1.1, this.1.2, this.2⟩
    · simp at hp
      subst hp
      exact ⟨by simp, h2, h2⟩

theorem append_inj_len {α : Type} {a b c d : List α} (h : a ++ b = c ++ d) (hl : a.length = c.length) : a = c ∧ b = d := List.append_inj h hl

theorem list_snoc {α : Type} (l : List α) : l = [] ∨ ∃ m x, l = m ++ [x] := by
  rcases List.eq_nil_or_concat l with h | ⟨m, x, h⟩
  · exact .inl h
  · exact .inr ⟨m, x, by simpa using h⟩

theorem same_iff {a b : St} : ∀ (n : Nat) (as bs : List Nat), as.length = n → bs.length = n → (same a as b bs = true ↔ atoms a as = atoms b bs) := by
  intro n
  induction n with
  | zero =>
    intro as bs ha hb
    obtain rfl := List.eq_nil_of_length_eq_zero ha
    obtain rfl := List.eq_nil_of_length_eq_zero hb
    simp [same, atoms, atomsTo]
  | succ n ih =>
    intro as bs ha hb
    rcases list_snoc as with rfl | ⟨as, x, rfl⟩
    · simp at ha
    rcases list_snoc bs with rfl | ⟨bs, y, rfl⟩
    · simp at hb
    simp at ha hb
    have hl : as.length = bs.length := by omega
    rw [same_snoc hl, Bool.and_eq_true, ih as bs ha hb, ← atomsAt_eq hl, atoms_snoc, atoms_snoc]
    constructor
    · rintro ⟨h1, h2⟩; rw [h1, h2]
    · intro h
      exact append_inj_len h (atomsTo_length a b as bs (fun _ _ => trivial) as.length (Nat.le_refl _) (by omega) |>.trans (by unfold atoms; rw [hl]))

/-- The second player wins as many rounds. -/
def goes : Nat → (a : St) → List Nat → (b : St) → List Nat → Bool
  | 0, _, _, _, _ => true
  | k + 1, a, as, b, bs =>
    ((List.range a.n).all fun x => (List.range b.n).any fun y => still a as b bs x y && goes k a (as ++ [x]) b (bs ++ [y])) &&
    ((List.range b.n).all fun y => (List.range a.n).any fun x => still b bs a as y x && goes k b (bs ++ [y]) a (as ++ [x]))
def wins (k : Nat) (a : St) (as : List Nat) (b : St) (bs : List Nat) : Bool := same a as b bs && goes k a as b bs

/-- Not told apart by so many rounds. -/
def Eqv : Nat → (a : St) → List Nat → (b : St) → List Nat → Prop
  | 0, a, as, b, bs => atoms a as = atoms b bs
  | k + 1, a, as, b, bs => atoms a as = atoms b bs ∧ (∀ x, x < a.n → ∃ y, y < b.n ∧ Eqv k a (as ++ [x]) b (bs ++ [y])) ∧ (∀ y, y < b.n → ∃ x, x < a.n ∧ Eqv k a (as ++ [x]) b (bs ++ [y]))

theorem Eqv.atoms {k : Nat} {a b : St} {as bs : List Nat} (h : Eqv k a as b bs) : atoms a as = Gs.atoms b bs := by
  cases k with
  | zero => exact h
  | succ k => exact h.1
theorem Eqv.refl : ∀ (k : Nat) (a : St) (as : List Nat), Eqv k a as a as
  | 0, _, _ => rfl
  | k + 1, a, _ => ⟨rfl, fun x hx => ⟨x, hx, Eqv.refl k a _⟩, fun x hx => ⟨x, hx, Eqv.refl k a _⟩⟩
theorem Eqv.symm : ∀ {k : Nat} {a b : St} {as bs : List Nat}, Eqv k a as b bs → Eqv k b bs a as
  | 0, _, _, _, _, h => Eq.symm h
  | _ + 1, _, _, _, _, ⟨h1, h2, h3⟩ => ⟨h1.symm, fun y hy => let ⟨x, hx, h⟩ := h3 y hy; ⟨x, hx, h.symm⟩, fun x hx => let ⟨y, hy, h⟩ := h2 x hx; ⟨y, hy, h.symm⟩⟩
theorem Eqv.trans : ∀ {k : Nat} {a b c : St} {as bs cs : List Nat}, Eqv k a as b bs → Eqv k b bs c cs → Eqv k a as c cs
  | 0, _, _, _, _, _, _, h, h' => Eq.trans h h'
  | _ + 1, _, _, _, _, _, _, ⟨h1, h2, h3⟩, ⟨g1, g2, g3⟩ =>
    ⟨h1.trans g1, fun x hx => let ⟨y, hy, h⟩ := h2 x hx; let ⟨z, hz, g⟩ := g2 y hy; ⟨z, hz, h.trans g⟩,
      fun z hz => let ⟨y, hy, g⟩ := g3 z hz; let ⟨x, hx, h⟩ := h3 y hy; ⟨x, hx, h.trans g⟩⟩

theorem still_of_eqv {k : Nat} {a b : St} {as bs : List Nat} {x y : Nat} (hl : as.length = bs.length) (h : Eqv k a (as ++ [x]) b (bs ++ [y])) : still a as b bs x y = true := by
  have h := h.atoms
  rw [atoms_snoc, atoms_snoc] at h
  have := append_inj_len h (atomsTo_length a b as bs (fun _ _ => trivial) as.length (Nat.le_refl _) (by omega) |>.trans (by unfold Gs.atoms; rw [hl]))
  exact (atomsAt_eq hl).1 this.2

theorem goes_iff : ∀ (k : Nat) (a b : St) (as bs : List Nat), as.length = bs.length → Gs.atoms a as = Gs.atoms b bs → (goes k a as b bs = true ↔ Eqv k a as b bs)
  | 0, a, b, as, bs, _, ha => by simp [goes, Eqv, ha]
  | k + 1, a, b, as, bs, hl, ha => by
    have hs : ∀ x y, still a as b bs x y = true → Gs.atoms a (as ++ [x]) = Gs.atoms b (bs ++ [y]) := fun x y h => by
      rw [atoms_snoc, atoms_snoc, ha, (atomsAt_eq hl).2 h]
    have hs' : ∀ x y, still b bs a as y x = true → Gs.atoms b (bs ++ [y]) = Gs.atoms a (as ++ [x]) := fun x y h => by
      rw [atoms_snoc, atoms_snoc, ha, (atomsAt_eq hl.symm).2 h]
    have ih := fun x y (h : still a as b bs x y = true) => goes_iff k a b (as ++ [x]) (bs ++ [y]) (by simp [hl]) (hs x y h)
    have ih' := fun x y (h : still b bs a as y x = true) => goes_iff k b a (bs ++ [y]) (as ++ [x]) (by simp [hl]) (hs' x y h)
    simp only [goes, Eqv, Bool.and_eq_true, List.all_eq_true, List.any_eq_true, List.mem_range]
    constructor
    · rintro ⟨h1, h2⟩
      refine ⟨ha, fun x hx => ?_, fun y hy => ?_⟩
      · obtain ⟨y, hy, hs1, hg⟩ := h1 x hx
        exact ⟨y, hy, (ih x y hs1).1 hg⟩
      · obtain ⟨x, hx, hs1, hg⟩ := h2 y hy
        exact ⟨x, hx, ((ih' x y hs1).1 hg).symm⟩
    · rintro ⟨_, h1, h2⟩
      refine ⟨fun x hx => ?_, fun y hy => ?_⟩
      · obtain ⟨y, hy, h⟩ := h1 x hx
        have := still_of_eqv hl h
        exact ⟨y, hy, this, (ih x y this).2 h⟩
      · obtain ⟨x, hx, h⟩ := h2 y hy
        have := still_of_eqv hl.symm h.symm
        exact ⟨x, hx, this, (ih' x y this).2 h.symm⟩
theorem wins_iff {k : Nat} {a b : St} {as bs : List Nat} (hl : as.length = bs.length) : wins k a as b bs = true ↔ Eqv k a as b bs := by
  unfold wins
  rw [Bool.and_eq_true, same_iff bs.length as bs hl rfl]
  constructor
  · rintro ⟨h1, h2⟩; exact (goes_iff k a b as bs hl h1).1 h2
  · intro h; exact ⟨h.atoms, (goes_iff k a b as bs hl h.atoms).2 h⟩
end Go.Proofs.YtadgiknnejjplaaDoor.Gs

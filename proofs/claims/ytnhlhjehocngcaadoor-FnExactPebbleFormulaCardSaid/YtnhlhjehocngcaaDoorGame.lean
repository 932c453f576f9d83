/- Games of two players, plainly: when the second player wins, and that not being told apart is an equivalence. No condition. -/
import Derived.Lib.ItoaNum
namespace Go.Proofs.YtnhlhjehocngcaaDoor.Gs

/-- A structure: how many elements, which are in the set, which are related. -/
structure St where
  n : Nat
  s : Nat → Bool
  r : Nat → Nat → Bool

def bitU (b : Bool) : UInt8 := if b then 49 else 48
theorem bitU_inj {a b : Bool} (h : bitU a = bitU b) : a = b := by
  cases a <;> cases b <;> first | rfl | (revert h; decide)

/-- The atoms of an element behind others. -/
def atomsAt (a : St) (as : List Nat) (x : Nat) : List UInt8 :=
  bitU (a.s x) :: ((as ++ [x]).flatMap fun y => [bitU (decide (x = y)), bitU (a.r x y), bitU (a.r y x)])
def atomsTo (a : St) (as : List Nat) : Nat → List UInt8
  | 0 => []
  | i + 1 => atomsTo a as i ++ atomsAt a (as.take i) (as.getD i 0)
/-- The atoms of a list. -/
def atoms (a : St) (as : List Nat) : List UInt8 := atomsTo a as as.length

theorem atomsTo_more (a : St) (as : List Nat) (x : Nat) (i : Nat) (h : i ≤ as.length) : atomsTo a (as ++ [x]) i = atomsTo a as i := by
  induction i with
  | zero => rfl
  | succ i ih =>
    have hi : i < as.length := by omega
    simp only [atomsTo]
    rw [ih (by omega), List.take_append_of_le_length (by omega)]
    congr 2
    simp [List.getElem?_append_left hi]
theorem atoms_snoc (a : St) (as : List Nat) (x : Nat) : atoms a (as ++ [x]) = atoms a as ++ atomsAt a as x := by
  unfold atoms
  rw [List.length_append, List.length_singleton]
  simp only [atomsTo]
  rw [atomsTo_more a as x _ (Nat.le_refl _)]
  simp
theorem atomsAt_length (a : St) (as : List Nat) (x : Nat) : (atomsAt a as x).length = 4 + 3 * as.length := by
  have h : ∀ l : List Nat, (l.flatMap fun y => [bitU (decide (x = y)), bitU (a.r x y), bitU (a.r y x)]).length = 3 * l.length := by
    intro l
    induction l with
    | nil => rfl
    | cons y l ih => simp only [List.flatMap_cons, List.length_append, List.length_cons, List.length_nil, ih]; omega
  unfold atomsAt
  rw [List.length_cons, h]
  simp; omega
theorem atomsTo_length (a b : St) (as bs : List Nat) (_ha : ∀ i, i ≤ as.length → True) (i : Nat) (h : i ≤ as.length) (h' : i ≤ bs.length) : (atomsTo a as i).length = (atomsTo b bs i).length := by
  induction i with
  | zero => rfl
  | succ i ih =>
    simp only [atomsTo, List.length_append, atomsAt_length, List.length_take]
    rw [ih (by omega) (by omega)]
    omega
theorem atomsTo_lt (a : St) (as : List Nat) (i j : Nat) (h : i < j) (hj : j ≤ as.length) : (atomsTo a as i).length < (atomsTo a as j).length := by
  induction j with
  | zero => omega
  | succ j ih =>
    simp only [atomsTo, List.length_append, atomsAt_length]
    by_cases hij : i = j
    · subst hij; omega
    · have := ih (by omega) (by omega); omega
theorem atoms_len_eq {a b : St} {as bs : List Nat} (h : atoms a as = atoms b bs) : as.length = bs.length := by
  rcases Nat.lt_trichotomy as.length bs.length with hl | hl | hl
  · have h1 := atomsTo_lt b bs as.length bs.length hl (Nat.le_refl _)
    have h2 := atomsTo_length a b as bs (fun _ _ => trivial) as.length (Nat.le_refl _) (by omega)
    unfold atoms at h
    rw [h] at h2; omega
  · exact hl
  · have h1 := atomsTo_lt a as bs.length as.length hl (Nat.le_refl _)
    have h2 := atomsTo_length a b as bs (fun _ _ => trivial) bs.length (by omega) (Nat.le_refl _)
    unfold atoms at h
    rw [h] at h1; omega

/-- One more element on each side, in the same way. -/
def still (a : St) (as : List Nat) (b : St) (bs : List Nat) (x y : Nat) : Bool :=
  (a.s x == b.s y) && (a.r x x == b.r y y) && (as.zip bs).all fun p => ((decide (p.1 = x)) == (decide (p.2 = y))) && (a.r p.1 x == b.r p.2 y) && (a.r x p.1 == b.r y p.2)
def same (a : St) (as : List Nat) (b : St) (bs : List Nat) : Bool :=
  (List.range as.length).all fun i => still a (as.take i) b (bs.take i) (as.getD i 0) (bs.getD i 0)

theorem same_snoc {a b : St} {as bs : List Nat} {x y : Nat} (hl : as.length = bs.length) : same a (as ++ [x]) b (bs ++ [y]) = (same a as b bs && still a as b bs x y) := by
  unfold same
  rw [List.length_append, List.length_singleton, List.range_succ, List.all_append]
  congr 1
  · rw [Bool.eq_iff_iff, List.all_eq_true, List.all_eq_true]
    have key : ∀ i, i ∈ List.range as.length → still a ((as ++ [x]).take i) b ((bs ++ [y]).take i) ((as ++ [x]).getD i 0) ((bs ++ [y]).getD i 0) = still a (as.take i) b (bs.take i) (as.getD i 0) (bs.getD i 0) := by
      intro i hi
      have hi := List.mem_range.1 hi
      rw [List.take_append_of_le_length (by omega), List.take_append_of_le_length (by omega)]
      simp [List.getElem?_append_left hi, List.getElem?_append_left (show i < bs.length by omega)]
    constructor
    · intro h i hi; rw [← key i hi]; exact h i hi
    · intro h i hi; rw [key i hi]; exact h i hi
  · simp [hl]

theorem flat_eq {a b : St} {x y : Nat} : ∀ (as bs : List Nat), as.length = bs.length →
    ((as.flatMap fun v => [bitU (decide (x = v)), bitU (a.r x v), bitU (a.r v x)]) = (bs.flatMap fun v => [bitU (decide (y = v)), bitU (b.r y v), bitU (b.r v y)]) ↔
      ∀ p ∈ as.zip bs, decide (p.1 = x) = decide (p.2 = y) ∧ a.r p.1 x = b.r p.2 y ∧ a.r x p.1 = b.r y p.2)
  | [], [], _ => by simp
  | [], _ :: _, h => by simp at h
  | _ :: _, [], h => by simp at h
  | v :: as, w :: bs, h => by
    have ih := flat_eq (a := a) (b := b) (x := x) (y := y) as bs (by simpa using h)
    simp only [List.flatMap_cons, List.cons_append, List.nil_append, List.cons.injEq, List.zip_cons_cons, List.mem_cons, forall_eq_or_imp, ih]
    constructor
    · rintro ⟨h1, h2, h3, h4⟩
      refine ⟨⟨?_, bitU_inj h3, bitU_inj h2⟩, h4⟩
      have := bitU_inj h1
      rw [decide_eq_decide] at this ⊢
      constructor
      · intro e; exact (this.1 e.symm).symm
      · intro e; exact (this.2 e.symm).symm
    · rintro ⟨⟨h1, h2, h3⟩, h4⟩
      refine ⟨?_, by rw [h3], by rw [h2], h4⟩
      congr 1
      rw [decide_eq_decide] at h1 ⊢
      constructor
      · intro e; exact (h1.1 e.symm).symm
      · intro e; exact (h1.2 e.symm).symm
theorem atomsAt_eq {a b : St} {as bs : List Nat} {x y : Nat} (hl : as.length = bs.length) : atomsAt a as x = atomsAt b bs y ↔ still a as b bs x y = true := by
  unfold atomsAt still
  rw [List.cons.injEq, flat_eq _ _ (by simp [hl])]
  rw [List.zip_append hl]
  simp only [List.mem_append, Bool.and_eq_true, beq_iff_eq, List.all_eq_true]
  constructor
  · rintro ⟨h1, h2⟩
    refine ⟨⟨bitU_inj h1, ?_⟩, fun p hp => ?_⟩
    · exact (h2 (x, y) (.inr (by simp))).2.1
    · have := h2 p (.inl hp)
      exact ⟨⟨this.1, this.2.1⟩, this.2.2⟩
  · rintro ⟨⟨h1, h2⟩, h3⟩
    refine ⟨by rw [h1], fun p hp => ?_⟩
    rcases hp with hp | hp
    · have := h3 p hp
      exact ⟨this.1.1, this.1.2, this.2⟩
    · simp at hp
      subst hp
      exact ⟨by simp, h2, h2⟩

theorem append_inj_len {α : Type} {a b c d : List α} (h : a ++ b = c ++ d) (hl : a.length = c.length) : a = c ∧ b = d := List.append_inj h hl

theorem list_snoc {α : Type} (l : List α) : l = [] ∨ ∃ m x, l = m ++ [x] := by
  rcases List.eq_nil_or_concat l with h | ⟨m, x, h⟩
  · exact .inl h
  · exact .inr ⟨m, x, by simpa using h⟩

theorem same_iff {a b : St} : ∀ (n : Nat) (as bs : List Nat), as.length = n → bs.length = n → (same a as b bs = true ↔ atoms a as = atoms b bs) := by
  intro n
  induction n with
  | zero =>
    intro as bs ha hb
    obtain rfl := List.eq_nil_of_length_eq_zero ha
    obtain rfl := List.eq_nil_of_length_eq_zero hb
    simp [same, atoms, atomsTo]
  | succ n ih =>
    intro as bs ha hb
    rcases list_snoc as with rfl | ⟨as, x, rfl⟩
    · simp at ha
    rcases list_snoc bs with rfl | ⟨bs, y, rfl⟩
    · simp at hb
    simp at ha hb
    have hl : as.length = bs.length := by omega
    rw [same_snoc hl, Bool.and_eq_true, ih as bs ha hb, ← atomsAt_eq hl, atoms_snoc, atoms_snoc]
    constructor
    · rintro ⟨h1, h2⟩; rw [h1, h2]
    · intro h
      exact append_inj_len h (atomsTo_length a b as bs (fun _ _ => trivial) as.length (Nat.le_refl _) (by omega) |>.trans (by unfold atoms; rw [hl]))

/-- The second player wins as many rounds. -/
def goes : Nat → (a : St) → List Nat → (b : St) → List Nat → Bool
  | 0, _, _, _, _ => true
  | k + 1, a, as, b, bs =>
    ((List.range a.n).all fun x => (List.range b.n).any fun y => still a as b bs x y && goes k a (as ++ [x]) b (bs ++ [y])) &&
    ((List.range b.n).all fun y => (List.range a.n).any fun x => still b bs a as y x && goes k b (bs ++ [y]) a (as ++ [x]))
def wins (k : Nat) (a : St) (as : List Nat) (b : St) (bs : List Nat) : Bool := same a as b bs && goes k a as b bs

/-- Not told apart by so many rounds. -/
def Eqv : Nat → (a : St) → List Nat → (b : St) → List Nat → Prop
  | 0, a, as, b, bs => atoms a as = atoms b bs
  | k + 1, a, as, b, bs => atoms a as = atoms b bs ∧ (∀ x, x < a.n → ∃ y, y < b.n ∧ Eqv k a (as ++ [x]) b (bs ++ [y])) ∧ (∀ y, y < b.n → ∃ x, x < a.n ∧ Eqv k a (as ++ [x]) b (bs ++ [y]))

theorem Eqv.atoms {k : Nat} {a b : St} {as bs : List Nat} (h : Eqv k a as b bs) : atoms a as = Gs.atoms b bs := by
  cases k with
  | zero => exact h
  | succ k => exact h.1
theorem Eqv.refl : ∀ (k : Nat) (a : St) (as : List Nat), Eqv k a as a as
  | 0, _, _ => rfl
  | k + 1, a, _ => ⟨rfl, fun x hx => ⟨x, hx, Eqv.refl k a _⟩, fun x hx => ⟨x, hx, Eqv.refl k a _⟩⟩
theorem Eqv.symm : ∀ {k : Nat} {a b : St} {as bs : List Nat}, Eqv k a as b bs → Eqv k b bs a as
  | 0, _, _, _, _, h => Eq.symm h
  | _ + 1, _, _, _, _, ⟨h1, h2, h3⟩ => ⟨h1.symm, fun y hy => let ⟨x, hx, h⟩ := h3 y hy; ⟨x, hx, h.symm⟩, fun x hx => let ⟨y, hy, h⟩ := h2 x hx; ⟨y, hy, h.symm⟩⟩
theorem Eqv.trans : ∀ {k : Nat} {a b c : St} {as bs cs : List Nat}, Eqv k a as b bs → Eqv k b bs c cs → Eqv k a as c cs
  | 0, _, _, _, _, _, _, h, h' => Eq.trans h h'
  | _ + 1, _, _, _, _, _, _, ⟨h1, h2, h3⟩, ⟨g1, g2, g3⟩ =>
    ⟨h1.trans g1, fun x hx => let ⟨y, hy, h⟩ := h2 x hx; let ⟨z, hz, g⟩ := g2 y hy; ⟨z, hz, h.trans g⟩,
      fun z hz => let ⟨y, hy, g⟩ := g3 z hz; let ⟨x, hx, h⟩ := h3 y hy; ⟨x, hx, h.trans g⟩⟩

theorem still_of_eqv {k : Nat} {a b : St} {as bs : List Nat} {x y : Nat} (hl : as.length = bs.length) (h : Eqv k a (as ++ [x]) b (bs ++ [y])) : still a as b bs x y = true := by
  have h := h.atoms
  rw [atoms_snoc, atoms_snoc] at h
  have := append_inj_len h (atomsTo_length a b as bs (fun _ _ => trivial) as.length (Nat.le_refl _) (by omega) |>.trans (by unfold Gs.atoms; rw [hl]))
  exact (atomsAt_eq hl).1 this.2

theorem goes_iff : ∀ (k : Nat) (a b : St) (as bs : List Nat), as.length = bs.length → Gs.atoms a as = Gs.atoms b bs → (goes k a as b bs = true ↔ Eqv k a as b bs)
  | 0, a, b, as, bs, _, ha => by simp [goes, Eqv, ha]
  | k + 1, a, b, as, bs, hl, ha => by
    have hs : ∀ x y, still a as b bs x y = true → Gs.atoms a (as ++ [x]) = Gs.atoms b (bs ++ [y]) := fun x y h => by
      rw [atoms_snoc, atoms_snoc, ha, (atomsAt_eq hl).2 h]
    have hs' : ∀ x y, still b bs a as y x = true → Gs.atoms b (bs ++ [y]) = Gs.atoms a (as ++ [x]) := fun x y h => by
      rw [atoms_snoc, atoms_snoc, ha, (atomsAt_eq hl.symm).2 h]
    have ih := fun x y (h : still a as b bs x y = true) => goes_iff k a b (as ++ [x]) (bs ++ [y]) (by simp [hl]) (hs x y h)
    have ih' := fun x y (h : still b bs a as y x = true) => goes_iff k b a (bs ++ [y]) (as ++ [x]) (by simp [hl]) (hs' x y h)
    simp only [goes, Eqv, Bool.and_eq_true, List.all_eq_true, List.any_eq_true, List.mem_range]
    constructor
    · rintro ⟨h1, h2⟩
      refine ⟨ha, fun x hx => ?_, fun y hy => ?_⟩
      · obtain ⟨y, hy, hs1, hg⟩ := h1 x hx
        exact ⟨y, hy, (ih x y hs1).1 hg⟩
      · obtain ⟨x, hx, hs1, hg⟩ := h2 y hy
        exact ⟨x, hx, ((ih' x y hs1).1 hg).symm⟩
    · rintro ⟨_, h1, h2⟩
      refine ⟨fun x hx => ?_, fun y hy => ?_⟩
      · obtain ⟨y, hy, h⟩ := h1 x hx
        have := still_of_eqv hl h
        exact ⟨y, hy, this, (ih x y this).2 h⟩
      · obtain ⟨x, hx, h⟩ := h2 y hy
        have := still_of_eqv hl.symm h.symm
        exact ⟨x, hx, this, (ih' x y this).2 h.symm⟩
theorem wins_iff {k : Nat} {a b : St} {as bs : List Nat} (hl : as.length = bs.length) : wins k a as b bs = true ↔ Eqv k a as b bs := by
  unfold wins
  rw [Bool.and_eq_true, same_iff bs.length as bs hl rfl]
  constructor
  · rintro ⟨h1, h2⟩; exact (goes_iff k a b as bs hl h1).1 h2
  · intro h; exact ⟨h.atoms, (goes_iff k a b as bs hl h.atoms).2 h⟩
end Go.Proofs.YtnhlhjehocngcaaDoor.Gs
/- The numbers of the descriptions of what can happen in a game: two numbers are equal exactly if the game does not tell apart. No condition. -/
namespace Go.Proofs.YtnhlhjehocngcaaDoor.Gs
set_option linter.unusedVariables false

theorem dig_ne (u : Nat) : ∀ c ∈ Lib.decDigits u, 48 ≤ c.toNat ∧ c.toNat ≤ 57 := by
  induction u using Nat.strongRecOn with
  | _ u ih =>
    have hd : ∀ d, d < 10 → 48 ≤ (UInt8.ofNat (48 + d)).toNat ∧ (UInt8.ofNat (48 + d)).toNat ≤ 57 := by
      intro d hd
      have e : (UInt8.ofNat (48 + d)).toNat = (48 + d) % 256 := rfl
      rw [e]
      omega
    intro c hc
    rw [Lib.decDigits] at hc
    by_cases h : u < 10
    · rw [dif_pos h] at hc
      rw [List.mem_singleton.1 hc]
      exact hd u h
    · rw [dif_neg h] at hc
      rcases List.mem_append.1 hc with hc | hc
      · exact ih (u / 10) (by omega) c hc
      · rw [List.mem_singleton.1 hc]
        exact hd _ (by omega)
theorem dig_inj : ∀ (u v : Nat), Lib.decDigits u = Lib.decDigits v → u = v := by
  intro u
  induction u using Nat.strongRecOn with
  | _ u ih =>
    have key : ∀ a b, a < 10 → b < 10 → UInt8.ofNat (48 + a) = UInt8.ofNat (48 + b) → a = b := by
      intro a b ha hb h
      have h1 : (48 + a) % 256 = (48 + b) % 256 := congrArg UInt8.toNat h
      omega
    have pos : ∀ n, 0 < (Lib.decDigits n).length := by
      intro n; rw [Lib.decDigits]; split <;> simp
    intro v h
    have e1 := Lib.decDigits.eq_1 u
    have e2 := Lib.decDigits.eq_1 v
    rw [e1, e2] at h
    by_cases hu : u < 10
    · rw [dif_pos hu] at h
      by_cases hv : v < 10
      · rw [dif_pos hv] at h
        exact key u v hu hv (List.cons.inj h).1
      · rw [dif_neg hv] at h
        have h1 := congrArg List.length h
        have h2 := pos (v / 10)
        rw [List.length_append, List.length_singleton, List.length_singleton] at h1
        omega
    · rw [dif_neg hu] at h
      by_cases hv : v < 10
      · rw [dif_pos hv] at h
        have h1 := congrArg List.length h
        have h2 := pos (u / 10)
        rw [List.length_append, List.length_singleton, List.length_singleton] at h1
        omega
      · rw [dif_neg hv] at h
        obtain ⟨h1, h2⟩ := List.append_inj' h rfl
        have h3 := ih (u / 10) (by omega) _ h1
        have h4 := key (u % 10) (v % 10) (by omega) (by omega) (List.cons.inj h2).1
        omega

/-- Numbers, each behind a comma. -/
def commas (L : List Nat) : List UInt8 := L.flatMap fun n => 44 :: Lib.decDigits n
/-- The description of what can happen: the rounds, the atoms, and the numbers of what can come next. -/
def desc (r : Nat) (at' : List UInt8) (L : List Nat) : List UInt8 := Lib.decDigits r ++ [58] ++ (at' ++ commas L)

theorem split44 : ∀ {a b c d : List UInt8}, (∀ x ∈ a, x ≠ 44) → (∀ x ∈ c, x ≠ 44) → (b = [] ∨ ∃ t, b = 44 :: t) → (d = [] ∨ ∃ t, d = 44 :: t) → a ++ b = c ++ d → a = c ∧ b = d
  | [], b, [], d, _, _, _, _, h => ⟨rfl, h⟩
  | [], b, y :: c, d, _, hc, hb, _, h => by
    rcases hb with rfl | ⟨t, rfl⟩
    · simp at h
    · simp at h
      exact absurd h.1.symm (hc y (by simp))
  | x :: a, b, [], d, ha, _, _, hd, h => by
    rcases hd with rfl | ⟨t, rfl⟩
    · simp at h
    · simp at h
      exact absurd h.1 (ha x (by simp))
  | x :: a, b, y :: c, d, ha, hc, hb, hd, h => by
    simp only [List.cons_append, List.cons.injEq] at h
    obtain ⟨h1, h2⟩ := split44 (fun z hz => ha z (by simp [hz])) (fun z hz => hc z (by simp [hz])) hb hd h.2
    exact ⟨by rw [h.1, h1], h2⟩
theorem commas_form : ∀ L : List Nat, commas L = [] ∨ ∃ t, commas L = 44 :: t
  | [] => .inl rfl
  | n :: L => .inr ⟨_, rfl⟩
theorem dig_44 (u : Nat) : ∀ x ∈ Lib.decDigits u, x ≠ 44 := by
  intro x hx e
  have := dig_ne u x hx
  rw [e] at this
  exact absurd this.1 (by decide)
theorem commas_inj : ∀ {L M : List Nat}, commas L = commas M → L = M
  | [], [], _ => rfl
  | [], m :: M, h => by simp [commas] at h
  | n :: L, [], h => by simp [commas] at h
  | n :: L, m :: M, h => by
    have h' : Lib.decDigits n ++ commas L = Lib.decDigits m ++ commas M := by
      simpa [commas] using h
    obtain ⟨h1, h2⟩ := split44 (dig_44 n) (dig_44 m) (commas_form L) (commas_form M) h'
    rw [dig_inj _ _ h1, commas_inj h2]
theorem bitU_44 (b : Bool) : bitU b ≠ 44 := by cases b <;> decide
theorem atomsAt_44 (a : St) (as : List Nat) (x : Nat) : ∀ c ∈ atomsAt a as x, c ≠ 44 := by
  intro c hc
  rcases List.mem_cons.1 hc with rfl | hc
  · exact bitU_44 _
  · obtain ⟨y, _, hy⟩ := List.mem_flatMap.1 hc
    simp at hy
    rcases hy with rfl | rfl | rfl <;> exact bitU_44 _
theorem atomsTo_44 (a : St) (as : List Nat) (i : Nat) : ∀ c ∈ atomsTo a as i, c ≠ 44 := by
  induction i with
  | zero => intro c hc; cases hc
  | succ i ih =>
    intro c hc
    rcases List.mem_append.1 hc with hc | hc
    · exact ih c hc
    · exact atomsAt_44 _ _ _ c hc
theorem desc_inj {r : Nat} {a b : St} {as bs : List Nat} {L M : List Nat} (h : desc r (atoms a as) L = desc r (atoms b bs) M) : atoms a as = atoms b bs ∧ L = M := by
  unfold desc at h
  have h := List.append_cancel_left h
  obtain ⟨h1, h2⟩ := split44 (atomsTo_44 a as _) (atomsTo_44 b bs _) (commas_form L) (commas_form M) h
  exact ⟨h1, commas_inj h2⟩

/-- In the descriptions D, n is the number of what can happen in a game of r rounds. -/
def TypeNum (D : List (List UInt8)) (a : St) : Nat → List Nat → Nat → Prop
  | 0, as, n => D[n]? = some (desc 0 (atoms a as) [])
  | r + 1, as, n => ∃ L : List Nat, L.Pairwise (· < ·) ∧ (∀ x, x < a.n → ∃ m ∈ L, TypeNum D a r (as ++ [x]) m) ∧ (∀ m ∈ L, ∃ x, x < a.n ∧ TypeNum D a r (as ++ [x]) m) ∧ D[n]? = some (desc (r + 1) (atoms a as) L)

theorem TypeNum.more {D E : List (List UInt8)} {a : St} : ∀ {r : Nat} {as : List Nat} {n : Nat}, TypeNum D a r as n → TypeNum (D ++ E) a r as n
  | 0, as, n, h => by
    have hn : n < D.length := (List.getElem?_eq_some_iff.1 h).1
    show (D ++ E)[n]? = _
    rw [List.getElem?_append_left hn]; exact h
  | r + 1, as, n, ⟨L, h1, h2, h3, h4⟩ => by
    have hn : n < D.length := (List.getElem?_eq_some_iff.1 h4).1
    refine ⟨L, h1, fun x hx => ?_, fun m hm => ?_, ?_⟩
    · obtain ⟨m, hm, h⟩ := h2 x hx
      exact ⟨m, hm, h.more⟩
    · obtain ⟨x, hx, h⟩ := h3 m hm
      exact ⟨x, hx, h.more⟩
    · rw [List.getElem?_append_left hn]; exact h4
theorem nodup_at {α : Type} {D : List α} (h : D.Nodup) {n m : Nat} {x : α} (hn : D[n]? = some x) (hm : D[m]? = some x) : n = m := by
  obtain ⟨h1, h2⟩ := List.getElem?_eq_some_iff.1 hn
  obtain ⟨h3, h4⟩ := List.getElem?_eq_some_iff.1 hm
  have hp := List.pairwise_iff_getElem.1 h
  rcases Nat.lt_trichotomy n m with hl | hl | hl
  · exact absurd (h2.trans h4.symm) (hp n m h1 h3 hl)
  · exact hl
  · exact absurd (h4.trans h2.symm) (hp m n h3 h1 hl)
theorem sorted_ext : ∀ {L M : List Nat}, L.Pairwise (· < ·) → M.Pairwise (· < ·) → (∀ x, x ∈ L ↔ x ∈ M) → L = M
  | [], [], _, _, _ => rfl
  | [], m :: M, _, _, h => by have := (h m).2 (by simp); cases this
  | n :: L, [], _, _, h => by have := (h n).1 (by simp); cases this
  | n :: L, m :: M, hL, hM, h => by
    have hL' := List.pairwise_cons.1 hL
    have hM' := List.pairwise_cons.1 hM
    have e : n = m := by
      rcases List.mem_cons.1 ((h n).1 (by simp)) with e | h1
      · exact e
      · rcases List.mem_cons.1 ((h m).2 (by simp)) with e | h2
        · exact e.symm
        · have := hL'.1 m h2
          have := hM'.1 n h1
          omega
    subst e
    congr 1
    refine sorted_ext hL'.2 hM'.2 fun x => ?_
    constructor
    · intro hx
      rcases List.mem_cons.1 ((h x).1 (by simp [hx])) with e | h1
      · have := hL'.1 x hx; omega
      · exact h1
    · intro hx
      rcases List.mem_cons.1 ((h x).2 (by simp [hx])) with e | h1
      · have := hM'.1 x hx; omega
      · exact h1
theorem typeNum_iff {D : List (List UInt8)} (hD : D.Nodup) {a b : St} : ∀ {r : Nat} {as bs : List Nat} {n m : Nat}, TypeNum D a r as n → TypeNum D b r bs m → (n = m ↔ Eqv r a as b bs)
  | 0, as, bs, n, m, h, k => by
    have h : D[n]? = some (desc 0 (atoms a as) []) := h
    have k : D[m]? = some (desc 0 (atoms b bs) []) := k
    show _ ↔ atoms a as = atoms b bs
    constructor
    · intro e
      subst e
      rw [h] at k
      exact (desc_inj (Option.some.inj k)).1
    · intro e
      rw [e] at h
      exact nodup_at hD h k
  | r + 1, as, bs, n, m, ⟨L, l1, l2, l3, l4⟩, ⟨M, m1, m2, m3, m4⟩ => by
    constructor
    · intro e
      subst e
      rw [l4] at m4
      obtain ⟨ha, hL⟩ := desc_inj (Option.some.inj m4)
      subst hL
      refine ⟨ha, fun x hx => ?_, fun y hy => ?_⟩
      · obtain ⟨k, hk, h1⟩ := l2 x hx
        obtain ⟨y, hy, h2⟩ := m3 k hk
        exact ⟨y, hy, (typeNum_iff hD h1 h2).1 rfl⟩
      · obtain ⟨k, hk, h1⟩ := m2 y hy
        obtain ⟨x, hx, h2⟩ := l3 k hk
        exact ⟨x, hx, (typeNum_iff hD h2 h1).1 rfl⟩
    · rintro ⟨ha, h1, h2⟩
      have hL : L = M := by
        refine sorted_ext l1 m1 fun k => ?_
        constructor
        · intro hk
          obtain ⟨x, hx, t1⟩ := l3 k hk
          obtain ⟨y, hy, e⟩ := h1 x hx
          obtain ⟨k', hk', t2⟩ := m2 y hy
          rw [(typeNum_iff hD t1 t2).2 e]; exact hk'
        · intro hk
          obtain ⟨y, hy, t2⟩ := m3 k hk
          obtain ⟨x, hx, e⟩ := h2 y hy
          obtain ⟨k', hk', t1⟩ := l2 x hx
          rw [← (typeNum_iff hD t1 t2).2 e]; exact hk'
      rw [ha, hL] at l4
      exact nodup_at hD l4 m4
/-- A number put into a list of numbers that goes up, once. -/
def ins : List Nat → Nat → List Nat
  | [], n => [n]
  | x :: L, n => if x = n then x :: L else if n < x then n :: x :: L else x :: ins L n
theorem mem_ins {L : List Nat} {n x : Nat} : x ∈ ins L n ↔ x = n ∨ x ∈ L := by
  induction L with
  | nil => simp [ins]
  | cons y L ih =>
    unfold ins
    split
    · rename_i h; subst h; simp
    · split
      · simp
      · simp only [List.mem_cons, ih]
        constructor
        · rintro (h | h | h) <;> simp [h]
        · rintro (h | h | h) <;> simp [h]
theorem ins_sorted {L : List Nat} {n : Nat} (h : L.Pairwise (· < ·)) : (ins L n).Pairwise (· < ·) := by
  induction L with
  | nil => simp [ins]
  | cons y L ih =>
    have h' := List.pairwise_cons.1 h
    unfold ins
    split
    · exact h
    · split
      · rename_i h1 h2
        refine List.pairwise_cons.2 ⟨fun z hz => ?_, h⟩
        rcases List.mem_cons.1 hz with rfl | hz
        · exact h2
        · have := h'.1 z hz; omega
      · rename_i h1 h2
        refine List.pairwise_cons.2 ⟨fun z hz => ?_, ih h'.2⟩
        rcases mem_ins.1 hz with rfl | hz
        · omega
        · exact h'.1 z hz
theorem ins_length (L : List Nat) (n : Nat) : (ins L n).length ≤ L.length + 1 := by
  induction L with
  | nil => simp [ins]
  | cons y L ih =>
    unfold ins
    split
    · simp
    · split
      · simp
      · simp; omega
/-- How far a list goes where a number is put in. -/
theorem ins_at (L : List Nat) (n : Nat) : ∀ k, k ≤ L.length → (∀ j (h : j < L.length), j < k → L[j] < n) →
    ins L n = L.take k ++ ins (L.drop k) n := by
  intro k
  induction k generalizing L with
  | zero => intro _ _; simp
  | succ k ih =>
    intro hk h
    match L with
    | [] => simp at hk
    | x :: L =>
      have h0 := h 0 (by simp) (by omega)
      simp at h0
      rw [ins, if_neg (by omega), if_neg (by omega), ih L (by simpa using hk) (fun j hj hjk => by have := h (j + 1) (by simpa using hj) (by omega); simpa using this)]
      simp
end Go.Proofs.YtnhlhjehocngcaaDoor.Gs
/- Games of sums, powers and orders, plainly: what is not told apart stays so in an ordered sum; powers and orders are not told apart exactly if they are alike. No condition. -/
namespace Go.Proofs.YtnhlhjehocngcaaDoor.Gs
set_option linter.unusedVariables false

theorem eqv_less : ∀ {k : Nat} {a b : St} {as bs : List Nat}, Eqv (k + 1) a as b bs → Eqv k a as b bs
  | 0, _, _, _, _, h => h.1
  | k + 1, _, _, _, _, ⟨h1, h2, h3⟩ => ⟨h1, fun x hx => let ⟨y, hy, h⟩ := h2 x hx; ⟨y, hy, eqv_less h⟩, fun y hy => let ⟨x, hx, h⟩ := h3 y hy; ⟨x, hx, eqv_less h⟩⟩
theorem eqv_len {k : Nat} {a b : St} {as bs : List Nat} (h : Eqv k a as b bs) : as.length = bs.length := atoms_len_eq h.atoms

theorem atoms_snoc_iff {a b : St} {as bs : List Nat} {x y : Nat} (hl : as.length = bs.length) : atoms a (as ++ [x]) = atoms b (bs ++ [y]) ↔ atoms a as = atoms b bs ∧ still a as b bs x y = true := by
  rw [atoms_snoc, atoms_snoc, ← atomsAt_eq hl]
  constructor
  · intro h
    exact append_inj_len h (atomsTo_length a b as bs (fun _ _ => trivial) as.length (Nat.le_refl _) (by omega) |>.trans (by unfold atoms; rw [hl]))
  · rintro ⟨h1, h2⟩; rw [h1, h2]
theorem still_iff {a b : St} {as bs : List Nat} {x y : Nat} : still a as b bs x y = true ↔ a.s x = b.s y ∧ a.r x x = b.r y y ∧ ∀ p ∈ as.zip bs, (p.1 = x ↔ p.2 = y) ∧ a.r p.1 x = b.r p.2 y ∧ a.r x p.1 = b.r y p.2 := by
  simp only [still, Bool.and_eq_true, beq_iff_eq, List.all_eq_true, decide_eq_decide]
  constructor
  · rintro ⟨⟨h1, h2⟩, h3⟩
    exact ⟨h1, h2, fun p hp => ⟨(h3 p hp).1.1, (h3 p hp).1.2, (h3 p hp).2⟩⟩
  · rintro ⟨h1, h2, h3⟩
    exact ⟨⟨h1, h2⟩, fun p hp => ⟨⟨(h3 p hp).1, (h3 p hp).2.1⟩, (h3 p hp).2.2⟩⟩

/-- One structure before another one. -/
def osum (a b : St) : St where
  n := a.n + b.n
  s := fun x => if x < a.n then a.s x else b.s (x - a.n)
  r := fun x y => if x < a.n then (if y < a.n then a.r x y else true) else (if y < a.n then false else b.r (x - a.n) (y - a.n))

/-- Lists of two sums, and their parts. -/
inductive Mix (n n' : Nat) : List Nat → List Nat → List Nat → List Nat → List Nat → List Nat → Prop
  | nil : Mix n n' [] [] [] [] [] []
  | left {L as bs L' as' bs' : List Nat} {x x' : Nat} : Mix n n' L as bs L' as' bs' → x < n → x' < n' → Mix n n' (L ++ [x]) (as ++ [x]) bs (L' ++ [x']) (as' ++ [x']) bs'
  | right {L as bs L' as' bs' : List Nat} {y y' : Nat} : Mix n n' L as bs L' as' bs' → Mix n n' (L ++ [n + y]) as (bs ++ [y]) (L' ++ [n' + y']) as' (bs' ++ [y'])
theorem Mix.len {n n' : Nat} {L as bs L' as' bs' : List Nat} (h : Mix n n' L as bs L' as' bs') : L.length = L'.length ∧ as.length = as'.length ∧ bs.length = bs'.length := by
  induction h with
  | nil => simp
  | left _ _ _ ih => simp [ih.1, ih.2.1, ih.2.2]
  | right _ ih => simp [ih.1, ih.2.1, ih.2.2]
theorem zip_snoc {α : Type} {l m : List α} {x y : α} (h : l.length = m.length) : (l ++ [x]).zip (m ++ [y]) = l.zip m ++ [(x, y)] := by
  rw [List.zip_append h]; rfl
theorem Mix.zip {n n' : Nat} {L as bs L' as' bs' : List Nat} (h : Mix n n' L as bs L' as' bs') : ∀ p ∈ L.zip L', (p ∈ as.zip as' ∧ p.1 < n ∧ p.2 < n') ∨ ∃ q ∈ bs.zip bs', p = (n + q.1, n' + q.2) := by
  induction h with
  | nil => intro p hp; simp at hp
  | left h hx hx' ih =>
    intro p hp
    rw [zip_snoc h.len.1] at hp
    rw [zip_snoc h.len.2.1]
    rcases List.mem_append.1 hp with hp | hp
    · rcases ih p hp with h1 | h1
      · exact .inl ⟨List.mem_append.2 (.inl h1.1), h1.2⟩
      · exact .inr h1
    · simp at hp
      subst hp
      exact .inl ⟨List.mem_append.2 (.inr (by simp)), hx, hx'⟩
  | right h ih =>
    intro p hp
    rw [zip_snoc h.len.1] at hp
    rw [zip_snoc h.len.2.2]
    rcases List.mem_append.1 hp with hp | hp
    · rcases ih p hp with h1 | ⟨q, hq, e⟩
      · exact .inl h1
      · exact .inr ⟨q, List.mem_append.2 (.inl hq), e⟩
    · simp at hp
      subst hp
      exact .inr ⟨(_, _), List.mem_append.2 (.inr (List.mem_singleton.2 rfl)), rfl⟩

theorem Mix.atoms {a b a' b' : St} {L as bs L' as' bs' : List Nat} (h : Mix a.n a'.n L as bs L' as' bs') : atoms a as = Gs.atoms a' as' → Gs.atoms b bs = Gs.atoms b' bs' → Gs.atoms (osum a b) L = Gs.atoms (osum a' b') L' := by
  induction h with
  | nil => intro _ _; rfl
  | @left L as bs L' as' bs' x x' h hx hx' ih =>
    intro h1 h2
    obtain ⟨h3, h4⟩ := (atoms_snoc_iff h.len.2.1).1 h1
    refine (atoms_snoc_iff h.len.1).2 ⟨ih h3 h2, ?_⟩
    obtain ⟨s1, s2, s3⟩ := still_iff.1 h4
    refine still_iff.2 ⟨?_, ?_, fun p hp => ?_⟩
    · simp only [osum, if_pos hx, if_pos hx']; exact s1
    · simp only [osum, if_pos hx, if_pos hx']; exact s2
    · rcases h.zip p hp with ⟨hp, p1, p2⟩ | ⟨q, hq, rfl⟩
      · simp only [osum, if_pos hx, if_pos hx', if_pos p1, if_pos p2]; exact s3 p hp
      · have e1 : ¬ a.n + q.1 < a.n := by omega
        have e2 : ¬ a'.n + q.2 < a'.n := by omega
        simp only [osum, if_pos hx, if_pos hx', if_neg e1, if_neg e2]
        exact ⟨⟨fun e => by omega, fun e => by omega⟩, trivial, trivial⟩
  | @right L as bs L' as' bs' y y' h ih =>
    intro h1 h2
    obtain ⟨h3, h4⟩ := (atoms_snoc_iff h.len.2.2).1 h2
    refine (atoms_snoc_iff h.len.1).2 ⟨ih h1 h3, ?_⟩
    obtain ⟨s1, s2, s3⟩ := still_iff.1 h4
    have e1 : ∀ z, ¬ a.n + z < a.n := fun z => by omega
    have e2 : ∀ z, ¬ a'.n + z < a'.n := fun z => by omega
    refine still_iff.2 ⟨?_, ?_, fun p hp => ?_⟩
    · simp only [osum, if_neg (e1 _), if_neg (e2 _), Nat.add_sub_cancel_left]; exact s1
    · simp only [osum, if_neg (e1 _), if_neg (e2 _), Nat.add_sub_cancel_left]; exact s2
    · rcases h.zip p hp with ⟨hp, p1, p2⟩ | ⟨q, hq, rfl⟩
      · simp only [osum, if_neg (e1 _), if_neg (e2 _), if_pos p1, if_pos p2]
        exact ⟨⟨fun e => by omega, fun e => by omega⟩, trivial, trivial⟩
      · simp only [osum, if_neg (e1 _), if_neg (e2 _), Nat.add_sub_cancel_left]
        obtain ⟨t1, t2, t3⟩ := s3 q hq
        exact ⟨⟨fun e => by have := t1.1 (by omega); omega, fun e => by have := t1.2 (by omega); omega⟩, t2, t3⟩

theorem Mix.eqv {a b a' b' : St} : ∀ {k : Nat} {L as bs L' as' bs' : List Nat}, Mix a.n a'.n L as bs L' as' bs' → Eqv k a as a' as' → Eqv k b bs b' bs' → Eqv k (osum a b) L (osum a' b') L'
  | 0, _, _, _, _, _, _, h, h1, h2 => h.atoms h1 h2
  | k + 1, L, as, bs, L', as', bs', h, h1, h2 => by
    refine ⟨h.atoms h1.1 h2.1, fun x hx => ?_, fun y hy => ?_⟩
    · by_cases hxa : x < a.n
      · obtain ⟨y, hy, e⟩ := h1.2.1 x hxa
        exact ⟨y, by show y < a'.n + b'.n; omega, (h.left hxa hy).eqv e (eqv_less h2)⟩
      · have hx : x < a.n + b.n := hx
        obtain ⟨y, hy, e⟩ := h2.2.1 (x - a.n) (by omega)
        refine ⟨a'.n + y, by show _ < a'.n + b'.n; omega, ?_⟩
        have := (Mix.right (y := x - a.n) (y' := y) h).eqv (eqv_less h1) e
        rw [show a.n + (x - a.n) = x by omega] at this
        exact this
    · by_cases hya : y < a'.n
      · obtain ⟨x, hx, e⟩ := h1.2.2 y hya
        exact ⟨x, by show x < a.n + b.n; omega, (h.left hx hya).eqv e (eqv_less h2)⟩
      · have hy : y < a'.n + b'.n := hy
        obtain ⟨x, hx, e⟩ := h2.2.2 (y - a'.n) (by omega)
        refine ⟨a.n + x, by show _ < a.n + b.n; omega, ?_⟩
        have := (Mix.right (y := x) (y' := y - a'.n) h).eqv (eqv_less h1) e
        rw [show a'.n + (y - a'.n) = y by omega] at this
        exact this
theorem osum_eqv {k : Nat} {a b a' b' : St} (h1 : Eqv k a [] a' []) (h2 : Eqv k b [] b' []) : Eqv k (osum a b) [] (osum a' b') [] := Mix.nil.eqv h1 h2

/-- Two structures that are the same where they have elements. -/
structure Like (a b : St) : Prop where
  n : a.n = b.n
  s : ∀ x, x < a.n → a.s x = b.s x
  r : ∀ x y, x < a.n → y < a.n → a.r x y = b.r x y
theorem Like.still {a b : St} (h : Like a b) {as : List Nat} {x : Nat} (ha : ∀ y ∈ as, y < a.n) (hx : x < a.n) : still a as b as x x = true := by
  refine still_iff.2 ⟨h.s x hx, h.r x x hx hx, fun p hp => ?_⟩
  have e : p.1 = p.2 ∧ p.1 ∈ as := by
    obtain ⟨i, hi, rfl⟩ := List.mem_iff_getElem.1 hp
    simp
  have hp1 := ha _ e.2
  rw [← e.1]
  exact ⟨Iff.rfl, h.r _ _ hp1 hx, h.r _ _ hx hp1⟩
theorem Like.atoms {a b : St} (h : Like a b) : ∀ (n : Nat) (as : List Nat), as.length = n → (∀ y ∈ as, y < a.n) → atoms a as = Gs.atoms b as := by
  intro n
  induction n with
  | zero => intro as hl _; obtain rfl := List.eq_nil_of_length_eq_zero hl; rfl
  | succ n ih =>
    intro as hl ha
    rcases list_snoc as with rfl | ⟨as, x, rfl⟩
    · simp at hl
    · exact (atoms_snoc_iff rfl).2 ⟨ih as (by simpa using hl) (fun y hy => ha y (by simp [hy])), h.still (fun y hy => ha y (by simp [hy])) (ha x (by simp))⟩
theorem Like.eqv {a b : St} (h : Like a b) : ∀ {k : Nat} {as : List Nat}, (∀ y ∈ as, y < a.n) → Eqv k a as b as
  | 0, as, ha => h.atoms _ as rfl ha
  | k + 1, as, ha => by
    have more : ∀ x, x < a.n → ∀ y ∈ as ++ [x], y < a.n := by
      intro x hx y hy
      rcases List.mem_append.1 hy with hy | hy
      · exact ha y hy
      · simp at hy; omega
    exact ⟨h.atoms _ as rfl ha, fun x hx => ⟨x, by rw [← h.n]; exact hx, h.eqv (more x hx)⟩, fun x hx => ⟨x, by rw [h.n]; exact hx, h.eqv (more x (by rw [h.n]; exact hx))⟩⟩

/-- Alike lengths. -/
def alike (k n m : Nat) : Prop := n = m ∨ 2 ^ k - 1 ≤ n ∧ 2 ^ k - 1 ≤ m
theorem alike_symm {k n m : Nat} (h : alike k n m) : alike k m n := by
  rcases h with h | ⟨h1, h2⟩
  · exact .inl h.symm
  · exact .inr ⟨h2, h1⟩
theorem pow_pos' (k : Nat) : 1 ≤ 2 ^ k := Nat.one_le_two_pow
theorem alike_reply {k n m x : Nat} (h : alike (k + 1) n m) (hx : x < n) : ∃ y, y < m ∧ alike k x y ∧ alike k (n - 1 - x) (m - 1 - y) := by
  have hp := pow_pos' k
  have e : 2 ^ (k + 1) = 2 * 2 ^ k := by rw [Nat.pow_succ]; omega
  unfold alike at *
  rw [e] at h
  generalize 2 ^ k = p at *
  rcases h with rfl | ⟨h1, h2⟩
  · exact ⟨x, hx, .inl rfl, .inl rfl⟩
  · by_cases c1 : x < p - 1
    · exact ⟨x, by omega, .inl rfl, .inr ⟨by omega, by omega⟩⟩
    · by_cases c2 : n - 1 - x < p - 1
      · exact ⟨m - 1 - (n - 1 - x), by omega, .inr ⟨by omega, by omega⟩, .inl (by omega)⟩
      · exact ⟨p - 1, by omega, .inr ⟨by omega, by omega⟩, .inr ⟨by omega, by omega⟩⟩
theorem alike_less {k n m : Nat} (h : alike (k + 1) n m) : alike k n m := by
  have hp := pow_pos' k
  have e : 2 ^ (k + 1) = 2 * 2 ^ k := by rw [Nat.pow_succ]; omega
  unfold alike at *
  rw [e] at h
  omega

/-- A power: a structure n times, one before another. -/
def pw (a : St) : Nat → St
  | 0 => ⟨0, fun _ => false, fun _ _ => false⟩
  | n + 1 => osum a (pw a n)
theorem pw_n (a : St) (n : Nat) : (pw a n).n = n * a.n := by
  induction n with
  | zero => simp [pw]
  | succ n ih => show a.n + (pw a n).n = _; rw [ih, Nat.succ_mul]; omega
theorem osum_assoc (a b c : St) : Like (osum (osum a b) c) (osum a (osum b c)) := by
  refine ⟨by show a.n + b.n + c.n = a.n + (b.n + c.n); omega, fun x hx => ?_, fun x y hx hy => ?_⟩
  · have hx : x < a.n + b.n + c.n := hx
    simp only [osum]
    by_cases h1 : x < a.n
    · simp [h1, show x < a.n + b.n by omega]
    · by_cases h2 : x < a.n + b.n
      · simp [h1, h2, show x - a.n < b.n by omega]
      · simp [h1, h2, show ¬ x - a.n < b.n by omega, show x - (a.n + b.n) = x - a.n - b.n by omega]
  · simp only [osum]
    by_cases h1 : x < a.n
    · by_cases k1 : y < a.n
      · simp [h1, k1, show x < a.n + b.n by omega, show y < a.n + b.n by omega]
      · by_cases k2 : y < a.n + b.n
        · simp [h1, k1, k2, show x < a.n + b.n by omega]
        · simp [h1, k1, k2, show x < a.n + b.n by omega]
    · by_cases h2 : x < a.n + b.n
      · by_cases k1 : y < a.n
        · simp [h1, h2, k1, show y < a.n + b.n by omega]
        · by_cases k2 : y < a.n + b.n
          · simp [h1, h2, k1, k2, show x - a.n < b.n by omega, show y - a.n < b.n by omega]
          · simp [h1, h2, k1, k2, show x - a.n < b.n by omega, show ¬ y - a.n < b.n by omega]
      · by_cases k1 : y < a.n
        · simp [h1, h2, k1, show y < a.n + b.n by omega]
        · by_cases k2 : y < a.n + b.n
          · simp [h1, h2, k1, k2, show ¬ x - a.n < b.n by omega, show y - a.n < b.n by omega]
          · simp [h1, h2, k1, k2, show ¬ x - a.n < b.n by omega, show ¬ y - a.n < b.n by omega, show x - (a.n + b.n) = x - a.n - b.n by omega, show y - (a.n + b.n) = y - a.n - b.n by omega]

theorem Like.refl (a : St) : Like a a := ⟨rfl, fun _ _ => rfl, fun _ _ _ _ => rfl⟩
theorem Like.symm {a b : St} (h : Like a b) : Like b a := ⟨h.n.symm, fun x hx => (h.s x (by rw [h.n]; exact hx)).symm, fun x y hx hy => (h.r x y (by rw [h.n]; exact hx) (by rw [h.n]; exact hy)).symm⟩
theorem Like.trans {a b c : St} (h : Like a b) (k : Like b c) : Like a c :=
  ⟨h.n.trans k.n, fun x hx => (h.s x hx).trans (k.s x (by rw [← h.n]; exact hx)), fun x y hx hy => (h.r x y hx hy).trans (k.r x y (by rw [← h.n]; exact hx) (by rw [← h.n]; exact hy))⟩
theorem Like.sum {a b a' b' : St} (h : Like a a') (k : Like b b') : Like (osum a b) (osum a' b') := by
  refine ⟨by show a.n + b.n = a'.n + b'.n; rw [h.n, k.n], fun x hx => ?_, fun x y hx hy => ?_⟩
  · have hx : x < a.n + b.n := hx
    simp only [osum, ← h.n]
    by_cases h1 : x < a.n
    · rw [if_pos h1, if_pos h1]; exact h.s x h1
    · rw [if_neg h1, if_neg h1]; exact k.s _ (by omega)
  · have hx : x < a.n + b.n := hx
    have hy : y < a.n + b.n := hy
    simp only [osum, ← h.n]
    by_cases h1 : x < a.n
    · by_cases h2 : y < a.n
      · simp only [if_pos h1, if_pos h2]; exact h.r x y h1 h2
      · simp only [if_pos h1, if_neg h2]
    · by_cases h2 : y < a.n
      · simp only [if_neg h1, if_pos h2]
      · simp only [if_neg h1, if_neg h2]; exact k.r _ _ (by omega) (by omega)
theorem zero_osum (a b : St) (h : a.n = 0) : Like (osum a b) b := by
  refine ⟨by show a.n + b.n = b.n; omega, fun x _ => ?_, fun x y _ _ => ?_⟩
  · simp [osum, h]
  · simp [osum, h]
theorem osum_zero (a b : St) (h : b.n = 0) : Like (osum a b) a := by
  refine ⟨by show a.n + b.n = a.n; omega, fun x hx => ?_, fun x y hx hy => ?_⟩
  · have hx : x < a.n + b.n := hx
    have : x < a.n := by omega
    simp [osum, this]
  · have hx : x < a.n + b.n := hx
    have hy : y < a.n + b.n := hy
    have h1 : x < a.n := by omega
    have h2 : y < a.n := by omega
    simp [osum, h1, h2]
theorem pw_split (a : St) (j : Nat) : ∀ i, Like (pw a (i + 1 + j)) (osum (pw a i) (osum a (pw a j)))
  | 0 => by
    rw [show 0 + 1 + j = j + 1 by omega]
    exact (zero_osum (pw a 0) _ rfl).symm
  | i + 1 => by
    rw [show i + 1 + 1 + j = (i + 1 + j) + 1 by omega]
    show Like (osum a (pw a (i + 1 + j))) (osum (osum a (pw a i)) _)
    exact ((Like.refl a).sum (pw_split a j i)).trans (osum_assoc a (pw a i) _).symm
/-- Eqv through structures that are the same. -/
theorem Like.eqv2 {a b a' b' : St} {k : Nat} {as bs : List Nat} (h : Like a b) (h' : Like a' b') (ha : ∀ y ∈ as, y < a.n) (hb : ∀ y ∈ bs, y < a'.n) (e : Eqv k b as b' bs) : Eqv k a as a' bs :=
  (h.eqv ha).trans (e.trans (h'.eqv hb).symm)
theorem pw_eqv (a : St) : ∀ {k n m : Nat}, alike k n m → Eqv k (pw a n) [] (pw a m) []
  | 0, n, m, _ => rfl
  | k + 1, n, m, h => by
    have half : ∀ {n m : Nat}, alike (k + 1) n m → ∀ x, x < (pw a n).n → ∃ y, y < (pw a m).n ∧ Eqv k (pw a n) ([] ++ [x]) (pw a m) ([] ++ [y]) := by
      intro n m h x hx
      have hx' : x < n * a.n := by rw [← pw_n]; exact hx
      have ha : 0 < a.n := by
        rcases Nat.eq_zero_or_pos a.n with h0 | h0
        · rw [h0] at hx'; omega
        · exact h0
      have hi : x / a.n < n := (Nat.div_lt_iff_lt_mul ha).2 hx'
      have hp : x % a.n < a.n := Nat.mod_lt _ ha
      have hxe : x = x / a.n * a.n + x % a.n := by rw [Nat.mul_comm]; exact (Nat.div_add_mod x a.n).symm
      generalize x / a.n = i at *
      generalize x % a.n = p at *
      obtain ⟨j, hj, e1, e2⟩ := alike_reply h hi
      have hin : (pw a i).n + p = x := by rw [pw_n]; exact hxe.symm
      have l1 := pw_split a (n - 1 - i) i
      have l2 := pw_split a (m - 1 - j) j
      rw [show i + 1 + (n - 1 - i) = n by omega] at l1
      rw [show j + 1 + (m - 1 - j) = m by omega] at l2
      have hy : (pw a j).n + p < (pw a m).n := by
        rw [l2.n]
        show _ < (pw a j).n + (a.n + _)
        omega
      refine ⟨(pw a j).n + p, hy, ?_⟩
      refine Like.eqv2 l1 l2 (by intro y hy; simp at hy; omega) (by intro y hy'; simp at hy'; omega) ?_
      rw [← hin]
      exact (Mix.right (y := p) (y' := p) Mix.nil).eqv (pw_eqv a e1) ((Mix.left (x := p) (x' := p) Mix.nil hp hp).eqv (Eqv.refl k a _) (pw_eqv a e2))
    refine ⟨rfl, half h, fun y hy => ?_⟩
    obtain ⟨x, hx, e⟩ := half (alike_symm h) y hy
    exact ⟨x, hx, e.symm⟩

/-- The order of n elements. -/
def ord (n : Nat) : St := ⟨n, fun _ => false, fun x y => decide (x < y)⟩
theorem pw_ord (n : Nat) : Like (pw (ord 1) n) (ord n) := by
  induction n with
  | zero => exact ⟨rfl, fun x hx => absurd hx (Nat.not_lt_zero _), fun x y hx => absurd hx (Nat.not_lt_zero _)⟩
  | succ n ih =>
    have h : Like (osum (ord 1) (ord n)) (ord (n + 1)) := by
      refine ⟨by show 1 + n = n + 1; omega, fun x hx => ?_, fun x y hx hy => ?_⟩
      · simp [osum, ord]
      · simp only [osum, ord]
        by_cases h1 : x < 1
        · by_cases h2 : y < 1
          · simp [h1, h2]
          · simp [h1, h2]; omega
        · by_cases h2 : y < 1
          · simp [h1, h2]; omega
          · simp [h1, h2]; omega
    exact ((Like.refl _).sum ih).trans h
theorem ord_eqv {k n m : Nat} (h : alike k n m) : Eqv k (ord n) [] (ord m) [] :=
  Like.eqv2 (pw_ord n).symm (pw_ord m).symm (by simp) (by simp) (pw_eqv (ord 1) h)
end Go.Proofs.YtnhlhjehocngcaaDoor.Gs
/- Orders of different lengths are told apart, plainly: if the second player wins the game of two orders, these are alike. No condition. -/
namespace Go.Proofs.YtnhlhjehocngcaaDoor.Gs
set_option linter.unusedVariables false

/-- All pairs of places are in the same way. -/
def Pairs (a : St) (as : List Nat) (b : St) (bs : List Nat) : Prop :=
  as.length = bs.length ∧ ∀ p ∈ as.zip bs, ∀ q ∈ as.zip bs, a.s p.1 = b.s p.2 ∧ (p.1 = q.1 ↔ p.2 = q.2) ∧ a.r p.1 q.1 = b.r p.2 q.2
theorem pairs_iff {a b : St} : ∀ (n : Nat) (as bs : List Nat), as.length = n → bs.length = n → (atoms a as = atoms b bs ↔ Pairs a as b bs) := by
  intro n
  induction n with
  | zero =>
    intro as bs ha hb
    obtain rfl := List.eq_nil_of_length_eq_zero ha
    obtain rfl := List.eq_nil_of_length_eq_zero hb
    simp [atoms, atomsTo, Pairs]
  | succ n ih =>
    intro as bs ha hb
    rcases list_snoc as with rfl | ⟨as, x, rfl⟩
    · simp at ha
    rcases list_snoc bs with rfl | ⟨bs, y, rfl⟩
    · simp at hb
    simp at ha hb
    have hl : as.length = bs.length := by omega
    rw [atoms_snoc_iff hl, ih as bs ha hb, still_iff]
    unfold Pairs
    rw [zip_snoc hl]
    constructor
    · rintro ⟨⟨_, h1⟩, s1, s2, s3⟩
      refine ⟨by simp [hl], fun p hp q hq => ?_⟩
      rcases List.mem_append.1 hp with hp | hp
      · rcases List.mem_append.1 hq with hq | hq
        · exact h1 p hp q hq
        · simp at hq; subst hq
          obtain ⟨t1, t2, t3⟩ := s3 p hp
          exact ⟨(h1 p hp p hp).1, t1, t2⟩
      · simp at hp; subst hp
        rcases List.mem_append.1 hq with hq | hq
        · obtain ⟨t1, t2, t3⟩ := s3 q hq
          exact ⟨s1, ⟨fun e => (t1.1 e.symm).symm, fun e => (t1.2 e.symm).symm⟩, t3⟩
        · simp at hq; subst hq
          exact ⟨s1, ⟨fun _ => rfl, fun _ => rfl⟩, s2⟩
    · rintro ⟨_, h⟩
      have m1 : ∀ p, p ∈ as.zip bs → p ∈ as.zip bs ++ [(x, y)] := fun p hp => List.mem_append.2 (.inl hp)
      have m2 : (x, y) ∈ as.zip bs ++ [(x, y)] := List.mem_append.2 (.inr (by simp))
      refine ⟨⟨hl, fun p hp q hq => h p (m1 p hp) q (m1 q hq)⟩, (h _ m2 _ m2).1, (h _ m2 _ m2).2.2, fun p hp => ?_⟩
      exact ⟨(h p (m1 p hp) _ m2).2.1, (h p (m1 p hp) _ m2).2.2, (h _ m2 p (m1 p hp)).2.2⟩

/-- Elements from lo on, renamed, behind one element that tells which they are. -/
theorem ord_part {lo lo' d d' n m x y : Nat} (hn : lo + d ≤ n) (hm : lo' + d' ≤ m)
    (hd : ∀ z z', z < n → z' < m → ((z = x ↔ z' = y) ∧ (z < x ↔ z' < y)) → ((lo ≤ z ∧ z < lo + d) ↔ (lo' ≤ z' ∧ z' < lo' + d'))) :
    ∀ {k : Nat} {L M : List Nat}, L.length = M.length → (∀ z ∈ L, z < d) → (∀ z ∈ M, z < d') → Eqv k (ord n) (x :: L.map (lo + ·)) (ord m) (y :: M.map (lo' + ·)) → Eqv k (ord d) L (ord d') M := by
  have base : ∀ {L M : List Nat}, L.length = M.length → atoms (ord n) (x :: L.map (lo + ·)) = atoms (ord m) (y :: M.map (lo' + ·)) → atoms (ord d) L = atoms (ord d') M := by
    intro L M hl h
    have h := ((pairs_iff (L.length + 1) _ _ (by simp) (by simp [hl])).1 h).2
    refine (pairs_iff L.length _ _ rfl hl.symm).2 ⟨hl, fun p hp q hq => ?_⟩
    have mem : ∀ p ∈ L.zip M, (lo + p.1, lo' + p.2) ∈ (x :: L.map (lo + ·)).zip (y :: M.map (lo' + ·)) := by
      intro p hp
      rw [List.zip_cons_cons, List.zip_map]
      exact List.mem_cons_of_mem _ (List.mem_map.2 ⟨p, hp, rfl⟩)
    obtain ⟨_, h2, h3⟩ := h _ (mem p hp) _ (mem q hq)
    refine ⟨rfl, ?_, ?_⟩
    · constructor
      · intro e; have := h2.1 (by simp [e]); simpa using this
      · intro e; have := h2.2 (by simp [e]); simpa using this
    · simp only [ord, decide_eq_decide] at h3 ⊢
      constructor
      · intro e; have := h3.1 (by simp; exact e); simp at this; exact this
      · intro e; have := h3.2 (by simp; exact e); simp at this; exact this
  have tell : ∀ {L M : List Nat} {z z' : Nat}, L.length = M.length → atoms (ord n) (x :: L.map (lo + ·) ++ [z]) = atoms (ord m) (y :: M.map (lo' + ·) ++ [z']) → ((z = x ↔ z' = y) ∧ (z < x ↔ z' < y)) := by
    intro L M z z' hl h
    have h := (still_iff.1 ((atoms_snoc_iff (by simp [hl])).1 h).2).2.2 (x, y) (by simp)
    obtain ⟨h1, h2, h3⟩ := h
    refine ⟨⟨fun e => (h1.1 e.symm).symm, fun e => (h1.2 e.symm).symm⟩, ?_⟩
    simpa [ord, decide_eq_decide] using h3
  intro k
  induction k with
  | zero => intro L M hl _ _ h; exact base hl h
  | succ k ih =>
    intro L M hl hL hM h
    refine ⟨base hl h.1, fun z hz => ?_, fun z' hz' => ?_⟩
    · have hz : z < d := hz
      obtain ⟨z', hz', e⟩ := h.2.1 (lo + z) (by show _ < n; omega)
      have hz' : z' < m := hz'
      have ht := (hd _ _ (by omega) hz' (tell hl e.atoms)).1 (by omega)
      refine ⟨z' - lo', by show _ < d'; omega, ih (by simp [hl]) ?_ ?_ ?_⟩
      · intro u hu; rcases List.mem_append.1 hu with hu | hu
        · exact hL u hu
        · simp at hu; omega
      · intro u hu; rcases List.mem_append.1 hu with hu | hu
        · exact hM u hu
        · simp at hu; omega
      · rw [List.map_append, List.map_append]
        simp only [List.map_cons, List.map_nil, show lo' + (z' - lo') = z' by omega]
        exact e
    · have hz' : z' < d' := hz'
      obtain ⟨z, hz, e⟩ := h.2.2 (lo' + z') (by show _ < m; omega)
      have hz : z < n := hz
      have ht := (hd _ _ hz (by omega) (tell hl e.atoms)).2 (by omega)
      refine ⟨z - lo, by show _ < d; omega, ih (by simp [hl]) ?_ ?_ ?_⟩
      · intro u hu; rcases List.mem_append.1 hu with hu | hu
        · exact hL u hu
        · simp at hu; omega
      · intro u hu; rcases List.mem_append.1 hu with hu | hu
        · exact hM u hu
        · simp at hu; omega
      · rw [List.map_append, List.map_append]
        simp only [List.map_cons, List.map_nil, show lo + (z - lo) = z by omega]
        exact e

theorem alike_no {k n m : Nat} (hnm : n < m) (hn : n < 2 * 2 ^ k - 1) : ∃ y, y < m ∧ ∀ x, x < n → ¬ (alike k x y ∧ alike k (n - 1 - x) (m - 1 - y)) := by
  have hp := pow_pos' k
  unfold alike
  generalize 2 ^ k = p at *
  by_cases h : n < p - 1
  · exact ⟨0, by omega, fun x hx => by omega⟩
  · exact ⟨n - (p - 1), by omega, fun x hx => by omega⟩
theorem ord_alike : ∀ {k n m : Nat}, Eqv k (ord n) [] (ord m) [] → alike k n m
  | 0, n, m, _ => .inr ⟨by simp, by simp⟩
  | k + 1, n, m, h => by
    have cut : ∀ {n m x y : Nat}, x < n → y < m → Eqv k (ord n) ([] ++ [x]) (ord m) ([] ++ [y]) → alike k x y ∧ alike k (n - 1 - x) (m - 1 - y) := by
      intro n m x y hx hy e
      refine ⟨ord_alike (ord_part (n := n) (m := m) (lo := 0) (lo' := 0) (d := x) (d' := y) (x := x) (y := y) (by omega) (by omega) ?_ rfl (by simp) (by simp) (by simpa using e)),
        ord_alike (ord_part (n := n) (m := m) (lo := x + 1) (lo' := y + 1) (d := n - 1 - x) (d' := m - 1 - y) (x := x) (y := y) (by omega) (by omega) ?_ rfl (by simp) (by simp) (by simpa using e))⟩
      · intro z z' hz hz' ht; omega
      · intro z z' hz hz' ht; omega
    have one : ∀ {n m : Nat}, n < m → (∀ y, y < m → ∃ x, x < n ∧ alike k x y ∧ alike k (n - 1 - x) (m - 1 - y)) → alike (k + 1) n m := by
      intro n m hnm hh
      by_cases hn : n < 2 * 2 ^ k - 1
      · obtain ⟨y, hy, hno⟩ := alike_no hnm hn
        obtain ⟨x, hx, h1, h2⟩ := hh y hy
        exact absurd ⟨h1, h2⟩ (hno x hx)
      · refine .inr ?_
        rw [Nat.pow_succ]
        omega
    rcases Nat.lt_trichotomy n m with hl | hl | hl
    · refine one hl fun y hy => ?_
      obtain ⟨x, hx, e⟩ := h.2.2 y hy
      exact ⟨x, hx, cut hx hy e⟩
    · exact .inl hl
    · refine alike_symm (one hl fun x hx => ?_)
      obtain ⟨y, hy, e⟩ := h.2.1 x hx
      obtain ⟨h1, h2⟩ := cut hx hy e
      exact ⟨y, hy, alike_symm h1, alike_symm h2⟩
/-- Two orders with a choice and its reply. -/
theorem ord_eqv1 {k n m x y : Nat} (hx : x < n) (hy : y < m) (h1 : alike k x y) (h2 : alike k (n - 1 - x) (m - 1 - y)) : Eqv k (ord n) [x] (ord m) [y] := by
  have split : ∀ {n x : Nat}, x < n → Like (ord n) (osum (ord x) (osum (ord 1) (ord (n - 1 - x)))) := by
    intro n x hx
    refine ⟨by show n = x + (1 + (n - 1 - x)); omega, fun z hz => ?_, fun z u hz hu => ?_⟩
    · simp [osum, ord]
    · have hz : z < n := hz
      have hu : u < n := hu
      simp only [osum, ord]
      by_cases c1 : z < x
      · by_cases c2 : u < x
        · simp [c1, c2]
        · simp [c1, c2]; omega
      · by_cases c2 : u < x
        · simp [c1, c2]; omega
        · by_cases c3 : z - x < 1
          · by_cases c4 : u - x < 1
            · simp [c1, c2, c3, c4]; omega
            · simp [c1, c2, c3, c4]; omega
          · by_cases c4 : u - x < 1
            · simp [c1, c2, c3, c4]; omega
            · simp [c1, c2, c3, c4]; omega
  refine Like.eqv2 (split hx) (split hy) (by simp; exact hx) (by simp; exact hy) ?_
  have := (Mix.right (n := (ord x).n) (n' := (ord y).n) (y := 0) (y' := 0) Mix.nil).eqv (ord_eqv h1) ((Mix.left (n := (ord 1).n) (n' := (ord 1).n) (x := 0) (x' := 0) Mix.nil (by decide) (by decide)).eqv (Eqv.refl k (ord 1) [0]) (ord_eqv h2))
  exact this
end Go.Proofs.YtnhlhjehocngcaaDoor.Gs

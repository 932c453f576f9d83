/- Contracts of the program's functions and what they compute: part 5. Conditions: those that each theorem states. -/
import Derived.Lib.ItoaNum
namespace Go.Proofs.YtofmagiahmmmgaaGreatDoor.Gs
/-- A structure: how many elements, which are in the set, which are related. -/
structure St where
  n : Nat
  s : Nat → Bool
  r : Nat → Nat → Bool
def bitU (b : Bool) : UInt8 := if b then 49 else 48
theorem bitU_inj {a b : Bool} (h : bitU a = bitU b) : a = b := by
  cases a <;> cases b <;> first | rfl | (revert h; decide)
/-- The atoms of an element behind others. -/
def atomsAt (a : St) (asL : List Nat) (x : Nat) : List UInt8 :=
  bitU (a.s x) :: ((asL ++ [x]).flatMap fun y => [bitU (decide (x = y)), bitU (a.r x y), bitU (a.r y x)])
def atomsTo (a : St) (asL : List Nat) : Nat → List UInt8
  | 0 => []
  | i + 1 => atomsTo a asL i ++ atomsAt a (asL.take i) (asL.getD i 0)
/-- The atoms of a list. -/
def atoms (a : St) (asL : List Nat) : List UInt8 := atomsTo a asL asL.length
theorem atomsTo_more (a : St) (asL : List Nat) (x : Nat) (i : Nat) (h : i ≤ asL.length) : atomsTo a (asL ++ [x]) i = atomsTo a asL i := by
  induction i with
  | zero => rfl
  | succ i ih =>
    have hi : i < asL.length := by omega
    simp only [atomsTo]
    rw [ih (by omega), List.take_append_of_le_length (by omega)]
    congr 2
    simp [List.getElem?_append_left hi]
theorem atoms_snoc (a : St) (asL : List Nat) (x : Nat) : atoms a (asL ++ [x]) = atoms a asL ++ atomsAt a asL x := by
  unfold atoms
  rw [List.length_append, List.length_singleton]
  simp only [atomsTo]
  rw [atomsTo_more a asL x _ (Nat.le_refl _)]
  simp
theorem atomsAt_length (a : St) (asL : List Nat) (x : Nat) : (atomsAt a asL x).length = 4 + 3 * asL.length := by
  have h : ∀ l : List Nat, (l.flatMap fun y => [bitU (decide (x = y)), bitU (a.r x y), bitU (a.r y x)]).length = 3 * l.length := by
    intro l
    induction l with
    | nil => rfl
    | cons y l ih => simp only [List.flatMap_cons, List.length_append, List.length_cons, List.length_nil, ih]; omega
  unfold atomsAt
  rw [List.length_cons, h]
  simp; omega
theorem atomsTo_length (a b : St) (asL bs : List Nat) (_ha : ∀ i, i ≤ asL.length → True) (i : Nat) (h : i ≤ asL.length) (h' : i ≤ bs.length) : (atomsTo a asL i).length = (atomsTo b bs i).length := by
  induction i with
  | zero => rfl
  | succ i ih =>
    simp only [atomsTo, List.length_append, atomsAt_length, List.length_take]
    rw [ih (by omega) (by omega)]
    omega
/-- One more element on each side, in the same way. -/
def still (a : St) (asL : List Nat) (b : St) (bs : List Nat) (x y : Nat) : Bool :=
  (a.s x == b.s y) && (a.r x x == b.r y y) && (asL.zip bs).all fun p => ((decide (p.1 = x)) == (decide (p.2 = y))) && (a.r p.1 x == b.r p.2 y) && (a.r x p.1 == b.r y p.2)
def same (a : St) (asL : List Nat) (b : St) (bs : List Nat) : Bool :=
  (List.range asL.length).all fun i => still a (asL.take i) b (bs.take i) (asL.getD i 0) (bs.getD i 0)
theorem same_snoc {a b : St} {asL bs : List Nat} {x y : Nat} (hl : asL.length = bs.length) : same a (asL ++ [x]) b (bs ++ [y]) = (same a asL b bs && still a asL b bs x y) := by
  unfold same
  rw [List.length_append, List.length_singleton, List.range_succ, List.all_append]
  congr 1
  · rw [Bool.eq_iff_iff, List.all_eq_true, List.all_eq_true]
    have key : ∀ i, i ∈ List.range asL.length → still a ((asL ++ [x]).take i) b ((bs ++ [y]).take i) ((asL ++ [x]).getD i 0) ((bs ++ [y]).getD i 0) = still a (asL.take i) b (bs.take i) (asL.getD i 0) (bs.getD i 0) := by
      intro i hi
      have hi := List.mem_range.1 hi
      rw [List.take_append_of_le_length (by omega), List.take_append_of_le_length (by omega)]
      simp [List.getElem?_append_left hi, List.getElem?_append_left (show i < bs.length by omega)]
    constructor
    · intro h i hi; rw [← key i hi]; exact h i hi
    · intro h i hi; rw [key i hi]; exact h i hi
  · simp [hl]
theorem flat_eq {a b : St} {x y : Nat} : ∀ (asL bs : List Nat), asL.length = bs.length →
    ((asL.flatMap fun v => [bitU (decide (x = v)), bitU (a.r x v), bitU (a.r v x)]) = (bs.flatMap fun v => [bitU (decide (y = v)), bitU (b.r y v), bitU (b.r v y)]) ↔
      ∀ p ∈ asL.zip bs, decide (p.1 = x) = decide (p.2 = y) ∧ a.r p.1 x = b.r p.2 y ∧ a.r x p.1 = b.r y p.2)
  | [], [], _ => by simp
  | [], _ :: _, h => by simp at h
  | _ :: _, [], h => by simp at h
  | v :: asL, w :: bs, h => by
    have ih := flat_eq (a := a) (b := b) (x := x) (y := y) asL bs (by simpa using h)
    simp only [List.flatMap_cons, List.cons_append, List.nil_append, List.cons.injEq, List.zip_cons_cons, List.mem_cons, forall_eq_or_imp, ih]
    constructor
    · rintro ⟨h1, h2, h3, h4⟩
      refine ⟨⟨?_, bitU_inj h3, bitU_inj h2⟩, h4⟩
      have := bitU_inj h1
      rw [decide_eq_decide] at this ⊢
      constructor
      · intro e; exact (this.1 e.symm).symm
      · intro e; exact (this.2 e.symm).symm
    · rintro ⟨⟨h1, h2, h3⟩, h4⟩
      refine ⟨?_, by rw [h3], by rw [h2], h4⟩
      congr 1
      rw [decide_eq_decide] at h1 ⊢
      constructor
      · intro e; exact (h1.1 e.symm).symm
      · intro e; exact (h1.2 e.symm).symm
theorem atomsAt_eq {a b : St} {asL bs : List Nat} {x y : Nat} (hl : asL.length = bs.length) : atomsAt a asL x = atomsAt b bs y ↔ still a asL b bs x y = true := by
  unfold atomsAt still
  rw [List.cons.injEq, flat_eq _ _ (by simp [hl])]
  rw [List.zip_append hl]
  simp only [List.mem_append, Bool.and_eq_true, beq_iff_eq, List.all_eq_true]
  constructor
  · rintro ⟨h1, h2⟩
    refine ⟨⟨bitU_inj h1, ?_⟩, fun p hp => ?_⟩
    · exact (h2 (x, y) (.inr (by simp))).2.1
    · have := h2 p (.inl hp)
      exact ⟨⟨this.1, this.2.1⟩, this.2.2⟩
  · rintro ⟨⟨h1, h2⟩, h3⟩
    refine ⟨by rw [h1], fun p hp => ?_⟩
    rcases hp with hp | hp
    · have := h3 p hp
      exact ⟨this.1.1, this.1.2, this.2⟩
    · simp at hp
      subst hp
      exact ⟨by simp, h2, h2⟩
theorem append_inj_len {α : Type} {a b c d : List α} (h : a ++ b = c ++ d) (hl : a.length = c.length) : a = c ∧ b = d := List.append_inj h hl
theorem list_snoc {α : Type} (l : List α) : l = [] ∨ ∃ m x, l = m ++ [x] := by
  rcases List.eq_nil_or_concat l with h | ⟨m, x, h⟩
  · exact .inl h
  · exact .inr ⟨m, x, by simpa using h⟩
theorem same_iff {a b : St} : ∀ (n : Nat) (asL bs : List Nat), asL.length = n → bs.length = n → (same a asL b bs = true ↔ atoms a asL = atoms b bs) := by
  intro n
  induction n with
  | zero =>
    intro asL bs ha hb
    obtain rfl := List.eq_nil_of_length_eq_zero ha
    obtain rfl := List.eq_nil_of_length_eq_zero hb
    simp [same, atoms, atomsTo]
  | succ n ih =>
    intro asL bs ha hb
    rcases list_snoc asL with rfl | ⟨asL, x, rfl⟩
    · simp at ha
    rcases list_snoc bs with rfl | ⟨bs, y, rfl⟩
    · simp at hb
    simp at ha hb
    have hl : asL.length = bs.length := by omega
    rw [same_snoc hl, Bool.and_eq_true, ih asL bs ha hb, ← atomsAt_eq hl, atoms_snoc, atoms_snoc]
    constructor
    · rintro ⟨h1, h2⟩; rw [h1, h2]
    · intro h
      exact append_inj_len h (atomsTo_length a b asL bs (fun _ _ => trivial) asL.length (Nat.le_refl _) (by omega) |>.trans (by unfold atoms; rw [hl]))
/-- The second player wins asL many rounds. -/
def goes : Nat → (a : St) → List Nat → (b : St) → List Nat → Bool
  | 0, _, _, _, _ => true
  | k + 1, a, asL, b, bs =>
    ((List.range a.n).all fun x => (List.range b.n).any fun y => still a asL b bs x y && goes k a (asL ++ [x]) b (bs ++ [y])) &&
    ((List.range b.n).all fun y => (List.range a.n).any fun x => still b bs a asL y x && goes k b (bs ++ [y]) a (asL ++ [x]))
def wins (k : Nat) (a : St) (asL : List Nat) (b : St) (bs : List Nat) : Bool := same a asL b bs && goes k a asL b bs
/-- Not told apart by so many rounds. -/
def Eqv : Nat → (a : St) → List Nat → (b : St) → List Nat → Prop
  | 0, a, asL, b, bs => atoms a asL = atoms b bs
  | k + 1, a, asL, b, bs => atoms a asL = atoms b bs ∧ (∀ x, x < a.n → ∃ y, y < b.n ∧ Eqv k a (asL ++ [x]) b (bs ++ [y])) ∧ (∀ y, y < b.n → ∃ x, x < a.n ∧ Eqv k a (asL ++ [x]) b (bs ++ [y]))
theorem Eqv.atoms {k : Nat} {a b : St} {asL bs : List Nat} (h : Eqv k a asL b bs) : atoms a asL = Gs.atoms b bs := by
  cases k with
  | zero => exact h
  | succ k => exact h.1
theorem Eqv.refl : ∀ (k : Nat) (a : St) (asL : List Nat), Eqv k a asL a asL
  | 0, _, _ => rfl
  | k + 1, a, _ => ⟨rfl, fun x hx => ⟨x, hx, Eqv.refl k a _⟩, fun x hx => ⟨x, hx, Eqv.refl k a _⟩⟩
theorem Eqv.symm : ∀ {k : Nat} {a b : St} {asL bs : List Nat}, Eqv k a asL b bs → Eqv k b bs a asL
  | 0, _, _, _, _, h => Eq.symm h
  | _ + 1, _, _, _, _, ⟨h1, h2, h3⟩ => ⟨h1.symm, fun y hy => let ⟨x, hx, h⟩ := h3 y hy; ⟨x, hx, h.symm⟩, fun x hx => let ⟨y, hy, h⟩ := h2 x hx; ⟨y, hy, h.symm⟩⟩
theorem Eqv.trans : ∀ {k : Nat} {a b c : St} {asL bs cs : List Nat}, Eqv k a asL b bs → Eqv k b bs c cs → Eqv k a asL c cs
  | 0, _, _, _, _, _, _, h, h' => Eq.trans h h'
  | _ + 1, _, _, _, _, _, _, ⟨h1, h2, h3⟩, ⟨g1, g2, g3⟩ =>
    ⟨h1.trans g1, fun x hx => let ⟨y, hy, h⟩ := h2 x hx; let ⟨z, hz, g⟩ := g2 y hy; ⟨z, hz, h.trans g⟩,
      fun z hz => let ⟨y, hy, g⟩ := g3 z hz; let ⟨x, hx, h⟩ := h3 y hy; ⟨x, hx, h.trans g⟩⟩
theorem still_of_eqv {k : Nat} {a b : St} {asL bs : List Nat} {x y : Nat} (hl : asL.length = bs.length) (h : Eqv k a (asL ++ [x]) b (bs ++ [y])) : still a asL b bs x y = true := by
  have h := h.atoms
  rw [atoms_snoc, atoms_snoc] at h
  have := append_inj_len h (atomsTo_length a b asL bs (fun _ _ => trivial) asL.length (Nat.le_refl _) (by omega) |>.trans (by unfold Gs.atoms; rw [hl]))
  exact (atomsAt_eq hl).1 this.2
theorem goes_iff : ∀ (k : Nat) (a b : St) (asL bs : List Nat), asL.length = bs.length → Gs.atoms a asL = Gs.atoms b bs → (goes k a asL b bs = true ↔ Eqv k a asL b bs)
  | 0, a, b, asL, bs, _, ha => by simp [goes, Eqv, ha]
  | k + 1, a, b, asL, bs, hl, ha => by
    have hs : ∀ x y, still a asL b bs x y = true → Gs.atoms a (asL ++ [x]) = Gs.atoms b (bs ++ [y]) := fun x y h => by
      rw [atoms_snoc, atoms_snoc, ha, (atomsAt_eq hl).2 h]
    have hs' : ∀ x y, still b bs a asL y x = true → Gs.atoms b (bs ++ [y]) = Gs.atoms a (asL ++ [x]) := fun x y h => by
      rw [atoms_snoc, atoms_snoc, ha, (atomsAt_eq hl.symm).2 h]
    have ih := fun x y (h : still a asL b bs x y = true) => goes_iff k a b (asL ++ [x]) (bs ++ [y]) (by simp [hl]) (hs x y h)
    have ih' := fun x y (h : still b bs a asL y x = true) => goes_iff k b a (bs ++ [y]) (asL ++ [x]) (by simp [hl]) (hs' x y h)
    simp only [goes, Eqv, Bool.and_eq_true, List.all_eq_true, List.any_eq_true, List.mem_range]
    constructor
    · rintro ⟨h1, h2⟩
      refine ⟨ha, fun x hx => ?_, fun y hy => ?_⟩
      · obtain ⟨y, hy, hs1, hg⟩ := h1 x hx
        exact ⟨y, hy, (ih x y hs1).1 hg⟩
      · obtain ⟨x, hx, hs1, hg⟩ := h2 y hy
        exact ⟨x, hx, ((ih' x y hs1).1 hg).symm⟩
    · rintro ⟨_, h1, h2⟩
      refine ⟨fun x hx => ?_, fun y hy => ?_⟩
      · obtain ⟨y, hy, h⟩ := h1 x hx
        have := still_of_eqv hl h
        exact ⟨y, hy, this, (ih x y this).2 h⟩
      · obtain ⟨x, hx, h⟩ := h2 y hy
        have := still_of_eqv hl.symm h.symm
        exact ⟨x, hx, this, (ih' x y this).2 h.symm⟩
theorem wins_iff {k : Nat} {a b : St} {asL bs : List Nat} (hl : asL.length = bs.length) : wins k a asL b bs = true ↔ Eqv k a asL b bs := by
  unfold wins
  rw [Bool.and_eq_true, same_iff bs.length asL bs hl rfl]
  constructor
  · rintro ⟨h1, h2⟩; exact (goes_iff k a b asL bs hl h1).1 h2
  · intro h; exact ⟨h.atoms, (goes_iff k a b asL bs hl h.atoms).2 h⟩
end Go.Proofs.YtofmagiahmmmgaaGreatDoor.Gs
namespace Go.Proofs.YtofmagiahmmmgaaGreatDoor.Gs
set_option linter.unusedVariables false
theorem dig_ne (u : Nat) : ∀ c ∈ Lib.decDigits u, 48 ≤ c.toNat ∧ c.toNat ≤ 57 := by
  induction u using Nat.strongRecOn with
  | _ u ih =>
    have hd : ∀ d, d < 10 → 48 ≤ (UInt8.ofNat (48 + d)).toNat ∧ (UInt8.ofNat (48 + d)).toNat ≤ 57 := by
      intro d hd
      have e : (UInt8.ofNat (48 + d)).toNat = (48 + d) % 256 := rfl
      rw [e]
      omega
    intro c hc
    rw [Lib.decDigits] at hc
    by_cases h : u < 10
    · rw [dif_pos h] at hc
      rw [List.mem_singleton.1 hc]
      exact hd u h
    · rw [dif_neg h] at hc
      rcases List.mem_append.1 hc with hc | hc
      · exact ih (u / 10) (by omega) c hc
      · rw [List.mem_singleton.1 hc]
        exact hd _ (by omega)
theorem dig_inj : ∀ (u v : Nat), Lib.decDigits u = Lib.decDigits v → u = v := by
  intro u
  induction u using Nat.strongRecOn with
  | _ u ih =>
    have key : ∀ a b, a < 10 → b < 10 → UInt8.ofNat (48 + a) = UInt8.ofNat (48 + b) → a = b := by
      intro a b ha hb h
      have h1 : (48 + a) % 256 = (48 + b) % 256 := congrArg UInt8.toNat h
      omega
    have pos : ∀ n, 0 < (Lib.decDigits n).length := by
      intro n; rw [Lib.decDigits]; split <;> simp
    intro v h
    have e1 := Lib.decDigits.eq_1 u
    have e2 := Lib.decDigits.eq_1 v
    rw [e1, e2] at h
    by_cases hu : u < 10
    · rw [dif_pos hu] at h
      by_cases hv : v < 10
      · rw [dif_pos hv] at h
        exact key u v hu hv (List.cons.inj h).1
      · rw [dif_neg hv] at h
        have h1 := congrArg List.length h
        have h2 := pos (v / 10)
        rw [List.length_append, List.length_singleton, List.length_singleton] at h1
        omega
    · rw [dif_neg hu] at h
      by_cases hv : v < 10
      · rw [dif_pos hv] at h
        have h1 := congrArg List.length h
        have h2 := pos (u / 10)
        rw [List.length_append, List.length_singleton, List.length_singleton] at h1
        omega
      · rw [dif_neg hv] at h
        obtain ⟨h1, h2⟩ := List.append_inj' h rfl
        have h3 := ih (u / 10) (by omega) _ h1
        have h4 := key (u % 10) (v % 10) (by omega) (by omega) (List.cons.inj h2).1
        omega
/-- Numbers, each behind a comma. -/
def commas (L : List Nat) : List UInt8 := L.flatMap fun n => 44 :: Lib.decDigits n
/-- The description of what can happen: the rounds, the atoms, and the numbers of what can come next. -/
def desc (r : Nat) (at' : List UInt8) (L : List Nat) : List UInt8 := Lib.decDigits r ++ [58] ++ (at' ++ commas L)
theorem split44 : ∀ {a b c d : List UInt8}, (∀ x ∈ a, x ≠ 44) → (∀ x ∈ c, x ≠ 44) → (b = [] ∨ ∃ t, b = 44 :: t) → (d = [] ∨ ∃ t, d = 44 :: t) → a ++ b = c ++ d → a = c ∧ b = d
  | [], b, [], d, _, _, _, _, h => ⟨rfl, h⟩
  | [], b, y :: c, d, _, hc, hb, _, h => by
    rcases hb with rfl | ⟨t, rfl⟩
    · simp at h
    · simp at h
      exact absurd h.1.symm (hc y (by simp))
  | x :: a, b, [], d, ha, _, _, hd, h => by
    rcases hd with rfl | ⟨t, rfl⟩
    · simp at h
    · simp at h
      exact absurd h.1 (ha x (by simp))
  | x :: a, b, y :: c, d, ha, hc, hb, hd, h => by
    simp only [List.cons_append, List.cons.injEq] at h
    obtain ⟨h1, h2⟩ := split44 (fun z hz => ha z (by simp [hz])) (fun z hz => hc z (by simp [hz])) hb hd h.2
    exact ⟨by rw [h.1, h1], h2⟩
theorem commas_form : ∀ L : List Nat, commas L = [] ∨ ∃ t, commas L = 44 :: t
  | [] => .inl rfl
  | n :: L => .inr ⟨_, rfl⟩
theorem dig_44 (u : Nat) : ∀ x ∈ Lib.decDigits u, x ≠ 44 := by
  intro x hx e
  have := dig_ne u x hx
  rw [e] at this
  exact absurd this.1 (by decide)
theorem commas_inj : ∀ {L M : List Nat}, commas L = commas M → L = M
  | [], [], _ => rfl
  | [], m :: M, h => by simp [commas] at h
  | n :: L, [], h => by simp [commas] at h
  | n :: L, m :: M, h => by
    have h' : Lib.decDigits n ++ commas L = Lib.decDigits m ++ commas M := by
      simpa [commas] using h
    obtain ⟨h1, h2⟩ := split44 (dig_44 n) (dig_44 m) (commas_form L) (commas_form M) h'
    rw [dig_inj _ _ h1, commas_inj h2]
theorem bitU_44 (b : Bool) : bitU b ≠ 44 := by cases b <;> decide
theorem atomsAt_44 (a : St) (asL : List Nat) (x : Nat) : ∀ c ∈ atomsAt a asL x, c ≠ 44 := by
  intro c hc
  rcases List.mem_cons.1 hc with rfl | hc
  · exact bitU_44 _
  · obtain ⟨y, _, hy⟩ := List.mem_flatMap.1 hc
    simp at hy
    rcases hy with rfl | rfl | rfl <;> exact bitU_44 _
theorem atomsTo_44 (a : St) (asL : List Nat) (i : Nat) : ∀ c ∈ atomsTo a asL i, c ≠ 44 := by
  induction i with
  | zero => intro c hc; cases hc
  | succ i ih =>
    intro c hc
    rcases List.mem_append.1 hc with hc | hc
    · exact ih c hc
    · exact atomsAt_44 _ _ _ c hc
theorem desc_inj {r : Nat} {a b : St} {asL bs : List Nat} {L M : List Nat} (h : desc r (atoms a asL) L = desc r (atoms b bs) M) : atoms a asL = atoms b bs ∧ L = M := by
  unfold desc at h
  have h := List.append_cancel_left h
  obtain ⟨h1, h2⟩ := split44 (atomsTo_44 a asL _) (atomsTo_44 b bs _) (commas_form L) (commas_form M) h
  exact ⟨h1, commas_inj h2⟩
/-- In the descriptions D, n is the number of what can happen in a game of r rounds. -/
def TypeNum (D : List (List UInt8)) (a : St) : Nat → List Nat → Nat → Prop
  | 0, asL, n => D[n]? = some (desc 0 (atoms a asL) [])
  | r + 1, asL, n => ∃ L : List Nat, L.Pairwise (· < ·) ∧ (∀ x, x < a.n → ∃ m ∈ L, TypeNum D a r (asL ++ [x]) m) ∧ (∀ m ∈ L, ∃ x, x < a.n ∧ TypeNum D a r (asL ++ [x]) m) ∧ D[n]? = some (desc (r + 1) (atoms a asL) L)
theorem TypeNum.more {D E : List (List UInt8)} {a : St} : ∀ {r : Nat} {asL : List Nat} {n : Nat}, TypeNum D a r asL n → TypeNum (D ++ E) a r asL n
  | 0, asL, n, h => by
    have hn : n < D.length := (List.getElem?_eq_some_iff.1 h).1
    show (D ++ E)[n]? = _
    rw [List.getElem?_append_left hn]; exact h
  | r + 1, asL, n, ⟨L, h1, h2, h3, h4⟩ => by
    have hn : n < D.length := (List.getElem?_eq_some_iff.1 h4).1
    refine ⟨L, h1, fun x hx => ?_, fun m hm => ?_, ?_⟩
    · obtain ⟨m, hm, h⟩ := h2 x hx
      exact ⟨m, hm, h.more⟩
    · obtain ⟨x, hx, h⟩ := h3 m hm
      exact ⟨x, hx, h.more⟩
    · rw [List.getElem?_append_left hn]; exact h4
theorem nodup_at {α : Type} {D : List α} (h : D.Nodup) {n m : Nat} {x : α} (hn : D[n]? = some x) (hm : D[m]? = some x) : n = m := by
  obtain ⟨h1, h2⟩ := List.getElem?_eq_some_iff.1 hn
  obtain ⟨h3, h4⟩ := List.getElem?_eq_some_iff.1 hm
  have hp := List.pairwise_iff_getElem.1 h
  rcases Nat.lt_trichotomy n m with hl | hl | hl
  · exact absurd (h2.trans h4.symm) (hp n m h1 h3 hl)
  · exact hl
  · exact absurd (h4.trans h2.symm) (hp m n h3 h1 hl)
theorem sorted_ext : ∀ {L M : List Nat}, L.Pairwise (· < ·) → M.Pairwise (· < ·) → (∀ x, x ∈ L ↔ x ∈ M) → L = M
  | [], [], _, _, _ => rfl
  | [], m :: M, _, _, h => by have := (h m).2 (by simp); cases this
  | n :: L, [], _, _, h => by have := (h n).1 (by simp); cases this
  | n :: L, m :: M, hL, hM, h => by
    have hL' := List.pairwise_cons.1 hL
    have hM' := List.pairwise_cons.1 hM
    have e : n = m := by
      rcases List.mem_cons.1 ((h n).1 (by simp)) with e | h1
      · exact e
      · rcases List.mem_cons.1 ((h m).2 (by simp)) with e | h2
        · exact e.symm
        · have := hL'.1 m h2
          have := hM'.1 n h1
          omega
    subst e
    congr 1
    refine sorted_ext hL'.2 hM'.2 fun x => ?_
    constructor
    · intro hx
      rcases List.mem_cons.1 ((h x).1 (by simp [hx])) with e | h1
      · have := hL'.1 x hx; omega
      · exact h1
    · intro hx
      rcases List.mem_cons.1 ((h x).2 (by simp [hx])) with e | h1
      · have := hM'.1 x hx; omega
      · exact h1
theorem typeNum_iff {D : List (List UInt8)} (hD : D.Nodup) {a b : St} : ∀ {r : Nat} {asL bs : List Nat} {n m : Nat}, TypeNum D a r asL n → TypeNum D b r bs m → (n = m ↔ Eqv r a asL b bs)
  | 0, asL, bs, n, m, h, k => by
    have h : D[n]? = some (desc 0 (atoms a asL) []) := h
    have k : D[m]? = some (desc 0 (atoms b bs) []) := k
    show _ ↔ atoms a asL = atoms b bs
    constructor
    · intro e
      subst e
      rw [h] at k
      exact (desc_inj (Option.some.inj k)).1
    · intro e
      rw [e] at h
      exact nodup_at hD h k
  | r + 1, asL, bs, n, m, ⟨L, l1, l2, l3, l4⟩, ⟨M, m1, m2, m3, m4⟩ => by
    constructor
    · intro e
      subst e
      rw [l4] at m4
      obtain ⟨ha, hL⟩ := desc_inj (Option.some.inj m4)
      subst hL
      refine ⟨ha, fun x hx => ?_, fun y hy => ?_⟩
      · obtain ⟨k, hk, h1⟩ := l2 x hx
        obtain ⟨y, hy, h2⟩ := m3 k hk
        exact ⟨y, hy, (typeNum_iff hD h1 h2).1 rfl⟩
      · obtain ⟨k, hk, h1⟩ := m2 y hy
        obtain ⟨x, hx, h2⟩ := l3 k hk
        exact ⟨x, hx, (typeNum_iff hD h2 h1).1 rfl⟩
    · rintro ⟨ha, h1, h2⟩
      have hL : L = M := by
        refine sorted_ext l1 m1 fun k => ?_
        constructor
        · intro hk
          obtain ⟨x, hx, t1⟩ := l3 k hk
          obtain ⟨y, hy, e⟩ := h1 x hx
          obtain ⟨k', hk', t2⟩ := m2 y hy
          rw [(typeNum_iff hD t1 t2).2 e]; exact hk'
        · intro hk
          obtain ⟨y, hy, t2⟩ := m3 k hk
          obtain ⟨x, hx, e⟩ := h2 y hy
          obtain ⟨k', hk', t1⟩ := l2 x hx
          rw [← (typeNum_iff hD t1 t2).2 e]; exact hk'
      rw [ha, hL] at l4
      exact nodup_at hD l4 m4
/-- A number put into a list of numbers that goes up, once. -/
def ins : List Nat → Nat → List Nat
  | [], n => [n]
  | x :: L, n => if x = n then x :: L else if n < x then n :: x :: L else x :: ins L n
theorem mem_ins {L : List Nat} {n x : Nat} : x ∈ ins L n ↔ x = n ∨ x ∈ L := by
  induction L with
  | nil => simp [ins]
  | cons y L ih =>
    unfold ins
    split
    · rename_i h; subst h; simp
    · split
      · simp
      · simp only [List.mem_cons, ih]
        constructor
        · rintro (h | h | h) <;> simp [h]
        · rintro (h | h | h) <;> simp [h]
theorem ins_sorted {L : List Nat} {n : Nat} (h : L.Pairwise (· < ·)) : (ins L n).Pairwise (· < ·) := by
  induction L with
  | nil => simp [ins]
  | cons y L ih =>
    have h' := List.pairwise_cons.1 h
    unfold ins
    split
    · exact h
    · split
      · rename_i h1 h2
        refine List.pairwise_cons.2 ⟨fun z hz => ?_, h⟩
        rcases List.mem_cons.1 hz with rfl | hz
        · exact h2
        · have := h'.1 z hz; omega
      · rename_i h1 h2
        refine List.pairwise_cons.2 ⟨fun z hz => ?_, ih h'.2⟩
        rcases mem_ins.1 hz with rfl | hz
        · omega
        · exact h'.1 z hz
theorem ins_length (L : List Nat) (n : Nat) : (ins L n).length ≤ L.length + 1 := by
  induction L with
  | nil => simp [ins]
  | cons y L ih =>
    unfold ins
    split
    · simp
    · split
      · simp
      · simp; omega
/-- How far a list goes where a number is put in. -/
theorem ins_at (L : List Nat) (n : Nat) : ∀ k, k ≤ L.length → (∀ j (h : j < L.length), j < k → L[j] < n) →
    ins L n = L.take k ++ ins (L.drop k) n := by
  intro k
  induction k generalizing L with
  | zero => intro _ _; simp
  | succ k ih =>
    intro hk h
    match L with
    | [] => simp at hk
    | x :: L =>
      have h0 := h 0 (by simp) (by omega)
      simp at h0
      rw [ins, if_neg (by omega), if_neg (by omega), ih L (by simpa using hk) (fun j hj hjk => by have := h (j + 1) (by simpa using hj) (by omega); simpa using this)]
      simp
end Go.Proofs.YtofmagiahmmmgaaGreatDoor.Gs
namespace Go.Proofs.YtofmagiahmmmgaaGreatDoor.Gs
set_option linter.unusedVariables false
theorem eqv_less : ∀ {k : Nat} {a b : St} {asL bs : List Nat}, Eqv (k + 1) a asL b bs → Eqv k a asL b bs
  | 0, _, _, _, _, h => h.1
  | k + 1, _, _, _, _, ⟨h1, h2, h3⟩ => ⟨h1, fun x hx => let ⟨y, hy, h⟩ := h2 x hx; ⟨y, hy, eqv_less h⟩, fun y hy => let ⟨x, hx, h⟩ := h3 y hy; ⟨x, hx, eqv_less h⟩⟩
/-- Alike lengths. -/
def alike (k n m : Nat) : Prop := n = m ∨ 2 ^ k - 1 ≤ n ∧ 2 ^ k - 1 ≤ m
end Go.Proofs.YtofmagiahmmmgaaGreatDoor.Gs
